/- join's machine in memory. -/
import Derived.Test.YtkgmbomfkdkofaaPasteM
import Derived.Test.YtkgmbomfkdkofaaJoinR
namespace Go.Proofs.Ytkgmbomfkdkofaa
open Go Go.RowKit

structure JMem (g B : Nat) (s : JoS) (fl : Nat → Bool) (cs : Array Value) (V : Nat → Value) (w : World) : Prop where
  blk : Blk w g 84 cs
  c0 : cs[0]? = some (.int .i64 s.at_)
  c1 : cs[1]? = some (.bool s.more)
  c2 : cs[2]? = some (.bool s.a.over)
  c3 : cs[3]? = some (strv [s.by_])
  c4 : cs[4]? = some (.int .i64 s.most)
  q : ∀ k, k < 2 → QAt cs (5 + k * 70) ⟨s.beg k, s.a.q k, s.a.en k⟩ (fl k) (V k)
  key : ∀ k, k < 2 → cs[5 + k * 70 + 68]? = some (strv (s.a.key k))
  grp : ∀ k, k < 2 → cs[5 + k * 70 + 69]? = some (V (2 + k))
  want : ∀ k, k < 2 → cs[145 + k]? = some (.bool (s.a.want k))
  pi : cs[147]? = some (.int .i64 s.a.pi)
  pj : cs[148]? = some (.int .i64 s.a.pj)
  own : ∀ k, k < 2 → OwnT w B 9 (V k) (strs (s.a.q k))
  gown : ∀ k, k < 2 → OwnT w B 9 (V (2 + k)) (strs (s.a.ls k))
  apart : ∀ i j, i < 4 → j < 4 → i ≠ j → ∀ x, (V i).ownBlock = some x → (V j).ownBlock ≠ some x
  ge : B ≤ g

/-- The memory that is its own. -/
def jF (g : Nat) (V : Nat → Value) (k : Nat) : Prop := k = g ∨ ∃ i, i < 4 ∧ (V i).ownBlock = some k

theorem ty_sj : 9 ≠ 84 := by decide

namespace JMem
variable {g B : Nat} {s s' : JoS} {fl : Nat → Bool} {cs : Array Value} {V : Nat → Value} {w w' : World}
theorem lt (h : JMem g B s fl cs V w) {i : Nat} (hi : i ≤ 148) : i < cs.size := Nat.lt_of_le_of_lt hi (Array.getElem?_eq_some_iff.1 h.pj).1
theorem own4 (h : JMem g B s fl cs V w) {i : Nat} (hi : i < 4) : ∃ xs, OwnT w B 9 (V i) xs := by
  by_cases h2 : i < 2
  · exact ⟨_, h.own i h2⟩
  · have := h.gown (i - 2) (by omega)
    rw [show 2 + (i - 2) = i by omega] at this
    exact ⟨_, this⟩
theorem vne (h : JMem g B s fl cs V w) {i : Nat} (hi : i < 4) : (V i).ownBlock ≠ some g := by
  obtain ⟨xs, ho⟩ := h.own4 hi
  exact ho.ne h.blk ty_sj
theorem inside (h : JMem g B s fl cs V w) : ∀ k, jF g V k → B ≤ k ∧ k < w.heap.size := by
  rintro k (rfl | ⟨i, hi, hk⟩)
  · exact ⟨h.ge, h.blk.lt⟩
  · obtain ⟨xs, ho⟩ := h.own4 hi
    exact ho.lt k hk
/-- What has changed elsewhere. -/
theorem keep {S : Nat → Prop} (h : JMem g B s fl cs V w) (hc : Chg S w w') (hS : ∀ k, jF g V k → ¬ S k) : JMem g B s fl cs V w' :=
  ⟨h.blk.chg hc (hS g (.inl rfl)), h.c0, h.c1, h.c2, h.c3, h.c4, h.q, h.key, h.grp, h.want, h.pi, h.pj, fun k hk => (h.own k hk).chg hc fun x hx => hS x (.inr ⟨k, by omega, hx⟩), fun k hk => (h.gown k hk).chg hc fun x hx => hS x (.inr ⟨2 + k, by omega, hx⟩), h.apart, h.ge⟩
/-- Its own cells have changed. -/
theorem cells {cs' : Array Value} (h : JMem g B s fl cs V w) (hb : Blk w' g 84 cs') (hc : Chg (fun k => k = g) w w') (c0 : cs'[0]? = some (.int .i64 s'.at_)) (c1 : cs'[1]? = some (.bool s'.more)) (c2 : cs'[2]? = some (.bool s'.a.over)) (c3 : cs'[3]? = some (strv [s'.by_])) (c4 : cs'[4]? = some (.int .i64 s'.most))
    (hq : ∀ i k, k < 2 → 5 + k * 70 ≤ i → i < 5 + k * 70 + 68 → cs'[i]? = cs[i]?) (hg : ∀ k, k < 2 → cs'[5 + k * 70 + 69]? = cs[5 + k * 70 + 69]?) (key : ∀ k, k < 2 → cs'[5 + k * 70 + 68]? = some (strv (s'.a.key k))) (want : ∀ k, k < 2 → cs'[145 + k]? = some (.bool (s'.a.want k))) (pi : cs'[147]? = some (.int .i64 s'.a.pi)) (pj : cs'[148]? = some (.int .i64 s'.a.pj))
    (e1 : s'.a.q = s.a.q) (e2 : s'.a.en = s.a.en) (e3 : s'.beg = s.beg) (e4 : s'.a.ls = s.a.ls) : JMem g B s' fl cs' V w' :=
  ⟨hb, c0, c1, c2, c3, c4, fun k hk => by rw [e1, e2, e3]; exact (h.q k hk).far fun i h1 h2 => hq i k hk h1 h2, key, fun k hk => (hg k hk).trans (h.grp k hk), want, pi, pj,
    fun k hk => by rw [e1]; exact (h.own k hk).chg hc fun x hx e => h.vne (show k < 4 by omega) (by rw [hx, e]), fun k hk => by rw [e4]; exact (h.gown k hk).chg hc fun x hx e => h.vne (show 2 + k < 4 by omega) (by rw [hx, e]), h.apart, h.ge⟩

theorem set_at (h : JMem g B s fl cs V w) (n : Nat) : JMem g B { s with at_ := n } fl (cs.setIfInBounds 0 (.int .i64 (n : Nat))) V (w.setCell ⟨g, 0, none⟩ (.int .i64 (n : Nat))) ∧ Chg (fun k => k = g) w (w.setCell ⟨g, 0, none⟩ (.int .i64 (n : Nat))) := by
  have hc : Chg (fun k => k = g) w (w.setCell ⟨g, 0, none⟩ (.int .i64 (n : Nat))) := (Chg.refl (fun k => k = g) w).setCell (p := ⟨g, 0, none⟩) (.inl rfl) _
  exact ⟨h.cells (h.blk.set _ _) hc (by rw [Array.getElem?_setIfInBounds_self_of_lt (h.lt (by omega))]) (by rw [Array.getElem?_setIfInBounds_ne (by omega)]; exact h.c1) (by rw [Array.getElem?_setIfInBounds_ne (by omega)]; exact h.c2) (by rw [Array.getElem?_setIfInBounds_ne (by omega)]; exact h.c3) (by rw [Array.getElem?_setIfInBounds_ne (by omega)]; exact h.c4) (fun i k hk h1 h2 => Array.getElem?_setIfInBounds_ne (by omega)) (fun k hk => Array.getElem?_setIfInBounds_ne (by omega)) (fun k hk => by rw [Array.getElem?_setIfInBounds_ne (by omega)]; exact h.key k hk) (fun k hk => by rw [Array.getElem?_setIfInBounds_ne (by omega)]; exact h.want k hk) (by rw [Array.getElem?_setIfInBounds_ne (by omega)]; exact h.pi) (by rw [Array.getElem?_setIfInBounds_ne (by omega)]; exact h.pj) rfl rfl rfl rfl, hc⟩

theorem set_more (h : JMem g B s fl cs V w) (b : Bool) : JMem g B { s with more := b } fl (cs.setIfInBounds 1 (.bool b)) V (w.setCell ⟨g, 1, none⟩ (.bool b)) ∧ Chg (fun k => k = g) w (w.setCell ⟨g, 1, none⟩ (.bool b)) := by
  have hc : Chg (fun k => k = g) w (w.setCell ⟨g, 1, none⟩ (.bool b)) := (Chg.refl (fun k => k = g) w).setCell (p := ⟨g, 1, none⟩) (.inl rfl) _
  exact ⟨h.cells (h.blk.set _ _) hc (by rw [Array.getElem?_setIfInBounds_ne (by omega)]; exact h.c0) (by rw [Array.getElem?_setIfInBounds_self_of_lt (h.lt (by omega))]) (by rw [Array.getElem?_setIfInBounds_ne (by omega)]; exact h.c2) (by rw [Array.getElem?_setIfInBounds_ne (by omega)]; exact h.c3) (by rw [Array.getElem?_setIfInBounds_ne (by omega)]; exact h.c4) (fun i k hk h1 h2 => Array.getElem?_setIfInBounds_ne (by omega)) (fun k hk => Array.getElem?_setIfInBounds_ne (by omega)) (fun k hk => by rw [Array.getElem?_setIfInBounds_ne (by omega)]; exact h.key k hk) (fun k hk => by rw [Array.getElem?_setIfInBounds_ne (by omega)]; exact h.want k hk) (by rw [Array.getElem?_setIfInBounds_ne (by omega)]; exact h.pi) (by rw [Array.getElem?_setIfInBounds_ne (by omega)]; exact h.pj) rfl rfl rfl rfl, hc⟩

theorem set_over (h : JMem g B s fl cs V w) : JMem g B s.stop fl (cs.setIfInBounds 2 (.bool true)) V (w.setCell ⟨g, 2, none⟩ (.bool true)) ∧ Chg (fun k => k = g) w (w.setCell ⟨g, 2, none⟩ (.bool true)) := by
  have hc : Chg (fun k => k = g) w (w.setCell ⟨g, 2, none⟩ (.bool true)) := (Chg.refl (fun k => k = g) w).setCell (p := ⟨g, 2, none⟩) (.inl rfl) _
  exact ⟨h.cells (h.blk.set _ _) hc (by rw [Array.getElem?_setIfInBounds_ne (by omega)]; exact h.c0) (by rw [Array.getElem?_setIfInBounds_ne (by omega)]; exact h.c1) (by rw [Array.getElem?_setIfInBounds_self_of_lt (h.lt (by omega))]; rfl) (by rw [Array.getElem?_setIfInBounds_ne (by omega)]; exact h.c3) (by rw [Array.getElem?_setIfInBounds_ne (by omega)]; exact h.c4) (fun i k hk h1 h2 => Array.getElem?_setIfInBounds_ne (by omega)) (fun k hk => Array.getElem?_setIfInBounds_ne (by omega)) (fun k hk => by rw [Array.getElem?_setIfInBounds_ne (by omega)]; exact h.key k hk) (fun k hk => by rw [Array.getElem?_setIfInBounds_ne (by omega)]; exact h.want k hk) (by rw [Array.getElem?_setIfInBounds_ne (by omega)]; exact h.pi) (by rw [Array.getElem?_setIfInBounds_ne (by omega)]; exact h.pj) rfl rfl rfl rfl, hc⟩

theorem set_key (h : JMem g B s fl cs V w) (k : Nat) (hk : k < 2) (x : Bs) : JMem g B { s with a := { s.a with key := upd s.a.key k x } } fl (cs.setIfInBounds (5 + k * 70 + 68) (strv x)) V (w.setCell ⟨g, 5 + k * 70 + 68, none⟩ (strv x)) ∧ Chg (fun k => k = g) w (w.setCell ⟨g, 5 + k * 70 + 68, none⟩ (strv x)) := by
  have hc : Chg (fun k => k = g) w (w.setCell ⟨g, 5 + k * 70 + 68, none⟩ (strv x)) := (Chg.refl (fun k => k = g) w).setCell (p := ⟨g, 5 + k * 70 + 68, none⟩) (.inl rfl) _
  refine ⟨h.cells (h.blk.set _ _) hc (by rw [Array.getElem?_setIfInBounds_ne (by omega)]; exact h.c0) (by rw [Array.getElem?_setIfInBounds_ne (by omega)]; exact h.c1) (by rw [Array.getElem?_setIfInBounds_ne (by omega)]; exact h.c2) (by rw [Array.getElem?_setIfInBounds_ne (by omega)]; exact h.c3) (by rw [Array.getElem?_setIfInBounds_ne (by omega)]; exact h.c4)
    (fun i j hj h1 h2 => Array.getElem?_setIfInBounds_ne (by omega)) (fun j hj => Array.getElem?_setIfInBounds_ne (by omega)) (fun j hj => ?_) (fun j hj => by rw [Array.getElem?_setIfInBounds_ne (by omega)]; exact h.want j hj) (by rw [Array.getElem?_setIfInBounds_ne (by omega)]; exact h.pi) (by rw [Array.getElem?_setIfInBounds_ne (by omega)]; exact h.pj) rfl rfl rfl rfl, hc⟩
  show _ = some (strv (upd s.a.key k x j))
  by_cases hjk : j = k
  · subst hjk; rw [Array.getElem?_setIfInBounds_self_of_lt (h.lt (by omega)), upd_same]
  · rw [Array.getElem?_setIfInBounds_ne (by omega), upd_ne _ _ hjk]; exact h.key j hj
theorem set_want (h : JMem g B s fl cs V w) (k : Nat) (hk : k < 2) (b : Bool) : JMem g B { s with a := { s.a with want := upd s.a.want k b } } fl (cs.setIfInBounds (145 + k) (.bool b)) V (w.setCell ⟨g, 145 + k, none⟩ (.bool b)) ∧ Chg (fun k => k = g) w (w.setCell ⟨g, 145 + k, none⟩ (.bool b)) := by
  have hc : Chg (fun k => k = g) w (w.setCell ⟨g, 145 + k, none⟩ (.bool b)) := (Chg.refl (fun k => k = g) w).setCell (p := ⟨g, 145 + k, none⟩) (.inl rfl) _
  refine ⟨h.cells (h.blk.set _ _) hc (by rw [Array.getElem?_setIfInBounds_ne (by omega)]; exact h.c0) (by rw [Array.getElem?_setIfInBounds_ne (by omega)]; exact h.c1) (by rw [Array.getElem?_setIfInBounds_ne (by omega)]; exact h.c2) (by rw [Array.getElem?_setIfInBounds_ne (by omega)]; exact h.c3) (by rw [Array.getElem?_setIfInBounds_ne (by omega)]; exact h.c4)
    (fun i j hj h1 h2 => Array.getElem?_setIfInBounds_ne (by omega)) (fun j hj => Array.getElem?_setIfInBounds_ne (by omega)) (fun j hj => by rw [Array.getElem?_setIfInBounds_ne (by omega)]; exact h.key j hj) (fun j hj => ?_) (by rw [Array.getElem?_setIfInBounds_ne (by omega)]; exact h.pi) (by rw [Array.getElem?_setIfInBounds_ne (by omega)]; exact h.pj) rfl rfl rfl rfl, hc⟩
  show _ = some (Value.bool (upd s.a.want k b j))
  by_cases hjk : j = k
  · subst hjk; rw [Array.getElem?_setIfInBounds_self_of_lt (h.lt (by omega)), upd_same]
  · rw [Array.getElem?_setIfInBounds_ne (by omega), upd_ne _ _ hjk]; exact h.want j hj

theorem set_pi (h : JMem g B s fl cs V w) (n : Nat) : JMem g B { s with a := { s.a with pi := n } } fl (cs.setIfInBounds 147 (.int .i64 (n : Nat))) V (w.setCell ⟨g, 147, none⟩ (.int .i64 (n : Nat))) ∧ Chg (fun k => k = g) w (w.setCell ⟨g, 147, none⟩ (.int .i64 (n : Nat))) := by
  have hc : Chg (fun k => k = g) w (w.setCell ⟨g, 147, none⟩ (.int .i64 (n : Nat))) := (Chg.refl (fun k => k = g) w).setCell (p := ⟨g, 147, none⟩) (.inl rfl) _
  exact ⟨h.cells (h.blk.set _ _) hc (by rw [Array.getElem?_setIfInBounds_ne (by omega)]; exact h.c0) (by rw [Array.getElem?_setIfInBounds_ne (by omega)]; exact h.c1) (by rw [Array.getElem?_setIfInBounds_ne (by omega)]; exact h.c2) (by rw [Array.getElem?_setIfInBounds_ne (by omega)]; exact h.c3) (by rw [Array.getElem?_setIfInBounds_ne (by omega)]; exact h.c4) (fun i k hk h1 h2 => Array.getElem?_setIfInBounds_ne (by omega)) (fun k hk => Array.getElem?_setIfInBounds_ne (by omega)) (fun k hk => by rw [Array.getElem?_setIfInBounds_ne (by omega)]; exact h.key k hk) (fun k hk => by rw [Array.getElem?_setIfInBounds_ne (by omega)]; exact h.want k hk) (by rw [Array.getElem?_setIfInBounds_self_of_lt (h.lt (by omega))]) (by rw [Array.getElem?_setIfInBounds_ne (by omega)]; exact h.pj) rfl rfl rfl rfl, hc⟩

theorem set_pj (h : JMem g B s fl cs V w) (n : Nat) : JMem g B { s with a := { s.a with pj := n } } fl (cs.setIfInBounds 148 (.int .i64 (n : Nat))) V (w.setCell ⟨g, 148, none⟩ (.int .i64 (n : Nat))) ∧ Chg (fun k => k = g) w (w.setCell ⟨g, 148, none⟩ (.int .i64 (n : Nat))) := by
  have hc : Chg (fun k => k = g) w (w.setCell ⟨g, 148, none⟩ (.int .i64 (n : Nat))) := (Chg.refl (fun k => k = g) w).setCell (p := ⟨g, 148, none⟩) (.inl rfl) _
  exact ⟨h.cells (h.blk.set _ _) hc (by rw [Array.getElem?_setIfInBounds_ne (by omega)]; exact h.c0) (by rw [Array.getElem?_setIfInBounds_ne (by omega)]; exact h.c1) (by rw [Array.getElem?_setIfInBounds_ne (by omega)]; exact h.c2) (by rw [Array.getElem?_setIfInBounds_ne (by omega)]; exact h.c3) (by rw [Array.getElem?_setIfInBounds_ne (by omega)]; exact h.c4) (fun i k hk h1 h2 => Array.getElem?_setIfInBounds_ne (by omega)) (fun k hk => Array.getElem?_setIfInBounds_ne (by omega)) (fun k hk => by rw [Array.getElem?_setIfInBounds_ne (by omega)]; exact h.key k hk) (fun k hk => by rw [Array.getElem?_setIfInBounds_ne (by omega)]; exact h.want k hk) (by rw [Array.getElem?_setIfInBounds_ne (by omega)]; exact h.pi) (by rw [Array.getElem?_setIfInBounds_self_of_lt (h.lt (by omega))]) rfl rfl rfl rfl, hc⟩

/-- A queue has changed. -/
theorem queue {k : Nat} {q' : PQ} {fl' : Bool} {lv' : Value} {cs' : Array Value} (h : JMem g B s fl cs V w) (hk : k < 2) (p : QPost 84 g (5 + k * 70) cs B (V k) w q' fl' lv' cs' w') :
    JMem g B { s with a := { s.a with q := upd s.a.q k q'.ls, en := upd s.a.en k q'.ended }, beg := upd s.beg k q'.beg } (upd fl k fl') cs' (upd V k lv') w' := by
  have ho : ∀ i, i < 5 + k * 70 ∨ 5 + k * 70 + 68 ≤ i → cs'[i]? = cs[i]? := p.out
  have hfar : ∀ i, i < 4 → i ≠ k → ∀ x, (V i).ownBlock = some x → ¬ (x = g ∨ (V k).ownBlock = some x) := fun i hi hik x hx hs => by
    rcases hs with rfl | hs
    · exact h.vne hi hx
    · exact h.apart i k hi (by omega) hik x hx hs
  have hbl : ∀ x, lv'.ownBlock = some x → (V k).ownBlock = some x ∨ w.heap.size ≤ x := fun x hx => by
    rcases p.blo with h1 | h1 | ⟨k', h1, h2, _⟩
    · rw [h1] at hx; cases hx
    · rw [h1] at hx; exact .inl hx
    · rw [h1] at hx; injection hx with hx; subst hx; exact .inr h2
  refine ⟨p.blk, (ho 0 (by omega)).trans h.c0, (ho 1 (by omega)).trans h.c1, (ho 2 (by omega)).trans h.c2, (ho 3 (by omega)).trans h.c3, (ho 4 (by omega)).trans h.c4, fun j hj => ?_, fun j hj => (ho _ (by omega)).trans (h.key j hj), fun j hj => ?_, fun j hj => (ho _ (by omega)).trans (h.want j hj), (ho 147 (by omega)).trans h.pi, (ho 148 (by omega)).trans h.pj, fun j hj => ?_, fun j hj => ?_, fun i j hi hj hij x hx hx2 => ?_, h.ge⟩
  · dsimp only
    by_cases hjk : j = k
    · subst hjk; rw [upd_same, upd_same, upd_same, upd_same, upd_same]; exact p.at_
    · rw [upd_ne _ _ hjk, upd_ne _ _ hjk, upd_ne _ _ hjk, upd_ne _ _ hjk, upd_ne _ _ hjk]
      exact (h.q j hj).far fun i h1 h2 => ho i (by omega)
  · rw [upd_ne _ _ (by omega : 2 + j ≠ k)]
    exact (ho _ (by omega)).trans (h.grp j hj)
  · dsimp only
    by_cases hjk : j = k
    · subst hjk; rw [upd_same, upd_same]; exact p.own
    · rw [upd_ne _ _ hjk, upd_ne _ _ hjk]
      exact (h.own j hj).chg p.chg (hfar j (by omega) hjk)
  · rw [upd_ne _ _ (by omega : 2 + j ≠ k)]
    exact (h.gown j hj).chg p.chg (hfar (2 + j) (by omega) (by omega))
  · by_cases hik : i = k
    · subst hik
      rw [upd_same] at hx
      rw [upd_ne _ _ (fun e => hij e.symm)] at hx2
      rcases hbl x hx with h1 | h1
      · exact h.apart i j hi hj hij x h1 hx2
      · obtain ⟨xs, h3⟩ := h.own4 hj
        have := (h3.lt x hx2).2; omega
    · rw [upd_ne _ _ hik] at hx
      by_cases hjk : j = k
      · subst hjk
        rw [upd_same] at hx2
        rcases hbl x hx2 with h1 | h1
        · exact h.apart i j hi hj hij x hx h1
        · obtain ⟨xs, h3⟩ := h.own4 hi
          have := (h3.lt x hx).2; omega
      · rw [upd_ne _ _ hjk] at hx2
        exact h.apart i j hi hj hij x hx hx2
/-- .. it touches its own memory alone, and what is its own then was so, or is new. -/
theorem queue_F {k : Nat} {q' : PQ} {fl' : Bool} {lv' : Value} {cs' : Array Value} (hk : k < 2) (p : QPost 84 g (5 + k * 70) cs B (V k) w q' fl' lv' cs' w') : Chg (jF g V) w w' ∧ ∀ x, jF g (upd V k lv') x → jF g V x ∨ w.heap.size ≤ x := by
  refine ⟨p.chg.mono (fun x hx _ => ?_), fun x hx => ?_⟩
  · rcases hx with hx | hx
    · exact .inl hx
    · exact .inr ⟨k, by omega, hx⟩
  · rcases hx with hx | ⟨i, hi, hx⟩
    · exact .inl (.inl hx)
    · by_cases hik : i = k
      · subst hik
        rw [upd_same] at hx
        rcases p.blo with h1 | h1 | ⟨k', h1, h2, _⟩
        · rw [h1] at hx; cases hx
        · rw [h1] at hx; exact .inl (.inr ⟨i, hi, hx⟩)
        · rw [h1] at hx; injection hx with hx; subst hx; exact .inr h2
      · rw [upd_ne _ _ hik] at hx
        exact .inl (.inr ⟨i, hi, hx⟩)

/-- A group is another one: its lines lie in rv'. -/
theorem group {k : Nat} {rv' : Value} {w3 : World} (h : JMem g B s fl cs V w) (hk : k < 2) (ls' : List Bs) (hc3 : Chg (fun x => (V (2 + k)).ownBlock = some x) w w3) (hT : OwnT w3 B 9 rv' (strs ls')) (ho : ∀ x, rv'.ownBlock = some x → (V (2 + k)).ownBlock = some x ∨ w.heap.size ≤ x) :
    JMem g B { s with a := { s.a with ls := upd s.a.ls k ls' } } fl (cs.setIfInBounds (5 + k * 70 + 69) rv') (upd V (2 + k) rv') (w3.setCell ⟨g, 5 + k * 70 + 69, none⟩ rv') ∧ Chg (jF g V) w (w3.setCell ⟨g, 5 + k * 70 + 69, none⟩ rv') ∧ ∀ x, jF g (upd V (2 + k) rv') x → jF g V x ∨ w.heap.size ≤ x := by
  have hgl := h.blk.lt
  have hb3 : Blk w3 g 84 cs := h.blk.chg hc3 (fun e => h.vne (show 2 + k < 4 by omega) e)
  have hc4 : Chg (fun x => x = g) w3 (w3.setCell ⟨g, 5 + k * 70 + 69, none⟩ rv') := (Chg.refl (fun x => x = g) w3).setCell (p := ⟨g, 5 + k * 70 + 69, none⟩) (.inl rfl) _
  have hfar : ∀ i, i < 4 → i ≠ 2 + k → ∀ xs, OwnT w B 9 (V i) xs → OwnT (w3.setCell ⟨g, 5 + k * 70 + 69, none⟩ rv') B 9 (V i) xs := fun i hi hik xs hx =>
    (hx.chg hc3 (fun x h1 h2 => h.apart i (2 + k) hi (by omega) hik x h1 h2)).chg hc4 (fun x h1 e => h.vne hi (by rw [h1, e]))
  have hne : ∀ i, i ≠ 5 + k * 70 + 69 → (cs.setIfInBounds (5 + k * 70 + 69) rv')[i]? = cs[i]? := fun i hi => Array.getElem?_setIfInBounds_ne (fun e => hi e.symm)
  refine ⟨⟨hb3.set _ _, (hne _ (by omega)).trans h.c0, (hne _ (by omega)).trans h.c1, (hne _ (by omega)).trans h.c2, (hne _ (by omega)).trans h.c3, (hne _ (by omega)).trans h.c4, fun j hj => ?_, fun j hj => (hne _ (by omega)).trans (h.key j hj), fun j hj => ?_, fun j hj => (hne _ (by omega)).trans (h.want j hj), (hne _ (by omega)).trans h.pi, (hne _ (by omega)).trans h.pj, fun j hj => ?_, fun j hj => ?_, fun i j hi hj hij x hx hx2 => ?_, h.ge⟩, ?_, fun x hx => ?_⟩
  · rw [upd_ne _ _ (by omega : j ≠ 2 + k)]
    exact (h.q j hj).far fun i h1 h2 => hne i (by omega)
  · by_cases hjk : j = k
    · subst hjk; rw [Array.getElem?_setIfInBounds_self_of_lt (h.lt (by omega)), upd_same]
    · rw [hne _ (by omega), upd_ne _ _ (by omega : 2 + j ≠ 2 + k)]; exact h.grp j hj
  · rw [upd_ne _ _ (by omega : j ≠ 2 + k)]
    exact hfar j (by omega) (by omega) _ (h.own j hj)
  · dsimp only
    by_cases hjk : j = k
    · subst hjk
      rw [upd_same, upd_same]
      exact hT.chg hc4 (fun x h1 e => by
        rcases ho x h1 with h2 | h2
        · exact h.vne (show 2 + j < 4 by omega) (by rw [h2, e])
        · omega)
    · rw [upd_ne _ _ (by omega : 2 + j ≠ 2 + k), upd_ne _ _ hjk]
      exact hfar (2 + j) (by omega) (by omega) _ (h.gown j hj)
  · by_cases hik : i = 2 + k
    · subst hik
      rw [upd_same] at hx
      rw [upd_ne _ _ (fun e => hij e.symm)] at hx2
      rcases ho x hx with h1 | h1
      · exact h.apart (2 + k) j hi hj hij x h1 hx2
      · obtain ⟨xs, h3⟩ := h.own4 hj
        have := (h3.lt x hx2).2; omega
    · rw [upd_ne _ _ hik] at hx
      by_cases hjk : j = 2 + k
      · subst hjk
        rw [upd_same] at hx2
        rcases ho x hx2 with h1 | h1
        · exact h.apart i (2 + k) hi hj hij x hx h1
        · obtain ⟨xs, h3⟩ := h.own4 hi
          have := (h3.lt x hx).2; omega
      · rw [upd_ne _ _ hjk] at hx2
        exact h.apart i j hi hj hij x hx hx2
  · refine (hc3.mono (S' := jF g V) (fun x hx _ => .inr ⟨2 + k, by omega, hx⟩)).trans hc4 (fun x hx _ => .inl hx)
  · rcases hx with hx | ⟨i, hi, hx⟩
    · exact .inl (.inl hx)
    · by_cases hik : i = 2 + k
      · subst hik
        rw [upd_same] at hx
        rcases ho x hx with h1 | h1
        · exact .inl (.inr ⟨2 + k, hi, h1⟩)
        · exact .inr h1
      · rw [upd_ne _ _ hik] at hx
        exact .inl (.inr ⟨i, hi, hx⟩)
end JMem
end Go.Proofs.Ytkgmbomfkdkofaa
