/- paste's machine in memory. -/
import Derived.Test.YtamhebjejgcbjaaPasteO
import Derived.Test.YtamhebjejgcbjaaQueue
import Derived.Test.YtamhebjejgcbjaaMach
namespace Go.Proofs.Ytamhebjejgcbjaa
open Go Go.RowKit

theorem OwnT.ty {w : World} {B : Nat} {e : TypeId} {v : Value} {xs : List Value} (h : OwnT w B e v xs) {k : Nat} (hk : v.ownBlock = some k) : ∃ cur, w.heap[k]? = some (.cells cur e (0, 0)) := by
  rcases h with ⟨rfl, _⟩ | ⟨g, off, cap, cur, rfl, _, hg, _⟩
  · simp [Value.ownBlock] at hk
  · simp [Value.ownBlock] at hk
    subst hk
    exact ⟨cur, hg⟩
theorem OwnT.ne {w : World} {B g : Nat} {e T : TypeId} {v : Value} {xs : List Value} {cs : Array Value} (h : OwnT w B e v xs) (hb : Blk w g T cs) (ht : e ≠ T) : v.ownBlock ≠ some g := fun hk => by
  obtain ⟨cur, hc⟩ := h.ty hk
  unfold Blk at hb
  rw [hb] at hc
  injection hc with hc
  injection hc with _ h2 _
  exact ht h2.symm

/-- The machine's cells. -/
def paC (s : PaS) (gi : Nat) (rv : Value) : Array Value := #[.int .i64 s.at_, .bool false, .bool s.over, strv s.by_, .slice (some ⟨gi, 0, none⟩) s.qs.length s.qs.length, rv, .bool s.any]

structure PaMem (g gi B : Nat) (s : PaS) (csI : Array Value) (rv : Value) (lv : Nat → Value) (w : World) : Prop where
  blk : Blk w g 91 (paC s gi rv)
  ins : Blk w gi 112 csI
  q : ∀ j q, s.qs[j]? = some q → ∃ fl, QAt csI (j * 68) q fl (lv j) ∧ (s.over = false → fl = false)
  own : ∀ j q, s.qs[j]? = some q → OwnT w B 9 (lv j) (strs q.ls)
  row : OwnT w B 9 rv (strs s.row)
  apart : ∀ i j, i < s.qs.length → j < s.qs.length → i ≠ j → ∀ k, (lv i).ownBlock = some k → (lv j).ownBlock ≠ some k
  rowA : ∀ j, j < s.qs.length → ∀ k, (lv j).ownBlock = some k → rv.ownBlock ≠ some k
  ge : B ≤ g ∧ B ≤ gi

/-- The memory that is its own. -/
def paF (g gi n : Nat) (rv : Value) (lv : Nat → Value) (k : Nat) : Prop := k = g ∨ k = gi ∨ rv.ownBlock = some k ∨ ∃ j, j < n ∧ (lv j).ownBlock = some k

theorem ty_sm : 9 ≠ 91 := by decide
theorem ty_sq : 9 ≠ 112 := by decide
theorem ty_mq : 91 ≠ 112 := by decide

namespace PaMem
variable {g gi B : Nat} {s : PaS} {csI : Array Value} {rv : Value} {lv : Nat → Value} {w w' : World}
theorem gne (h : PaMem g gi B s csI rv lv w) : g ≠ gi := fun e => by
  have h1 := h.blk
  have h2 := h.ins
  unfold Blk at h1 h2
  rw [e, h2] at h1
  injection h1 with h1
  injection h1 with _ h3 _
  exact ty_mq h3.symm
theorem lvne (h : PaMem g gi B s csI rv lv w) {j : Nat} {q : PQ} (hj : s.qs[j]? = some q) : (lv j).ownBlock ≠ some g ∧ (lv j).ownBlock ≠ some gi := ⟨(h.own j q hj).ne h.blk ty_sm, (h.own j q hj).ne h.ins ty_sq⟩
theorem rvne (h : PaMem g gi B s csI rv lv w) : rv.ownBlock ≠ some g ∧ rv.ownBlock ≠ some gi := ⟨h.row.ne h.blk ty_sm, h.row.ne h.ins ty_sq⟩
theorem get (_ : PaMem g gi B s csI rv lv w) {j : Nat} (hj : j < s.qs.length) : ∃ q, s.qs[j]? = some q := ⟨_, List.getElem?_eq_getElem hj⟩
/-- Its memory lies where it may. -/
theorem inside (h : PaMem g gi B s csI rv lv w) : ∀ k, paF g gi s.qs.length rv lv k → B ≤ k ∧ k < w.heap.size := by
  rintro k (rfl | rfl | hk | ⟨j, hj, hk⟩)
  · exact ⟨h.ge.1, h.blk.lt⟩
  · exact ⟨h.ge.2, h.ins.lt⟩
  · exact h.row.lt k hk
  · obtain ⟨q, hq⟩ := h.get hj
    exact (h.own j q hq).lt k hk
/-- What has changed elsewhere. -/
theorem keep {S : Nat → Prop} (h : PaMem g gi B s csI rv lv w) (hc : Chg S w w') (hS : ∀ k, paF g gi s.qs.length rv lv k → ¬ S k) : PaMem g gi B s csI rv lv w' :=
  ⟨h.blk.chg hc (hS g (.inl rfl)), h.ins.chg hc (hS gi (.inr (.inl rfl))), h.q, fun j q hq => (h.own j q hq).chg hc fun k hk => hS k (.inr (.inr (.inr ⟨j, (List.getElem?_eq_some_iff.1 hq).1, hk⟩))),
    h.row.chg hc fun k hk => hS k (.inr (.inr (.inl hk))), h.apart, h.rowA, h.ge⟩
/-- The machine's own cells, or its row, have changed. -/
theorem mach {s' : PaS} {rv' : Value} (h : PaMem g gi B s csI rv lv w) (hc : Chg (fun k => k = g ∨ rv.ownBlock = some k) w w') (hb : Blk w' g 91 (paC s' gi rv')) (hq : s'.qs = s.qs) (ho : s'.over = false → s.over = false)
    (hr : OwnT w' B 9 rv' (strs s'.row)) (hv : ∀ k, rv'.ownBlock = some k → rv.ownBlock = some k ∨ w.heap.size ≤ k) : PaMem g gi B s' csI rv' lv w' := by
  have hlt : ∀ j q, s.qs[j]? = some q → ∀ k, (lv j).ownBlock = some k → ¬ (k = g ∨ rv.ownBlock = some k) := fun j q hj k hk hs => by
    rcases hs with rfl | hs
    · exact (h.lvne hj).1 hk
    · exact h.rowA j (List.getElem?_eq_some_iff.1 hj).1 k hk hs
  refine ⟨hb, h.ins.chg hc (fun hs => ?_), ?_, ?_, hr, ?_, ?_, h.ge⟩
  · rcases hs with hs | hs
    · exact h.gne hs.symm
    · exact h.rvne.2 hs
  · rw [hq]
    intro j q hj
    obtain ⟨fl, h1, h2⟩ := h.q j q hj
    exact ⟨fl, h1, fun e => h2 (ho e)⟩
  · rw [hq]
    exact fun j q hj => (h.own j q hj).chg hc (hlt j q hj)
  · rw [hq]; exact h.apart
  · rw [hq]
    intro j hj k hk hr2
    rcases hv k hr2 with h3 | h3
    · exact h.rowA j hj k hk h3
    · obtain ⟨q, hqq⟩ := h.get hj
      have := ((h.own j q hqq).lt k hk).2
      omega
/-- A queue has changed, and then perhaps the machine's own cells. -/
theorem queue_g {j : Nat} {q q' : PQ} {fl' : Bool} {lv' : Value} {csI' : Array Value} {s' : PaS} {w2 : World} (h : PaMem g gi B s csI rv lv w) (hj : s.qs[j]? = some q) (p : QPost 112 gi (j * 68) csI B (lv j) w q' fl' lv' csI' w') (hqs : s'.qs = s.qs.set j q') (hrw : s'.row = s.row)
    (hb : Blk w2 g 91 (paC s' gi rv)) (hc2 : Chg (fun k => k = g) w' w2) (ho : s'.over = false → fl' = false ∧ s.over = false) :
    PaMem g gi B s' csI' rv (upd lv j lv') w2 := by
  have hjl := (List.getElem?_eq_some_iff.1 hj).1
  have hlj := h.lvne hj
  have hset : ∀ i x, s'.qs[i]? = some x → (i = j ∧ x = q') ∨ (i ≠ j ∧ s.qs[i]? = some x) := fun i x hx => by
    rw [hqs] at hx
    by_cases hij : i = j
    · subst hij
      rw [List.getElem?_set_self hjl] at hx
      injection hx with hx
      exact .inl ⟨rfl, hx.symm⟩
    · rw [List.getElem?_set_ne (fun e => hij e.symm)] at hx
      exact .inr ⟨hij, hx⟩
  have hlen : s'.qs.length = s.qs.length := by rw [hqs]; simp
  have hu : ∀ i, i ≠ j → upd lv j lv' i = lv i := fun i hi => by unfold upd; rw [if_neg hi]
  have huj : upd lv j lv' j = lv' := by unfold upd; rw [if_pos rfl]
  have hgl := h.blk.lt
  have hfar : ∀ i x, s.qs[i]? = some x → i ≠ j → ∀ k, (lv i).ownBlock = some k → ¬ (k = gi ∨ (lv j).ownBlock = some k) := fun i x hi hij k hk hs => by
    rcases hs with rfl | hs
    · exact (h.lvne hi).2 hk
    · exact h.apart i j (List.getElem?_eq_some_iff.1 hi).1 hjl hij k hk hs
  have hbl : ∀ k, lv'.ownBlock = some k → (lv j).ownBlock = some k ∨ w.heap.size ≤ k := fun k hk => by
    rcases p.blo with h1 | h1 | ⟨k', h1, h2, _⟩
    · rw [h1] at hk; cases hk
    · rw [h1] at hk; exact .inl hk
    · rw [h1] at hk; injection hk with hk; subst hk; exact .inr h2
  refine ⟨hb, p.blk.chg hc2 (fun e => h.gne e.symm), fun i x hx => ?_, fun i x hx => ?_, ?_, ?_, ?_, h.ge⟩
  · rcases hset i x hx with ⟨rfl, rfl⟩ | ⟨hij, hi⟩
    · rw [huj]; exact ⟨fl', p.at_, fun e => (ho e).1⟩
    · rw [hu i hij]
      obtain ⟨fl, h1, h2⟩ := h.q i x hi
      exact ⟨fl, h1.far fun t h3 h4 => p.out t (by omega), fun e => h2 (ho e).2⟩
  · rcases hset i x hx with ⟨rfl, rfl⟩ | ⟨hij, hi⟩
    · rw [huj]
      exact p.own.chg hc2 (fun k hk e => by
        rcases hbl k hk with h1 | h1
        · exact hlj.1 (by rw [h1, e])
        · omega)
    · rw [hu i hij]; exact ((h.own i x hi).chg p.chg (hfar i x hi hij)).chg hc2 (fun k hk e => (h.lvne hi).1 (by rw [hk, e]))
  · rw [hrw]
    refine (h.row.chg p.chg (fun k hk hs => ?_)).chg hc2 (fun k hk e => h.rvne.1 (by rw [hk, e]))
    rcases hs with rfl | hs
    · exact h.rvne.2 hk
    · exact h.rowA j hjl k hs hk
  · rw [hlen]
    intro a b ha hb hab k hk hk2
    obtain ⟨qa, hqa⟩ := h.get ha
    obtain ⟨qb, hqb⟩ := h.get hb
    by_cases haj : a = j
    · subst haj
      rw [huj] at hk
      rw [hu b (fun e => hab e.symm)] at hk2
      rcases hbl k hk with h1 | h1
      · exact h.apart a b ha hb hab k h1 hk2
      · have := ((h.own b qb hqb).lt k hk2).2; omega
    · rw [hu a haj] at hk
      by_cases hbj : b = j
      · subst hbj
        rw [huj] at hk2
        rcases hbl k hk2 with h1 | h1
        · exact h.apart a b ha hb hab k hk h1
        · have := ((h.own a qa hqa).lt k hk).2; omega
      · rw [hu b hbj] at hk2
        exact h.apart a b ha hb hab k hk hk2
  · rw [hlen]
    intro i hi k hk hr
    by_cases hij : i = j
    · subst hij
      rw [huj] at hk
      rcases hbl k hk with h1 | h1
      · exact h.rowA i hi k h1 hr
      · have := (h.row.lt k hr).2; omega
    · rw [hu i hij] at hk
      exact h.rowA i hi k hk hr
/-- A queue's change leaves the machine's own cells. -/
theorem blk_queue {j : Nat} {q q' : PQ} {fl' : Bool} {lv' : Value} {csI' : Array Value} (h : PaMem g gi B s csI rv lv w) (hj : s.qs[j]? = some q) (p : QPost 112 gi (j * 68) csI B (lv j) w q' fl' lv' csI' w') : Blk w' g 91 (paC s gi rv) :=
  h.blk.chg p.chg (fun hs => by
    rcases hs with hs | hs
    · exact h.gne hs
    · exact (h.lvne hj).1 hs)
/-- A queue has changed. -/
theorem queue {j : Nat} {q q' : PQ} {fl' : Bool} {lv' : Value} {csI' : Array Value} (h : PaMem g gi B s csI rv lv w) (hj : s.qs[j]? = some q) (p : QPost 112 gi (j * 68) csI B (lv j) w q' fl' lv' csI' w') (ho : s.over = false → fl' = false) :
    PaMem g gi B (s.setQ j q') csI' rv (upd lv j lv') w' :=
  h.queue_g hj p rfl rfl (by
    have := h.blk_queue hj p
    unfold paC at this ⊢
    rw [show (s.setQ j q').qs.length = s.qs.length by unfold PaS.setQ; simp]
    exact this) (Chg.refl _ _) (fun e => ⟨ho e, e⟩)
/-- A queue's change touches its own memory alone, and what is its own then was so, or is new. -/
theorem queue_F {j : Nat} {q' : PQ} {fl' : Bool} {lv' : Value} {csI' : Array Value} (hjl : j < s.qs.length) (p : QPost 112 gi (j * 68) csI B (lv j) w q' fl' lv' csI' w') :
    (∀ k, (k = gi ∨ (lv j).ownBlock = some k) → paF g gi s.qs.length rv lv k) ∧ ∀ k, paF g gi s.qs.length rv (upd lv j lv') k → paF g gi s.qs.length rv lv k ∨ w.heap.size ≤ k := by
  refine ⟨fun k hk => ?_, fun k hk => ?_⟩
  · rcases hk with hk | hk
    · exact .inr (.inl hk)
    · exact .inr (.inr (.inr ⟨j, hjl, hk⟩))
  · rcases hk with hk | hk | hk | ⟨i, hi, hk⟩
    · exact .inl (.inl hk)
    · exact .inl (.inr (.inl hk))
    · exact .inl (.inr (.inr (.inl hk)))
    · by_cases hij : i = j
      · subst hij
        unfold upd at hk
        rw [if_pos rfl] at hk
        rcases p.blo with h1 | h1 | ⟨k', h1, h2, _⟩
        · rw [h1] at hk; cases hk
        · rw [h1] at hk; exact .inl (.inr (.inr (.inr ⟨i, hi, hk⟩)))
        · rw [h1] at hk; injection hk with hk; subst hk; exact .inr h2
      · unfold upd at hk
        rw [if_neg hij] at hk
        exact .inl (.inr (.inr (.inr ⟨i, hi, hk⟩)))
end PaMem
end Go.Proofs.Ytamhebjejgcbjaa
