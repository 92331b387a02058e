/- JoinPairs: all pairs of lines of one key come out: the function returns true for every input, and its arguments read as before. No conditions. -/
import Derived.Test.YtkgmbomfkdkofaaJoinD
import Derived.Test.YtkgmbomfkdkofaaJoinY
import Derived.Test.YtkgmbomfkdkofaaReady
import Derived.Test.YtkgmbomfkdkofaaLit
import Derived.Test.YtkgmbomfkdkofaaRef4B
import Derived.Test.YtkgmbomfkdkofaaJoinAwake
import Derived.Deep.RegionHeld3
import Derived.Deep.DrawnRows
import Derived.BigQuiet
import Derived.Outline
import Derived.BigRegion
import Derived.Deep.RegionWith
import Derived.Test.YtkgmbomfkdkofaaRef4
import Derived.Test.YtkgmbomfkdkofaaStrm
import Derived.ProofKit
import Derived.OpenShut
import Derived.Deep.Slices
import Derived.Deep.Strs
import Derived.Lib.SmallJoins
import Derived.Carry
import Derived.Test.YtkgmbomfkdkofaaRows
import Derived.WalkKit
/- join, plain: of inputs whose keys rise come all pairs of lines of one key. -/
namespace Go.Proofs.Ytkgmbomfkdkofaa
open Go

/-! ## The order of texts -/
theorem ltB_irrefl : ∀ a : Bs, ltB a a = false
  | [] => rfl
  | x :: a => by
    have h := ltB_irrefl a
    have e : ltB (x :: a) (x :: a) = (decide (x.toNat < x.toNat) || (x == x && ltB a a)) := by
      show Op.bytesLess (x :: a) (x :: a) = _
      simp [Op.bytesLess, ltB]
    rw [e, h]
    simp
theorem ltB_cons (x y : UInt8) (a b : Bs) : ltB (x :: a) (y :: b) = true ↔ x.toNat < y.toNat ∨ (x = y ∧ ltB a b = true) := by
  show Op.bytesLess (x :: a) (y :: b) = true ↔ _
  simp only [Op.bytesLess, Bool.or_eq_true, Bool.and_eq_true, decide_eq_true_eq, beq_iff_eq]
  rw [UInt8.lt_iff_toNat_lt]
theorem ltB_trans : ∀ a b c : Bs, ltB a b = true → ltB b c = true → ltB a c = true := by
  intro a
  induction a with
  | nil =>
    intro b c h1 h2
    cases c with
    | nil => cases b with
      | nil => exact h1
      | cons y b => cases h2
    | cons z c => rfl
  | cons x a ih =>
    intro b c h1 h2
    cases b with
    | nil => cases h1
    | cons y b =>
      cases c with
      | nil => cases h2
      | cons z c =>
        rw [ltB_cons] at h1 h2 ⊢
        rcases h1 with h1 | ⟨rfl, h1⟩
        · rcases h2 with h2 | ⟨rfl, h2⟩
          · exact .inl (by omega)
          · exact .inl h1
        · rcases h2 with h2 | ⟨rfl, h2⟩
          · exact .inl h2
          · exact .inr ⟨rfl, ih b c h1 h2⟩
theorem ltB_asymm {a b : Bs} (h : ltB a b = true) : ltB b a = false := by
  cases h2 : ltB b a with
  | false => rfl
  | true =>
    have := ltB_trans a b a h h2
    rw [ltB_irrefl] at this
    cases this
theorem leB_iff (a b : Bs) : leB a b = true ↔ ltB a b = true ∨ a = b := by
  unfold leB
  simp only [Bool.or_eq_true, beq_iff_eq]
theorem leB_anti {a b : Bs} (h1 : leB a b = true) (h2 : leB b a = true) : a = b := by
  rw [leB_iff] at h1 h2
  rcases h1 with h1 | h1
  · rcases h2 with h2 | h2
    · rw [ltB_asymm h1] at h2; cases h2
    · exact h2.symm
  · exact h1
theorem ltB_leB {a b c : Bs} (h1 : ltB a b = true) (h2 : leB b c = true) : ltB a c = true := by
  rw [leB_iff] at h2
  rcases h2 with h2 | h2
  · exact ltB_trans _ _ _ h1 h2
  · rw [← h2]; exact h1
theorem leB_lt_or {a b : Bs} (h : leB a b = true) (h2 : leB b a = false) : ltB a b = true := by
  rw [leB_iff] at h
  rcases h with h | h
  · exact h
  · subst h; rw [leB_refl] at h2; cases h2
theorem leB_of_not {a b : Bs} (h : ltB b a = false) : leB a b = true := by
  rcases leB_total a b with h1 | h1
  · exact h1
  · rw [leB_iff] at h1
    rcases h1 with h1 | h1
    · rw [h1] at h; cases h
    · subst h1; exact leB_refl _

/-! ## Lines whose keys rise -/
def cnt (c : UInt8) (κ : Bs) (q : List Bs) : Nat := (q.filter fun x => decide (keyS c x = κ)).length
theorem cnt_yes {c : UInt8} {κ s : Bs} {q : List Bs} (h : keyS c s = κ) : cnt c κ (s :: q) = cnt c κ q + 1 := by
  unfold cnt
  rw [List.filter_cons_of_pos (by simpa using h)]
  simp
theorem cnt_no {c : UInt8} {κ s : Bs} {q : List Bs} (h : keyS c s ≠ κ) : cnt c κ (s :: q) = cnt c κ q := by
  unfold cnt
  rw [List.filter_cons_of_neg (by simpa using h)]
theorem cnt_none {c : UInt8} {κ : Bs} {q : List Bs} (h : ∀ x ∈ q, keyS c x ≠ κ) : cnt c κ q = 0 := by
  unfold cnt
  rw [List.filter_eq_nil_iff.2 (fun x hx => by simpa using h x hx)]
  rfl
def Sorted (c : UInt8) (q : List Bs) : Prop := q.Pairwise fun x y => leB (keyS c x) (keyS c y) = true
def RiseP (c : UInt8) (N : Nat) (q : List Bs) : Prop := Sorted c q ∧ ∀ κ, cnt c κ q ≤ N

def rsB (c : UInt8) (N : Nat) : Bs → Nat → List Bs → Bool
  | _, _, [] => true
  | prev, run, s :: r => if ltB (keyS c s) prev = true then false else if N < (if ltB prev (keyS c s) = true then 1 else run + 1) then false else rsB c N (keyS c s) (if ltB prev (keyS c s) = true then 1 else run + 1) r
def risesB (c : UInt8) (N : Nat) : List Bs → Bool
  | [] => true
  | s :: r => rsB c N (keyS c s) 1 r

theorem rs_rise (c : UInt8) (N : Nat) : ∀ (q : List Bs) (prev : Bs) (run : Nat), rsB c N prev run q = true → run ≤ N → (∀ x ∈ q, leB prev (keyS c x) = true) ∧ Sorted c q ∧ run + cnt c prev q ≤ N ∧ ∀ κ, κ ≠ prev → cnt c κ q ≤ N := by
  intro q
  induction q with
  | nil => intro prev run _ h; exact ⟨(fun x hx => by cases hx), List.Pairwise.nil, by simpa [cnt] using h, fun κ _ => by simp [cnt]⟩
  | cons s r ih =>
    intro prev run h hr
    rw [rsB] at h
    by_cases h1 : ltB (keyS c s) prev = true
    · rw [if_pos h1] at h; cases h
    rw [if_neg h1] at h
    have hle : leB prev (keyS c s) = true := leB_of_not (by simpa using h1)
    by_cases h2 : N < (if ltB prev (keyS c s) = true then 1 else run + 1)
    · rw [if_pos h2] at h; cases h
    rw [if_neg h2] at h
    obtain ⟨i1, i2, i3, i4⟩ := ih _ _ h (by omega)
    have hsort : Sorted c (s :: r) := List.pairwise_cons.2 ⟨i1, i2⟩
    by_cases h3 : ltB prev (keyS c s) = true
    · rw [if_pos h3] at i3
      have hne : ∀ x ∈ s :: r, keyS c x ≠ prev := fun x hx e => by
        have hlt : ltB prev (keyS c x) = true := by
          rcases List.mem_cons.1 hx with rfl | hx
          · exact h3
          · exact ltB_leB h3 (i1 x hx)
        rw [e, ltB_irrefl] at hlt; cases hlt
      refine ⟨fun x hx => ?_, hsort, by rw [cnt_none hne]; omega, fun κ _ => ?_⟩
      · rcases List.mem_cons.1 hx with rfl | hx
        · exact hle
        · rw [leB_iff]; exact .inl (ltB_leB h3 (i1 x hx))
      · by_cases hk : keyS c s = κ
        · rw [cnt_yes hk, ← hk]; omega
        · rw [cnt_no hk]; exact i4 κ (fun e => hk e.symm)
    · rw [if_neg h3] at i3
      have he : keyS c s = prev := by
        rw [leB_iff] at hle
        rcases hle with hle | hle
        · exact absurd hle h3
        · exact hle.symm
      rw [he] at i1 i3 i4
      refine ⟨fun x hx => ?_, hsort, by rw [cnt_yes he]; omega, fun κ hκ => ?_⟩
      · rcases List.mem_cons.1 hx with rfl | hx
        · exact hle
        · exact i1 x hx
      · rw [cnt_no (fun e => hκ (e.symm.trans he))]; exact i4 κ hκ
theorem rises_P {c : UInt8} {N : Nat} (hN : 1 ≤ N) {q : List Bs} (h : risesB c N q = true) : RiseP c N q := by
  cases q with
  | nil => exact ⟨List.Pairwise.nil, fun κ => by simp [cnt]⟩
  | cons s r =>
    obtain ⟨i1, i2, i3, i4⟩ := rs_rise c N r (keyS c s) 1 h hN
    refine ⟨List.pairwise_cons.2 ⟨i1, i2⟩, fun κ => ?_⟩
    by_cases hk : keyS c s = κ
    · rw [cnt_yes hk, ← hk]; omega
    · rw [cnt_no hk]; exact i4 κ (fun e => hk e.symm)

theorem jgo_rise (c : UInt8) (N : Nat) : ∀ (q : List Bs) (key : Bs) (ls : List Bs), ls ≠ [] → (∀ x ∈ q, leB key (keyS c x) = true) → Sorted c q → ls.length + cnt c key q ≤ N →
    ∃ run rest, q = run ++ rest ∧ (∀ x ∈ run, keyS c x = key) ∧ (∀ x ∈ rest, ltB key (keyS c x) = true) ∧ jgo c N true key ls q = ⟨rest, key, ls ++ run, 0, 0⟩ := by
  intro q
  induction q with
  | nil => intro key ls h0 _ _ _; exact ⟨[], [], rfl, (fun x h => by cases h), (fun x h => by cases h), by rw [jgo, if_pos rfl, if_neg h0, List.append_nil]⟩
  | cons s r ih =>
    intro key ls h0 hle hs hc
    have hl := hle s (by simp)
    obtain ⟨hs1, hs2⟩ := List.pairwise_cons.1 hs
    have h1 : ¬ ltB (keyS c s) key = true := fun h => by
      rw [leB_iff] at hl
      rcases hl with hl | hl
      · rw [ltB_asymm hl] at h; cases h
      · rw [← hl, ltB_irrefl] at h; cases h
    rw [jgo, if_neg h0, if_neg h1]
    by_cases h2 : leB (keyS c s) key = false
    · have hlt := leB_lt_or hl h2
      refine ⟨[], s :: r, rfl, (fun x h => by cases h), fun x hx => ?_, by rw [if_pos h2, List.append_nil]⟩
      rcases List.mem_cons.1 hx with rfl | hx
      · exact hlt
      · exact ltB_leB hlt (hs1 x hx)
    · have he : keyS c s = key := leB_anti (by simpa using h2) hl
      rw [cnt_yes he] at hc
      rw [if_neg h2, if_neg (by omega)]
      obtain ⟨run, rest, e, r1, r2, r3⟩ := ih key (ls ++ [s]) (by simp) (fun x hx => hle x (by simp [hx])) hs2 (by simp; omega)
      refine ⟨s :: run, rest, by rw [e]; rfl, fun x hx => ?_, r2, by rw [r3]; simp⟩
      rcases List.mem_cons.1 hx with rfl | hx
      · exact he
      · exact r1 x hx

/-! ## All pairs -/
def pairsAll (c : UInt8) (l m : List Bs) : List Bs := l.flatMap fun x => (m.filter fun y => decide (keyS c y = keyS c x)).map (plS c (keyS c x) x)
theorem flatMap_same {α β : Type} (l : List α) (f g : α → List β) (h : ∀ x ∈ l, f x = g x) : l.flatMap f = l.flatMap g := by
  rw [List.flatMap_def, List.flatMap_def]
  congr 1
  exact List.map_congr_left h
theorem pairsAll_nil (c : UInt8) (l : List Bs) : pairsAll c l [] = [] := by
  unfold pairsAll
  rw [List.flatMap_eq_nil_iff]
  intro x _
  rfl
theorem ne_of_lt {c : UInt8} {κ x : Bs} (h : ltB κ (keyS c x) = true) : keyS c x ≠ κ := fun e => by rw [e, ltB_irrefl] at h; cases h
theorem pa_eq (c : UInt8) (κ : Bs) (l0 q0 l1 q1 : List Bs) (h0 : ∀ x ∈ l0, keyS c x = κ) (h1 : ∀ x ∈ l1, keyS c x = κ) (g0 : ∀ x ∈ q0, ltB κ (keyS c x) = true) (g1 : ∀ x ∈ q1, ltB κ (keyS c x) = true) :
    pairsAll c (l0 ++ q0) (l1 ++ q1) = (l0.flatMap fun x => l1.map (plS c κ x)) ++ pairsAll c q0 q1 := by
  unfold pairsAll
  rw [List.flatMap_append]
  congr 1
  · refine flatMap_same _ _ _ fun x hx => ?_
    rw [h0 x hx, List.filter_append, List.filter_eq_self.2 (fun y hy => by simpa using h1 y hy), List.filter_eq_nil_iff.2 (fun y hy => by simpa using ne_of_lt (g1 y hy)), List.append_nil]
  · refine flatMap_same _ _ _ fun x hx => ?_
    rw [List.filter_append, List.filter_eq_nil_iff.2 (fun y hy => by simpa using fun e => ne_of_lt (g0 x hx) (e.symm.trans (h1 y hy))), List.nil_append]
theorem pa_lt (c : UInt8) (κ : Bs) (l0 q0 m : List Bs) (h0 : ∀ x ∈ l0, keyS c x = κ) (g : ∀ x ∈ m, ltB κ (keyS c x) = true) : pairsAll c (l0 ++ q0) m = pairsAll c q0 m := by
  unfold pairsAll
  rw [List.flatMap_append]
  have e : (l0.flatMap fun x => (m.filter fun y => decide (keyS c y = keyS c x)).map (plS c (keyS c x) x)) = [] := by
    rw [List.flatMap_eq_nil_iff]
    intro x hx
    rw [List.filter_eq_nil_iff.2 (fun y hy => by simpa using fun e => ne_of_lt (g y hy) (e.trans (h0 x hx)))]
    rfl
  rw [e, List.nil_append]
theorem pa_gt (c : UInt8) (κ : Bs) (l l1 q1 : List Bs) (h1 : ∀ x ∈ l1, keyS c x = κ) (g : ∀ x ∈ l, ltB κ (keyS c x) = true) : pairsAll c l (l1 ++ q1) = pairsAll c l q1 := by
  unfold pairsAll
  refine flatMap_same _ _ _ fun x hx => ?_
  rw [List.filter_append, List.filter_eq_nil_iff.2 (fun y hy => by simpa using fun e => ne_of_lt (g x hx) (e.symm.trans (h1 y hy))), List.nil_append]

/-- Where the run stands, of inputs that have ended and whose keys rise. -/
structure PInv (c : UInt8) (N : Nat) (s : JA) : Prop where
  over : s.over = false
  en : ∀ k, k < 2 → s.en k = true
  p : s.pi = 0 ∧ s.pj = 0
  w : ∀ k, k < 2 → s.want k = true → s.ls k = []
  u : ∀ k, k < 2 → s.want k = false → s.ls k ≠ [] ∧ (∀ x ∈ s.ls k, keyS c x = s.key k) ∧ ∀ x ∈ s.q k, ltB (s.key k) (keyS c x) = true
  r : ∀ k, k < 2 → RiseP c N (s.q k)

theorem pinv_next {c : UInt8} {N : Nat} {s : JA} (h : PInv c N s) (h0 : s.want 0 = false) (h1 : s.want 1 = false) : PInv c N s.next := by
  refine ⟨h.over, h.en, ⟨rfl, rfl⟩, fun k hk hw => ?_, fun k hk hw => ?_, h.r⟩
  · have hw2 : s.wants k = true := hw
    show (if s.wants k = true then [] else s.ls k) = []
    rw [if_pos hw2]
  · have hw2 : s.wants k = false := hw
    show (if s.wants k = true then [] else s.ls k) ≠ [] ∧ (∀ x ∈ (if s.wants k = true then [] else s.ls k), _) ∧ _
    rw [if_neg (by rw [hw2]; decide)]
    obtain rfl | rfl : k = 0 ∨ k = 1 := by omega
    · exact h.u 0 hk h0
    · exact h.u 1 hk h1
theorem next_ls (s : JA) (k : Nat) : s.next.ls k = if s.wants k = true then [] else s.ls k := rfl
theorem next_q (s : JA) (k : Nat) : s.next.q k = s.q k := rfl
theorem pairsFrom0 (c : UInt8) (key : Bs) (l m : List Bs) : pairsFrom c key l m 0 0 = l.flatMap fun x => m.map (plS c key x) := by
  unfold pairsFrom
  rw [List.drop_zero, List.drop_zero]
  cases l with
  | nil => rfl
  | cons x r => simp

theorem pinv_group {c : UInt8} {N : Nat} {s : JA} (h : PInv c N s) {k : Nat} (hk : k < 2) (hw : s.want k = true) (hwk : s.wk = k) {x : Bs} {r : List Bs} (hq : s.q k = x :: r) :
    (s.grp c N).err = 0 ∧ (s.grp c N).what = 0 ∧ PInv c N { s.set s.wk (s.grp c N) with want := upd s.want s.wk false } ∧ ∀ j, j < 2 → upd s.ls s.wk (s.grp c N).ls j ++ upd s.q s.wk (s.grp c N).rest j = s.ls j ++ s.q j := by
  obtain ⟨hs, hc⟩ := h.r k hk
  rw [hq] at hs hc
  obtain ⟨hs1, hs2⟩ := List.pairwise_cons.1 hs
  have hcx := hc (keyS c x)
  rw [cnt_yes rfl] at hcx
  obtain ⟨run, rest, e, r1, r2, r3⟩ := jgo_rise c N r (keyS c x) [x] (by simp) hs1 hs2 (by simp; omega)
  have hg : s.grp c N = ⟨rest, keyS c x, [x] ++ run, 0, 0⟩ := by
    unfold JA.grp
    rw [hwk, h.en k hk, h.w k hk hw, hq, jgo, if_pos rfl, r3]
  rw [hg, hwk]
  have hkey : ∀ y ∈ [x] ++ run, keyS c y = keyS c x := fun y hy => by
    rcases List.mem_append.1 hy with hy | hy
    · simp only [List.mem_singleton] at hy; rw [hy]
    · exact r1 y hy
  refine ⟨rfl, rfl, ⟨h.over, h.en, h.p, fun j hj hwj => ?_, fun j hj hwj => ?_, fun j hj => ?_⟩, fun j hj => ?_⟩
  · have hwj2 : upd s.want k false j = true := hwj
    show upd s.ls k _ j = []
    by_cases hjk : j = k
    · subst hjk; rw [upd_same] at hwj2; cases hwj2
    · rw [upd_ne _ _ hjk] at hwj2 ⊢; exact h.w j hj hwj2
  · have hwj2 : upd s.want k false j = false := hwj
    show upd s.ls k _ j ≠ [] ∧ (∀ y ∈ upd s.ls k _ j, keyS c y = upd s.key k _ j) ∧ ∀ y ∈ upd s.q k _ j, ltB (upd s.key k _ j) (keyS c y) = true
    by_cases hjk : j = k
    · subst hjk
      rw [upd_same, upd_same, upd_same]
      exact ⟨by simp, hkey, r2⟩
    · rw [upd_ne _ _ hjk] at hwj2
      rw [upd_ne _ _ hjk, upd_ne _ _ hjk, upd_ne _ _ hjk]
      exact h.u j hj hwj2
  · show RiseP c N (upd s.q k _ j)
    by_cases hjk : j = k
    · subst hjk
      rw [upd_same]
      dsimp only
      rw [e] at hs2
      refine ⟨(List.pairwise_append.1 hs2).2.1, fun κ => ?_⟩
      have h3 := hc κ
      have h4 : cnt c κ rest ≤ cnt c κ (x :: r) := by
        rw [e]
        unfold cnt
        rw [List.filter_cons, List.filter_append]
        split <;> simp <;> omega
      omega
    · rw [upd_ne _ _ hjk]; exact h.r j hj
  · by_cases hjk : j = k
    · subst hjk
      rw [upd_same, upd_same, h.w j hj hw, hq, e]
      simp
    · rw [upd_ne _ _ hjk, upd_ne _ _ hjk]

theorem pairs_run (c : UInt8) (N : Nat) : ∀ (n : Nat) (s : JA), aMu s < n → PInv c N s →
    (aAll c N s).1 = pairsAll c (s.ls 0 ++ s.q 0) (s.ls 1 ++ s.q 1) ∧ (aAll c N s).2.1.over = true ∧ (aAll c N s).2.2 = 0 := by
  intro n
  induction n with
  | zero => intro s h; omega
  | succ n ih =>
    intro s hn h
    by_cases hw : s.want 0 = false ∧ s.want 1 = false
    · have e := aStep_none c N s h.over hw
      have hmu := aStep_mu c N s (by rw [e])
      have hi := ih (aStep c N s).2.1 (by omega) (by rw [e]; exact pinv_next h hw.1 hw.2)
      rw [aAll_go (s := s) (by rw [e])]
      rw [e] at hi ⊢
      dsimp only at hi ⊢
      obtain ⟨h1, h2, h3⟩ := hi
      refine ⟨?_, h2, h3⟩
      rw [h1, next_ls, next_ls, next_q, next_q]
      obtain ⟨u0, v0, t0⟩ := h.u 0 (by omega) hw.1
      obtain ⟨u1, v1, t1⟩ := h.u 1 (by omega) hw.2
      have e0 : s.wants 0 = leB (s.key 0) (s.key 1) := rfl
      have e1 : s.wants 1 = leB (s.key 1) (s.key 0) := rfl
      unfold JA.pairs
      by_cases hk : s.key 0 = s.key 1
      · rw [if_pos hk, h.p.1, h.p.2, pairsFrom0, if_pos (by rw [e0, hk]; exact leB_refl _), if_pos (by rw [e1, hk]; exact leB_refl _), List.nil_append, List.nil_append]
        exact (pa_eq c (s.key 0) _ _ _ _ v0 (by rw [hk]; exact v1) t0 (by rw [hk]; exact t1)).symm
      · rw [if_neg hk, List.nil_append]
        by_cases hlt : ltB (s.key 0) (s.key 1) = true
        · have hn1 : ¬ leB (s.key 1) (s.key 0) = true := fun hh => hk (leB_anti (by rw [leB_iff]; exact .inl hlt) hh)
          rw [if_pos (by rw [e0, leB_iff]; exact .inl hlt), if_neg (by rw [e1]; exact hn1), List.nil_append]
          refine (pa_lt c (s.key 0) _ _ _ v0 (fun y hy => ?_)).symm
          rcases List.mem_append.1 hy with hy | hy
          · rw [v1 y hy]; exact hlt
          · exact ltB_trans _ _ _ hlt (t1 y hy)
        · have hn0 : ¬ leB (s.key 0) (s.key 1) = true := fun hh => by
            rw [leB_iff] at hh
            rcases hh with hh | hh
            · exact hlt hh
            · exact hk hh
          have hgt : ltB (s.key 1) (s.key 0) = true := by
            have := leB_of_not (a := s.key 1) (b := s.key 0) (by simpa using hlt)
            rw [leB_iff] at this
            rcases this with this | this
            · exact this
            · exact absurd this.symm hk
          rw [if_neg (by rw [e0]; exact hn0), if_pos (by rw [e1, leB_iff]; exact .inl hgt), List.nil_append]
          refine (pa_gt c (s.key 1) _ _ _ v1 (fun y hy => ?_)).symm
          rcases List.mem_append.1 hy with hy | hy
          · rw [v0 y hy]; exact hgt
          · exact ltB_trans _ _ _ hgt (t0 y hy)
    · have hk := wk_lt s
      have hwant := want_wk hw
      cases hq : s.q s.wk with
      | nil =>
        have hg : s.grp c N = ⟨[], s.key s.wk, [], 2, 0⟩ := by
          unfold JA.grp
          rw [h.en _ hk, h.w _ hk hwant, hq, jgo]
          rfl
        have e : aStep c N s = ([], { s.set s.wk (s.grp c N) with over := true }, false, 0) := by
          unfold aStep
          rw [if_neg (by rw [h.over]; decide), if_neg hw, if_neg (by rw [hg]; exact fun h => h rfl), if_pos (by rw [hg])]
        rw [aAll_stop (s := s) (by rw [e]), e]
        dsimp only
        refine ⟨?_, rfl, rfl⟩
        have hls := h.w _ hk hwant
        obtain hk0 | hk0 : s.wk = 0 ∨ s.wk = 1 := by omega
        · rw [hk0] at hls hq
          rw [hls, hq]; rfl
        · rw [hk0] at hls hq
          rw [hls, hq]
          exact (pairsAll_nil c _).symm
      | cons x r =>
        obtain ⟨g1, g2, hp, hl⟩ := pinv_group h hk hwant rfl hq
        have e : aStep c N s = ([], { s.set s.wk (s.grp c N) with want := upd s.want s.wk false }, true, 0) := by
          unfold aStep
          rw [if_neg (by rw [h.over]; decide), if_neg hw, if_neg (by rw [g1]; decide), if_neg (by rw [g2]; decide), if_neg (by rw [g2]; decide)]
        have hmu := aStep_mu c N s (by rw [e])
        have hi := ih (aStep c N s).2.1 (by omega) (by rw [e]; exact hp)
        rw [aAll_go (s := s) (by rw [e])]
        rw [e] at hi ⊢
        dsimp only at hi ⊢
        refine ⟨?_, hi.2⟩
        rw [List.nil_append, hi.1]
        have l0 := hl 0 (by omega)
        have l1 := hl 1 (by omega)
        show pairsAll c (upd s.ls s.wk _ 0 ++ upd s.q s.wk _ 0) (upd s.ls s.wk _ 1 ++ upd s.q s.wk _ 1) = _
        rw [l0, l1]

/-- Two inputs that have ended, whose keys rise. -/
theorem pairs_den (c : UInt8) (N : Nat) (ins : List Strm) (hE : ∀ k, k < 2 → insE ins k = true) (hr : ∀ k, k < 2 → RiseP c N (insT ins k)) :
    (joDen c N ins).need = -1 ∧ (joDen c N ins).err = 0 ∧ (joDen c N ins).outs = outs0 (joinS (pairsAll c (insT ins 0) (insT ins 1))) := by
  obtain ⟨h1, h2, h3⟩ := pairs_run c N _ (jStart (insT ins) (insE ins)) (Nat.lt_succ_self _) ⟨rfl, hE, ⟨rfl, rfl⟩, fun _ _ _ => rfl, (fun _ _ h => by cases h), hr⟩
  unfold joDen
  rw [h1, h2, h3]
  exact ⟨rfl, rfl, rfl⟩
end Go.Proofs.Ytkgmbomfkdkofaa

/- penstocklaw14's parted and rises. -/
namespace Go.Proofs.Ytkgmbomfkdkofaa
open Go Go.RowKit

set_option maxHeartbeats 1000000 in
set_option maxRecDepth 100000 in
theorem parted_any (s : Bs) (c : UInt8) (w : World) (hs : s.length ≤ 1000000) :
    Calls Try.prog 25 #[strv s, .int .u8 c.toNat] w (KeyPost s c w) := by
  have hsz : (⟨s.toArray⟩ : ByteArray).size = s.length := by simp [ByteArray.size]
  have c5 : (s.length : Int) ≤ 1000000 := by omega
  go_enter Try.func25, Try.ntmps25
  go_wp2
  go_loopw [6] (fun i wr => ∃ k : Nat, k ≤ s.length ∧ i = .int .i64 k ∧ (∀ j (hj : j < s.length), j < k → s[j] ≠ c) ∧ w = wr) (fun i _ => s.length - (intOf i).toNat)
  case atStart => exact ⟨0, Nat.zero_le _, rfl, fun j _ h => by omega, rfl⟩
  case round =>
    obtain ⟨k, hk, rfl, hno, rfl⟩ := hrel
    by_cases hlt : k < s.length
    · have hltI : (k : Int) < (s.length : Int) := by omega
      have hk0 : (0 : Int) ≤ (k : Int) := by omega
      have hkb : k < (⟨s.toArray⟩ : ByteArray).size := by omega
      have hget : (⟨s.toArray⟩ : ByteArray)[k] = s[k] := by simp [ByteArray.getElem_eq_getElem_data]
      by_cases hc : s[k] = c
      · have hb : (((⟨s.toArray⟩ : ByteArray)[k].toNat : Int) == (c.toNat : Int)) = true := by rw [hget, hc]; simp
        obtain ⟨e1, e2⟩ := k_some c s k hlt (fun j hj => hno j (by omega) hj) hc
        have x1 : (⟨s.toArray⟩ : ByteArray).extract 0 k = ⟨(keyS c s).toArray⟩ := by rw [e1]; apply ByteArray.ext; simp
        have x2 : (⟨s.toArray⟩ : ByteArray).extract (k + 1) s.length = ⟨(restS c s).toArray⟩ := by rw [e2]; apply ByteArray.ext; simp [List.take_of_length_le]
        have c1 : (k : Int) ≤ (s.length : Int) := by omega
        have c3 : (k : Int) + 1 ≤ (s.length : Int) := by omega
        have c4 : (0 : Int) ≤ (k : Int) + 1 := by omega
        obtain ⟨a, ha⟩ : ∃ a, keyS c s = a := ⟨_, rfl⟩
        obtain ⟨b, hb2⟩ : ∃ b, restS c s = b := ⟨_, rfl⟩
        rw [ha] at x1
        rw [hb2] at x2
        have hb3 : ((s[k].toNat : Int) == (c.toNat : Int)) = true := by rw [hc]; simp
        replace ha := Lib.hid ha
        replace hb2 := Lib.hid hb2
        replace hno := Lib.hid hno
        clear hget hc e1 e2
        go_wp2
        go_quiet (fail)
        go_wp2
        go_ret2
        exact ⟨by rw [ha.out, hb2.out]; rfl, _, rfl⟩
      · have hb : (((⟨s.toArray⟩ : ByteArray)[k].toNat : Int) == (c.toNat : Int)) = false := by
          rw [hget, beq_eq_false_iff_ne]
          intro h
          exact hc (UInt8.toNat_inj.1 (by omega))
        have hb3 : ((s[k].toNat : Int) == (c.toNat : Int)) = false := by rw [← hget]; exact hb
        replace hc := Lib.hid hc
        clear hget
        replace hno := Lib.hid hno
        go_wp2
        go_roundw
        case rel =>
          refine ⟨k + 1, by omega, by go_num, fun j hj h => ?_, by trivial⟩
          by_cases hjk : j = k
          · subst hjk; exact hc.out
          · exact hno.out j hj (by omega)
        case measure => simp [intOf]; omega
    · have hltI : ¬ (k : Int) < (s.length : Int) := by omega
      have hkn := k_none c s (fun j hj => hno j hj (by omega))
      replace hkn := Lib.hid hkn
      go_wp2
      go_ret2
      exact ⟨by rw [hkn.out.1, hkn.out.2]; rfl, 0, rfl⟩

/-- What rises has seen after i lines: how many of the last key there are, and that the answer hangs on what follows. -/
structure RiseAt (c : UInt8) (N : Nat) (l : List Bs) (i run : Nat) : Prop where
  le : i ≤ l.length
  few : run ≤ N
  zero : i = 0 → run = 0
  go : ∀ (_ : 0 < i) (h2 : i - 1 < l.length), risesB c N l = rsB c N (keyS c l[i - 1]) run (l.drop i)

theorem RiseAt.first {c : UInt8} {N : Nat} {l : List Bs} (h : 0 < l.length) (hN : 1 ≤ N) : RiseAt c N l 1 1 := by
  refine ⟨h, hN, (fun h => by cases h), fun _ h2 => ?_⟩
  cases l with
  | nil => cases h
  | cons s r => rfl
theorem RiseAt.less {c : UInt8} {N : Nat} {l : List Bs} {i run : Nat} (h : RiseAt c N l i run) (h0 : 0 < i) (hi : i < l.length) (hlt : ltB (keyS c l[i]) (keyS c (l[i - 1]'(by omega))) = true) : risesB c N l = false := by
  rw [h.go h0 (by omega), List.drop_eq_getElem_cons hi, rsB, if_pos hlt]
theorem RiseAt.many {c : UInt8} {N : Nat} {l : List Bs} {i run : Nat} (h : RiseAt c N l i run) (h0 : 0 < i) (hi : i < l.length) (hlt : ltB (keyS c l[i]) (keyS c (l[i - 1]'(by omega))) = false)
    (hm : N < (if ltB (keyS c (l[i - 1]'(by omega))) (keyS c l[i]) = true then 1 else run + 1)) : risesB c N l = false := by
  rw [h.go h0 (by omega), List.drop_eq_getElem_cons hi, rsB, if_neg (by rw [hlt]; decide), if_pos hm]
theorem RiseAt.next {c : UInt8} {N : Nat} {l : List Bs} {i run : Nat} (h : RiseAt c N l i run) (h0 : 0 < i) (hi : i < l.length) (hlt : ltB (keyS c l[i]) (keyS c (l[i - 1]'(by omega))) = false)
    {run' : Nat} (hr : run' = (if ltB (keyS c (l[i - 1]'(by omega))) (keyS c l[i]) = true then 1 else run + 1)) (hm : run' ≤ N) : RiseAt c N l (i + 1) run' := by
  refine ⟨hi, hm, (fun h => by omega), fun _ h2 => ?_⟩
  rw [h.go h0 (by omega), List.drop_eq_getElem_cons hi, rsB, if_neg (by rw [hlt]; decide), ← hr, if_neg (by omega)]
  rfl
theorem RiseAt.all {c : UInt8} {N : Nat} {l : List Bs} {run : Nat} (h : RiseAt c N l l.length run) : risesB c N l = true := by
  cases l with
  | nil => rfl
  | cons s r => rw [h.go (by simp) (by simp), List.drop_length]; rfl

set_option maxHeartbeats 2000000 in
set_option maxRecDepth 100000 in
theorem risesB_any (l : List Bs) (c : UInt8) (N : Nat) (A : Option Addr) (ca : Nat) (D : Nat → Prop) (w : World) (h1 : Rd w D 1 A l.length (strs l)) (hN : 1 ≤ N) (hN2 : N ≤ 100) (hl : l.length ≤ 100000) (h64 : ∀ x ∈ l, x.length ≤ 64) :
    Calls Try.prog 23 #[.slice A l.length ca, .int .u8 c.toNat, .int .i64 N] w fun e w' => e = .returned (.bool (risesB c N l)) ∧ ∃ n, w' = w.drewN n := by
  have hcl : ∀ m i (hi : i < l.length), ∃ g o, A = some ⟨g, o, none⟩ ∧ (w.drewN m).cell? ⟨g, o + i, none⟩ = some (strv l[i]) := fun m i hi => by
    obtain ⟨g, o, v, hA, _, _, hv, hc⟩ := h1.at_ hi
    rw [List.getElem?_map, List.getElem?_eq_getElem hi] at hv
    simp only [Option.map_some, Option.some.injEq] at hv
    subst hv
    exact ⟨g, o, hA, hc⟩
  replace hcl := Lib.hid hcl
  go_enter Try.func23, Try.ntmps23
  go_wp2
  go_loopw [8, 7] (fun i rn wr => ∃ k run m : Nat, i = .int .i64 k ∧ rn = .int .i64 run ∧ RiseAt c N l k run ∧ wr = w.drewN m) (fun i _ _ => l.length - (intOf i).toNat)
  case atStart => exact ⟨0, 0, 0, rfl, rfl, ⟨Nat.zero_le _, Nat.zero_le _, fun _ => rfl, fun h => by cases h⟩, rfl⟩
  case round =>
    obtain ⟨k, run, m, rfl, rfl, hat, rfl⟩ := hrel
    have hkl := hat.le
    have hrN := hat.few
    by_cases hlt : k < l.length
    · have hltI : (k : Int) < (l.length : Int) := by omega
      have hk0 : (0 : Int) ≤ (k : Int) := by omega
      have hr0 : (0 : Int) ≤ (run : Int) := by omega
      have hrI : (run : Int) ≤ 100 := by omega
      obtain ⟨g, o, rfl, f0⟩ := hcl.out m k hlt
      have hx64 := h64 _ (List.getElem_mem hlt)
      have hkx := fun W => parted_any l[k] c W (by omega)
      unfold KeyPost at hkx
      by_cases hz : k = 0
      · obtain rfl : run = 0 := hat.zero hz
        subst hz
        have hnx := RiseAt.first (c := c) hlt hN
        have hNI : ¬ (N : Int) < 1 := by omega
        replace hnx := Lib.hid hnx
        replace hat := Lib.hid hat
        generalize l[0] = x at *
        simp only [Nat.add_zero] at f0
        replace hkx := Lib.hid hkx
        go_wp2_with (first
          | (go_at_call 25
             with_reducible refine Calls.mono (hkx.out _) ?_
             rintro e1 w1 ⟨rfl, m1, rfl⟩))
        go_roundw
        case rel => exact ⟨1, 1, m + m1, by go_num, by go_num, hnx.out, by simp⟩
        case measure => simp [intOf]; omega
      · obtain ⟨j, rfl⟩ : ∃ j, k = j + 1 := ⟨k - 1, by omega⟩
        have hj0 : (0 : Int) ≤ (j : Int) := by omega
        have hjI : (j : Int) < (l.length : Int) := by omega
        have hjI2 : (j : Int) + 1 < (l.length : Int) := by omega
        have hjp : (0 : Int) < (j : Int) + 1 := by omega
        have hx64' := h64 _ (List.getElem_mem (show j < l.length by omega))
        have hky := fun W => parted_any l[j + 1] c W (by omega)
        have hkx := fun W => parted_any (l[j]'(by omega)) c W (by omega)
        unfold KeyPost at hky hkx
        have f1 : ∀ m1, (w.drewN m1).cell? ⟨g, o + j, none⟩ = some (strv (l[j]'(by omega))) := fun m1 => by
          obtain ⟨g', o', e, f⟩ := hcl.out m1 j (by omega)
          cases e
          exact f
        have f2 : ∀ m1, (w.drewN m1).cell? ⟨g, o + (j + 1), none⟩ = some (strv (l[j + 1]'(by omega))) := fun m1 => by
          obtain ⟨g', o', e, f⟩ := hcl.out m1 (j + 1) (by omega)
          cases e
          exact f
        have hless : ltB (keyS c (l[j + 1]'(by omega))) (keyS c (l[j]'(by omega))) = true → risesB c N l = false := hat.less (by omega) hlt
        have hmany : ltB (keyS c (l[j + 1]'(by omega))) (keyS c (l[j]'(by omega))) = false → N < (if ltB (keyS c (l[j]'(by omega))) (keyS c (l[j + 1]'(by omega))) = true then 1 else run + 1) → risesB c N l = false := hat.many (by omega) hlt
        have hnext : ltB (keyS c (l[j + 1]'(by omega))) (keyS c (l[j]'(by omega))) = false → ∀ run', run' = (if ltB (keyS c (l[j]'(by omega))) (keyS c (l[j + 1]'(by omega))) = true then 1 else run + 1) → run' ≤ N → RiseAt c N l (j + 1 + 1) run' := fun hl run' => hat.next (by omega) hlt hl (run' := run')
        replace hat := Lib.hid hat
        generalize l[j + 1] = y at *
        generalize (l[j]'(by omega)) = x at *
        generalize keyS c y = ky at *
        generalize keyS c x = kx at *
        replace hkx := Lib.hid hkx
        replace hky := Lib.hid hky
        replace hless := Lib.hid hless
        replace hmany := Lib.hid hmany
        replace hnext := Lib.hid hnext
        by_cases hb : ltB kx ky = true
        · have b1 : Op.bytesLess kx ky = true := hb
          have b3 := Lib.hid (ltB_asymm hb)
          have hif := Lib.hid (show (if ltB kx ky = true then 1 else run + 1) = 1 from if_pos hb)
          replace hb := Lib.hid hb
          by_cases hm : N < 1
          · have hmI : (N : Int) < 1 := by omega
            have hno := hmany.out b3.out (by rw [hif.out]; exact hm)
            replace hno := Lib.hid hno
            go_wp2_with (first
              | (go_at_call 25
                 with_reducible refine Calls.mono (hky.out _) ?_
                 rintro e1 w1 ⟨rfl, m1, rfl⟩)
              | (go_at_call 25
                 with_reducible refine Calls.mono (hkx.out _) ?_
                 rintro e2 w2 ⟨rfl, m2, rfl⟩))
            go_ret
            exact ⟨by rw [hno.out]; rfl, _, rfl⟩
          · have hmI : ¬ (N : Int) < 1 := by omega
            have hnx := hnext.out b3.out 1 (by rw [hif.out]) (by omega)
            replace hnx := Lib.hid hnx
            go_wp2_with (first
              | (go_at_call 25
                 with_reducible refine Calls.mono (hky.out _) ?_
                 rintro e1 w1 ⟨rfl, m1, rfl⟩)
              | (go_at_call 25
                 with_reducible refine Calls.mono (hkx.out _) ?_
                 rintro e2 w2 ⟨rfl, m2, rfl⟩))
            go_roundw
            case rel => exact ⟨j + 1 + 1, 1, _, by go_num, by go_num, hnx.out, rfl⟩
            case measure => simp [intOf]; omega
        · have b1 : Op.bytesLess kx ky = false := by simpa using hb
          by_cases he : kx = ky
          · have b2 : (kx == ky) = true := by simpa using he
            have b3 := Lib.hid (show ltB ky kx = false by rw [he]; exact ltB_irrefl _)
            have hif := Lib.hid (show (if ltB kx ky = true then 1 else run + 1) = run + 1 from if_neg hb)
            replace hb := Lib.hid hb
            replace he := Lib.hid he
            by_cases hm : N < (run + 1)
            · have hmI : (N : Int) < (run : Int) + 1 := by omega
              have hno := hmany.out b3.out (by rw [hif.out]; exact hm)
              replace hno := Lib.hid hno
              go_wp2_with (first
                | (go_at_call 25
                   with_reducible refine Calls.mono (hky.out _) ?_
                   rintro e1 w1 ⟨rfl, m1, rfl⟩)
                | (go_at_call 25
                   with_reducible refine Calls.mono (hkx.out _) ?_
                   rintro e2 w2 ⟨rfl, m2, rfl⟩))
              go_ret
              exact ⟨by rw [hno.out]; rfl, _, rfl⟩
            · have hmI : ¬ (N : Int) < (run : Int) + 1 := by omega
              have hnx := hnext.out b3.out (run + 1) (by rw [hif.out]) (by omega)
              replace hnx := Lib.hid hnx
              go_wp2_with (first
                | (go_at_call 25
                   with_reducible refine Calls.mono (hky.out _) ?_
                   rintro e1 w1 ⟨rfl, m1, rfl⟩)
                | (go_at_call 25
                   with_reducible refine Calls.mono (hkx.out _) ?_
                   rintro e2 w2 ⟨rfl, m2, rfl⟩))
              go_roundw
              case rel => exact ⟨j + 1 + 1, (run + 1), _, by go_num, by go_num, hnx.out, rfl⟩
              case measure => simp [intOf]; omega
          · have b2 : (kx == ky) = false := by simpa using he
            have hgt : ltB ky kx = true := by
              have := leB_of_not (a := ky) (b := kx) (by simpa using hb)
              rw [leB_iff] at this
              rcases this with this | this
              · exact this
              · exact absurd this.symm he
            have hno := hless.out hgt
            replace hno := Lib.hid hno
            replace hgt := Lib.hid hgt
            replace hb := Lib.hid hb
            replace he := Lib.hid he
            go_wp2_with (first
              | (go_at_call 25
                 with_reducible refine Calls.mono (hky.out _) ?_
                 rintro e1 w1 ⟨rfl, m1, rfl⟩)
              | (go_at_call 25
                 with_reducible refine Calls.mono (hkx.out _) ?_
                 rintro e2 w2 ⟨rfl, m2, rfl⟩))
            go_ret
            exact ⟨by rw [hno.out]; rfl, _, rfl⟩
    · obtain rfl : k = l.length := by omega
      have hltI : ¬ ((l.length : Nat) : Int) < (l.length : Int) := by omega
      have hall := hat.all
      replace hall := Lib.hid hall
      go_wp2
      go_ret
      exact ⟨by rw [hall.out]; rfl, m, rfl⟩
end Go.Proofs.Ytkgmbomfkdkofaa

/- Slices of bytes, in memory; what told makes of them. -/
namespace Go.Proofs.Ytkgmbomfkdkofaa
open Go Go.RowKit

def BssAt (w : World) (D : Nat → Prop) (v : Value) (l : List Bs) : Prop :=
  ∃ (A : Option Addr) (c : Nat) (its : List (Bs × Value)), v = .slice A l.length c ∧ l = its.map (fun t => t.1) ∧ Rd w D 1 A l.length (its.map (fun t => t.2)) ∧ ∀ t ∈ its, BsAt w D t.2 t.1 ∧ CapOk t.2
theorem BssAt.chg {w w' : World} {D S : Nat → Prop} {v : Value} {l : List Bs} (h : BssAt w D v l) (hb : Chg S w w') (hD : ∀ k, D k → k < w.heap.size → ¬ S k) : BssAt w' D v l := by
  obtain ⟨A, c, its, rfl, hl, hr, hi⟩ := h
  exact ⟨A, c, its, rfl, hl, hr.chg hb hD, fun t ht => ⟨(hi t ht).1.chg hb hD, (hi t ht).2⟩⟩
theorem BssAt.mono {w : World} {D D' : Nat → Prop} {v : Value} {l : List Bs} (h : BssAt w D v l) (hD : ∀ k, D k → k < w.heap.size → D' k) : BssAt w D' v l := by
  obtain ⟨A, c, its, rfl, hl, hr, hi⟩ := h
  exact ⟨A, c, its, rfl, hl, hr.mono hD, fun t ht => ⟨(hi t ht).1.mono hD, (hi t ht).2⟩⟩

/-- Streams that have ended. -/
def endS (b : Bs) : Strm := ⟨b, true, 0, 0, 0⟩
theorem info_strm : (Try.prog.info? 64).map (fun i => (i.zero, i.size, i.bytes)) = some (some (.agg #[.slice none 0 0, .bool false, .int .i64 0, .int .i64 0, .int .i64 0]), 5, 56) := by kernel_rfl
theorem flat_take_succ {α : Type} (f : α → List Value) (l : List α) (k : Nat) (hk : k < l.length) : (l.take (k + 1)).flatMap f = (l.take k).flatMap f ++ f l[k] := by
  rw [List.take_succ_eq_append_getElem hk, List.flatMap_append]; simp
/-- A row of api.Streams is no api.Params. -/
theorem own_not' {w : World} {g base : Nat} {cs : Array Value} {v : Value} {n : Nat} {xs : List Value} (hb : Blk w g 24 cs) (ho : w.ownsRow base 64 5 v n xs) (e : v.ownBlock = some g) : False := by
  rcases ho.2 with ⟨rfl, _⟩ | ⟨k, cap, cur, rfl, _, hh, _⟩
  · simp [Value.ownBlock] at e
  · simp [Value.ownBlock] at e
    subst e
    unfold Blk at hb
    rw [hb] at hh
    simp at hh
theorem own_not2 {w : World} {g base : Nat} {cs : Array Value} {v : Value} {n : Nat} {xs : List Value} (hb : Blk w g 42 cs) (ho : w.ownsRow base 64 5 v n xs) (e : v.ownBlock = some g) : False := by
  rcases ho.2 with ⟨rfl, _⟩ | ⟨k, cap, cur, rfl, _, hh, _⟩
  · simp [Value.ownBlock] at e
  · simp [Value.ownBlock] at e
    subst e
    unfold Blk at hb
    rw [hb] at hh
    simp at hh
theorem Blk_eq' {w : World} {g : Nat} {t : TypeId} {cs ds : Array Value} (h : Blk w g t cs) (e : cs = ds) : Blk w g t ds := e ▸ h
theorem got_set12 (a b c d : Value) (e f g h i j k l : Value) (o n er hd : _) (tk : Nat → Nat) (bd : Bool) : (((((((((((((gotC o n er hd tk bd).setIfInBounds 0 a).setIfInBounds 1 b).setIfInBounds 2 c).setIfInBounds 3 d).setIfInBounds 4 e).setIfInBounds 5 f).setIfInBounds 6 g).setIfInBounds 7 h).setIfInBounds 8 i).setIfInBounds 9 j).setIfInBounds 10 k).setIfInBounds 11 l) = #[a, b, c, d, e, f, g, h, i, j, k, l] := by simp [gotC]
end Go.Proofs.Ytkgmbomfkdkofaa

/- penstocklaw14: told. -/
namespace Go.Proofs.Ytkgmbomfkdkofaa.Join
open Go Go.RowKit

theorem drive_ready_n {M : Mach} {E : World → Prop} {B : Nat} {v : Value} {s : M.σ} {F : Nat → Prop} {w : World} (h : Ready M E B v s F w) (ins : List Strm) (cuts : List Int) (den : Den) (bound : Int) (hd : DEnd M den bound (drive M s ins cuts)) (n : Nat) (hn : ins.length = n)
    (A C : Option Addr) (ca cc : Nat) (D : Nat → Prop) (hins : StrmsAt w D (.slice A n ca) ins) (hcuts : Rd w D 1 C cuts.length (i64s cuts)) (hD : ∀ k, D k → ¬ F k) (hcl : cuts.length ≤ 100000) (hbl : ∀ x ∈ ins, x.bs.length ≤ 1000000) :
    Calls Try.prog 18 #[v, .slice A n ca, .slice C cuts.length cc] w (DrivenPost M E B v den bound F w) := by
  subst hn
  exact drive_ready h ins cuts den bound hd A C ca cc D hins hcuts hD hcl hbl

def ToldPost (w : World) (dn : Den) (e : Ending) (w' : World) : Prop :=
  ∃ (held : Int) (taken : Nat → Nat), e = .returned (.tuple #[.agg (gotC dn.outs dn.need dn.err held taken false), .bool true]) ∧ Chg (fun _ => False) w w'

set_option maxHeartbeats 4000000 in
set_option maxRecDepth 100000 in
theorem told_any (D : Nat → Prop) (p : Prm) (hp : p.Fine) (l : List Bs) (hI : fitI p (l.map endS)) (hl : ∀ b ∈ l, b.length ≤ 4000) (hd0 : (den p (l.map endS)).need = -1 ∧ (den p (l.map endS)).err = 0) (cuts : List Int) (hcl : cuts.length ≤ 100000) (v : Value) (A C : Option Addr) (ci cc : Nat) (w : World)
    (hv : PAt w D v p) (hl4 : l.length ≤ 100) (hins : BssAt w D (.slice A l.length ci) l) (hcuts : Rd w D 1 C cuts.length (i64s cuts)) (B : Nat) (hB : B ≤ w.heap.size) (hE : E B w) :
    Calls Try.prog 24 #[v, .slice C cuts.length cc, .slice A l.length ci] w (ToldPost w (den p (l.map endS))) := by
  obtain ⟨i0, hi0, iz0, iz1, iz2⟩ := info_parts info_strm
  have hvv := fun (W : World) (hW : Chg (fun _ => False) w W) => hv.chg hW (fun _ _ _ h => h)
  have hEE : ∀ W, Chg (fun _ => False) w W → E B W := fun W hW => E_on (hW.below hB (fun _ h => h.elim)) hE
  have hcp := fun (W : World) (hW : Chg (fun _ => False) w W) => copy_params_any D p hp _ W (hvv W hW)
  have hnew := fun (W : World) (hW : Chg (fun _ => False) w W) (u : Value) (D : Nat → Prop) (hu : PAt W D u p) => new_any D p hI.1 u W hu B (Nat.le_trans hB hW.size) (hEE W hW)
  have hdv := drive_ok p (l.map endS) hI (fun s hs => by obtain ⟨b, hb, rfl⟩ := List.mem_map.1 hs; exact hl b hb) cuts
  have hc2 := fun (W : World) (hW : Chg (fun _ => False) w W) => (hcuts.mono (D' := fun k => k < w.heap.size) (fun k _ hk => hk)).chg hW (fun _ _ _ h => h)
  obtain ⟨A1, c1, B1, d1, rfl, _, _⟩ := hv
  have hst : Blk (w.alloc (.cells #[.int .i64 p.kind, .int .i64 p.n, .slice A1 p.a.length c1, .slice B1 p.b.length d1] 24)) w.heap.size 24 #[.int .i64 p.kind, .int .i64 p.n, .slice A1 p.a.length c1, .slice B1 p.b.length d1] := Blk.new _ _ _
  obtain ⟨A', ci', its, hvs, hli, hri, hbi⟩ := hins
  cases hvs
  have hil : its.length = l.length := by rw [hli]; simp
  have hnil := nil_no
  replace hcp := Lib.hid hcp
  replace hnew := Lib.hid hnew
  replace hdv := Lib.hid hdv
  replace hc2 := Lib.hid hc2
  replace hd0 := Lib.hid hd0
  replace hI := Lib.hid hI
  replace hcl := Lib.hid hcl
  replace hli := Lib.hid hli
  replace hil := Lib.hid hil
  have hl10 := Lib.hid hl
  clear hEE hvv hl
  go_enter Try.func24, Try.ntmps24
  go_wp2
  go_loopw [9, 8] (fun i v wr => ∃ k : Nat, k ≤ l.length ∧ i = .int .i64 k ∧ Chg (fun _ => False) w wr ∧ Blk wr w.heap.size 24 #[.int .i64 p.kind, .int .i64 p.n, .slice A1 p.a.length c1, .slice B1 p.b.length d1] ∧
      Blk wr (w.heap.size + 1) 42 (gotC (fun _ => []) 0 0 0 (fun _ => 0) false) ∧ wr.ownsRow w.heap.size 64 5 v k ((its.take k).flatMap fun t => strmC (endS t.1, t.2))) (fun i _ _ => l.length - (intOf i).toNat)
  case atStart => exact ⟨0, by omega, rfl, ((Chg.refl _ _).alloc _).alloc _, hst.alloc _, blk_new' _ _ (by simp), by simpa using World.ownsRow_nil _ _ _ _⟩
  case round =>
    obtain ⟨k, hk, rfl, hch, hb, hbR, hown⟩ := hrel
    clear hst
    by_cases hlt : k < l.length
    · have hlt' : (k : Int) < (l.length : Int) := by omega
      have hk0 : (0 : Int) ≤ (k : Int) := by omega
      obtain ⟨g2, o2, u, rfl, hg2, hD2, hu, hcell⟩ := hri.at_ hlt
      have hki : k < its.length := by have := hil.out; omega
      rw [List.getElem?_map, List.getElem?_eq_getElem hki] at hu
      simp only [Option.map_some, Option.some.injEq] at hu
      obtain ⟨⟨A2, c2, hv2, hr2⟩, hcap⟩ := hbi _ (List.getElem_mem hki)
      have hft := flat_take_succ (fun t : Bs × Value => strmC (endS t.1, t.2)) its k hki
      rw [← hu, hv2] at hcell
      generalize its[k] = t at *
      have hcell' : wr.cell? ⟨g2, o2 + k, none⟩ = some (.slice A2 t.1.length c2) := (hch.cell (p := ⟨g2, o2 + k, none⟩) hg2 (fun h => h)).trans hcell
      have hs2 := hch.size
      replace hft := Lib.hid hft
      replace hv2 := Lib.hid hv2
      clear hcell hu hbi hr2
      go_wp2_with (first
        | (at_builtin
           refine wpList_append_own_at _ rfl (.tmp 19) (.tmp 25) 36 rfl w.heap.size 64 i0 _ 5 56 Try.underlying36 hi0 iz0 iz1 iz2 rfl (by omega) u8 k ((its.take k).flatMap fun t => strmC (endS t.1, t.2)) rfl (hown.alloc _) ⟨wr.heap.size, 0, none⟩ 1 1 [.slice A2 t.1.length c2, .bool true, .int .i64 0, .int .i64 0, .int .i64 0] rfl rfl (World.news_of_block (cs := #[.slice A2 t.1.length c2, .bool true, .int .i64 0, .int .i64 0, .int .i64 0]) (t := 64) (fr := (0, 0)) (heap_alloc_new wr _)) (by simp [Value.oneCell']) (by simp only [maxLen]; omega) (by omega) (by simp; omega) ?_
           intro v2 w2 hown2 hg2' hv2' hat2))
      go_roundw
      case rel =>
        have hug : ∀ j, u8.ownBlock = some j → w.heap.size ≤ j ∧ j < wr.heap.size := fun j e => ⟨(hown.lt j e).1, (hown.lt j e).2⟩
        have hc1 : Chg (fun _ => False) wr (wr.alloc (.cells #[.slice A2 t.1.length c2, .bool true, .int .i64 0, .int .i64 0, .int .i64 0] 64)) := (Chg.refl _ _).alloc _
        have hc2' : Chg (fun j => u8.ownBlock = some j) (wr.alloc (.cells #[.slice A2 t.1.length c2, .bool true, .int .i64 0, .int .i64 0, .int .i64 0] 64)) w2 := (Chg.refl _ _).grown hg2' (fun j e => .inl e)
        refine ⟨k + 1, by omega, by go_num, (hch.trans hc1 (fun _ h _ => h)).trans hc2' (fun y hy hlt => by have := (hug y hy).1; omega), (hb.chg hc1 (fun h => h)).chg hc2' (fun e => own_not' hb hown e), (hbR.chg hc1 (fun h => h)).chg hc2' (fun e => own_not2 hbR hown e), ?_⟩
        rw [hft.out]
        simp only [strmC, endS, hv2.out]
        exact hown2
      case measure => simp [intOf]; omega
    · have hlt' : ¬ (k : Int) < (l.length : Int) := by omega
      have hkn : k = l.length := by omega
      subst hkn
      rw [List.take_of_length_le (by have := hil.out; omega)] at hown
      have hsz2 := hch.size
      have hblt := hbR.lt
      obtain ⟨A9, c9, rfl, hrd⟩ := own_rd hown
      have hlm : (l.map endS).length = l.length := by simp
      have hstr : ∀ W, Chg (fun _ => False) wr W → StrmsAt W (fun k => k < wr.heap.size) (.slice A9 (l.map endS).length c9) (l.map endS) := fun W hW =>
        ⟨A9, c9, its.map (fun t => (endS t.1, t.2)), rfl, by rw [hli.out]; simp, by rw [hlm, List.flatMap_map]; exact (hrd.mono (D' := fun k => k < wr.heap.size) (fun k _ h => h)).chg hW (fun _ _ _ h => h), fun t ht => by
          obtain ⟨t0, ht0, rfl⟩ := List.mem_map.1 ht
          exact ⟨(((hbi t0 ht0).1.mono (D' := fun k => k < wr.heap.size) (fun k _ h => by omega)).chg hch (fun _ _ _ h => h)).chg hW (fun _ _ _ h => h), (hbi t0 ht0).2⟩⟩
      rw [hlm] at hstr
      replace hlm := Lib.hid hlm
      have p0 : wr.cell? ⟨w.heap.size, 0, none⟩ = some (.int .i64 p.kind) := (hb.cell 0).trans rfl
      have p1 : wr.cell? ⟨w.heap.size, 1, none⟩ = some (.int .i64 p.n) := (hb.cell 1).trans rfl
      have p2 : wr.cell? ⟨w.heap.size, 2, none⟩ = some (.slice A1 p.a.length c1) := (hb.cell 2).trans rfl
      have p3 : wr.cell? ⟨w.heap.size, 3, none⟩ = some (.slice B1 p.b.length d1) := (hb.cell 3).trans rfl
      replace hstr := Lib.hid hstr
      replace hbi := Lib.hid hbi
      clear hown hrd
      have tn := Lib.hid trivial
      go_wp2_with (first
        | (go_at_call 11
           refine (hcp.out wr hch).mono ?_
           intro e3 w3 hc3
           obtain ⟨v3, rfl, hp3, hb3⟩ := hc3
           have k3 : Chg (fun _ => False) wr w3 := Chg.of_below hb3)
        | (go_at_call 16
           refine (hnew.out w3 (hch.trans k3 (fun _ h _ => h)) _ _ hp3).mono ?_
           rintro e4 w4 ⟨m1, F1, rfl, hr1, hF1, hc4⟩
           have k4 : Chg (fun _ => False) wr w4 := k3.trans hc4 (fun _ h _ => h)
           have hF1w : ∀ k, F1 k → wr.heap.size ≤ k := fun k hk => by have := hF1 k hk; have := k3.size; omega)
        | (go_at_call 18
           refine (drive_ready_n hr1 (l.map endS) cuts _ _ hdv.out l.length hlm.out A9 C c9 cc (fun k => k < wr.heap.size) ?_ ((hc2.out w4 (hch.trans k4 (fun _ h _ => h))).mono (fun k hk _ => by have : k < w.heap.size := hk; show k < wr.heap.size; omega)) ?_ hcl.out ?_).mono ?_
           rotate_left 3
           rintro e5 w5 ⟨dd1, F3, rfl, hh1, hh01, hc5, hr3, hF3⟩
           have k5 : Chg (fun _ => False) wr w5 := k4.trans hc5 (fun k hk hlt => by have := hF1w k hk; omega)
           clear hh1 hh01 hr3 hF3)
        | (refine wpList_store_got rfl (.tmp 12) (.tmp 43) rfl w5.heap.size _ _ _ _ _ _ rfl rfl _ (Blk.new w5 _ _) rfl ?_
           intro w6 hG6 hc6
           have k56 : Chg (fun _ => False) w5 w6 := ((Chg.refl _ _).alloc _).trans hc6 (fun k hk hlt => by omega)
           have k6 : Chg (fun _ => False) wr w6 := k5.trans k56 (fun _ h _ => h)
           have hR6 := hbR.chg k6 (fun h => h)
           have hne : ¬ w.heap.size + 1 = w5.heap.size := by have := k5.size; omega
           have hne' : ¬ w5.heap.size = w.heap.size + 1 := by omega
           have g0 : w6.cell? ⟨w5.heap.size, 0, none⟩ = some (strv ((den p (l.map endS)).outs 0)) := (hG6.cell 0).trans (rfl)
           have g1 : w6.cell? ⟨w5.heap.size, 1, none⟩ = some (strv ((den p (l.map endS)).outs 1)) := (hG6.cell 1).trans (rfl)
           have g2 : w6.cell? ⟨w5.heap.size, 2, none⟩ = some (strv ((den p (l.map endS)).outs 2)) := (hG6.cell 2).trans (rfl)
           have g3 : w6.cell? ⟨w5.heap.size, 3, none⟩ = some (strv ((den p (l.map endS)).outs 3)) := (hG6.cell 3).trans (rfl)
           have g4 : w6.cell? ⟨w5.heap.size, 4, none⟩ = some (.int .i64 (-1)) := (hG6.cell 4).trans (by rw [← hd0.out.1]; rfl)
           have g5 : w6.cell? ⟨w5.heap.size, 5, none⟩ = some (.int .i64 0) := (hG6.cell 5).trans (by rw [← hd0.out.2]; rfl)
           have g6 : w6.cell? ⟨w5.heap.size, 6, none⟩ = some (.int .i64 dd1.held) := (hG6.cell 6).trans (rfl)
           have g7 : w6.cell? ⟨w5.heap.size, 7, none⟩ = some (.int .i64 (dd1.taken 0)) := (hG6.cell 7).trans (rfl)
           have g8 : w6.cell? ⟨w5.heap.size, 8, none⟩ = some (.int .i64 (dd1.taken 1)) := (hG6.cell 8).trans (rfl)
           have g9 : w6.cell? ⟨w5.heap.size, 9, none⟩ = some (.int .i64 (dd1.taken 2)) := (hG6.cell 9).trans (rfl)
           have g10 : w6.cell? ⟨w5.heap.size, 10, none⟩ = some (.int .i64 (dd1.taken 3)) := (hG6.cell 10).trans (rfl)
           have g11 : w6.cell? ⟨w5.heap.size, 11, none⟩ = some (.bool false) := (hG6.cell 11).trans (rfl)
           have z0 : w6.cell? ⟨w.heap.size + 1, 0, none⟩ = some (strv []) := (hR6.cell 0).trans rfl
           have z1 : w6.cell? ⟨w.heap.size + 1, 1, none⟩ = some (strv []) := (hR6.cell 1).trans rfl
           have z2 : w6.cell? ⟨w.heap.size + 1, 2, none⟩ = some (strv []) := (hR6.cell 2).trans rfl
           have z3 : w6.cell? ⟨w.heap.size + 1, 3, none⟩ = some (strv []) := (hR6.cell 3).trans rfl
           have z4 : w6.cell? ⟨w.heap.size + 1, 4, none⟩ = some (.int .i64 0) := (hR6.cell 4).trans rfl
           have z5 : w6.cell? ⟨w.heap.size + 1, 5, none⟩ = some (.int .i64 0) := (hR6.cell 5).trans rfl
           have z6 : w6.cell? ⟨w.heap.size + 1, 6, none⟩ = some (.int .i64 0) := (hR6.cell 6).trans rfl
           have z7 : w6.cell? ⟨w.heap.size + 1, 7, none⟩ = some (.int .i64 ((0 : Nat) : Int)) := (hR6.cell 7).trans rfl
           have z8 : w6.cell? ⟨w.heap.size + 1, 8, none⟩ = some (.int .i64 ((0 : Nat) : Int)) := (hR6.cell 8).trans rfl
           have z9 : w6.cell? ⟨w.heap.size + 1, 9, none⟩ = some (.int .i64 ((0 : Nat) : Int)) := (hR6.cell 9).trans rfl
           have z10 : w6.cell? ⟨w.heap.size + 1, 10, none⟩ = some (.int .i64 ((0 : Nat) : Int)) := (hR6.cell 10).trans rfl
           have z11 : w6.cell? ⟨w.heap.size + 1, 11, none⟩ = some (.bool false) := (hR6.cell 11).trans rfl
           have zf : ∀ i, w6.frozen? ⟨w.heap.size + 1, i, none⟩ = false := fun i => hR6.frozen i))
      · clear hbR hb hb3
        go_region
        go_wp2
        have hb12 := Blk_eq' (((((((((((((hR6.set 0 (strv ((den p (l.map endS)).outs 0))).set 1 (strv ((den p (l.map endS)).outs 1))).set 2 (strv ((den p (l.map endS)).outs 2))).set 3 (strv ((den p (l.map endS)).outs 3))).set 4 (.int .i64 (-1))).set 5 (.int .i64 0)).set 6 (.int .i64 dd1.held)).set 7 (.int .i64 (dd1.taken 0))).set 8 (.int .i64 (dd1.taken 1))).set 9 (.int .i64 (dd1.taken 2))).set 10 (.int .i64 (dd1.taken 3))).set 11 (.bool false)).drew) (got_set12 _ _ _ _ _ _ _ _ _ _ _ _ _ _ _ _ _ _)
        refine bodyPost_ret (results_cell_tmp_row rfl _ _ (w.heap.size + 1) _ _ _ _ rfl hb12 Try.underlying42 rfl info_got) rfl ?_
        refine ⟨dd1.held, dd1.taken, ?_, ?_⟩
        · rw [hd0.out.1, hd0.out.2]
          rfl
        · exact ((hch.trans k6 (fun _ h _ => h)).trans (S' := fun k => k = w.heap.size + 1) ((((((((((((((Chg.refl (fun k => k = w.heap.size + 1) w6).setCell (p := ⟨w.heap.size + 1, 0, none⟩) (.inl rfl) _).setCell (p := ⟨w.heap.size + 1, 1, none⟩) (.inl rfl) _).setCell (p := ⟨w.heap.size + 1, 2, none⟩) (.inl rfl) _).setCell (p := ⟨w.heap.size + 1, 3, none⟩) (.inl rfl) _).setCell (p := ⟨w.heap.size + 1, 4, none⟩) (.inl rfl) _).setCell (p := ⟨w.heap.size + 1, 5, none⟩) (.inl rfl) _).setCell (p := ⟨w.heap.size + 1, 6, none⟩) (.inl rfl) _).setCell (p := ⟨w.heap.size + 1, 7, none⟩) (.inl rfl) _).setCell (p := ⟨w.heap.size + 1, 8, none⟩) (.inl rfl) _).setCell (p := ⟨w.heap.size + 1, 9, none⟩) (.inl rfl) _).setCell (p := ⟨w.heap.size + 1, 10, none⟩) (.inl rfl) _).setCell (p := ⟨w.heap.size + 1, 11, none⟩) (.inl rfl) _)) (fun k hk hlt => by omega)).drew
      · exact (hstr.out w4 k4)
      · exact fun k hk hF => by have := hF1w k hF; omega
      · exact fun x hx => by obtain ⟨b, hb, rfl⟩ := List.mem_map.1 hx; have := hl10.out b hb; show b.length ≤ _; omega
end Go.Proofs.Ytkgmbomfkdkofaa.Join

/- penstocklaw14's lines: the lines of bytes that have ended. -/
namespace Go.Proofs.Ytkgmbomfkdkofaa.Join
open Go Go.RowKit

def LnsPost (w : World) (r : RdL) (e : Ending) (w' : World) : Prop :=
  ∃ (A : Option Addr) (c : Nat), e = .returned (.tuple #[.slice A r.lines.length c, .bool r.all]) ∧ Rd w' (fun _ => True) 1 A r.lines.length (r.lines.map strv) ∧ Chg (fun _ => False) w w'

set_option maxRecDepth 100000 in
theorem lns_any (b : Bs) (A : Option Addr) (c : Nat) (w : World) (hb : Rd w (fun _ => True) 1 A b.length (u8s b)) (hcb : b.length ≤ c) (hl : b.length ≤ 1048576) :
    Calls Try.prog 22 #[.slice A b.length c] w (LnsPost w (refLines ⟨b, true, 0, 0, 0⟩)) := by
  have hli := lines_any (fun _ => True) ⟨b, true, 0, 0, 0⟩ _ w ⟨A, c, rfl, hb, hcb⟩ (by dsimp only; omega)
  generalize refLines ⟨b, true, 0, 0, 0⟩ = r at *
  go_enter Try.func22, Try.ntmps22
  go_wp2_with (first
    | (go_at_call 32
       refine hli.mono ?_
       rintro e1 w1 ⟨v1, rfl, hown1, hb1⟩
       obtain ⟨A5, c5, rfl, hrd1⟩ := own_rd hown1))
  have k1 : Chg (fun _ => False) w w1 := Chg.of_below hb1
  have hrd2 : Rd w1 (fun _ => True) 1 A5 r.lines.length (r.lines.map strv) := hrd1.mono (fun _ _ _ => trivial)
  clear hown1 hrd1 hb1
  go_quiet (fail)
  go_wp2
  go_ret2
  exact ⟨A5, c5, rfl, hrd2.chg (S := fun _ => False) (((Chg.refl _ _).alloc _).drewN _) (fun _ _ _ h => h), (k1.alloc _).drewN _⟩
end Go.Proofs.Ytkgmbomfkdkofaa.Join

/- JoinPairs: all pairs of lines of one key come out. -/
namespace Go.Proofs.Ytkgmbomfkdkofaa.Join
open Go Go.RowKit

theorem prm_one {w : World} (c : UInt8) (k n : Int) (g : Nat) (T : TypeId) (h : Blk w g T #[.int .u8 c.toNat]) : PAt w (fun _ => True) (.agg #[.int .i64 k, .int .i64 n, .slice (some ⟨g, 0, none⟩) 1 1, .slice none 0 0]) ⟨k, n, [c], []⟩ :=
  ⟨some ⟨g, 0, none⟩, 1, none, 0, rfl, ⟨rfl, fun _ => ⟨g, 0, rfl, h.lt, trivial, fun j u hu => by
    obtain rfl : j = 0 := by
      have h1 : j < 1 := (List.getElem?_eq_some_iff.1 hu).1
      omega
    exact (h.cell 0).trans hu⟩⟩, Rd.nil _ _ _ _⟩
theorem fit_of (n : Nat) (c : UInt8) (hc : c ≠ 10) (h1 : 1 ≤ n) (h4 : n ≤ 14) : fitP ⟨14, n, [c], []⟩ := by
  have ho : oneB [c] = true := by unfold oneB; simp [hc]
  have h2 : ¬ (2048 : Int) < 2 * (64 * (n : Int) + 96) := by omega
  have h3 : (1 : Int) ≤ (n : Int) := by omega
  have h5 : ¬ (100 : Int) < (n : Int) := by omega
  refine ⟨?_, rfl⟩
  have e1 : refHolds ⟨14, n, [c], []⟩ = 2 * (64 * (n : Int) + 96) := by
    unfold refHolds
    rw [if_neg (fun h => h5 h.2)]
    simp
  have e2 : refRow ⟨14, n, [c], []⟩ = true := by
    simp [refRow, ho, ze]
    exact h3
  unfold refCheck
  rw [if_neg (by dsimp only; omega), if_neg (by rw [e2]; decide), if_neg (by rw [e1]; exact h2)]

theorem pairsAll_len (c : UInt8) (m : List Bs) : ∀ l : List Bs, (pairsAll c l m).length ≤ l.length * m.length
  | [] => by simp [pairsAll]
  | x :: l => by
    have ih := pairsAll_len c m l
    have h := List.length_filter_le (fun y => decide (keyS c y = keyS c x)) m
    unfold pairsAll at ih ⊢
    simp only [List.flatMap_cons, List.length_append, List.length_map, List.length_cons, Nat.succ_mul]
    omega
theorem plS_len {c : UInt8} {key x y : Bs} (h1 : key.length ≤ 64) (h2 : x.length ≤ 64) (h3 : y.length ≤ 64) : (plS c key x y).length ≤ 200 := by
  have := (cutBy_len c x).2
  have := (cutBy_len c y).2
  unfold plS
  simp only [List.length_append, List.length_singleton]
  omega
theorem pairsAll_line {c : UInt8} {l m : List Bs} (hl : ∀ x ∈ l, x.length ≤ 64) (hm : ∀ x ∈ m, x.length ≤ 64) : ∀ z ∈ pairsAll c l m, z.length ≤ 200 := by
  intro z hz
  unfold pairsAll at hz
  rw [List.mem_flatMap] at hz
  obtain ⟨x, hx, hz⟩ := hz
  rw [List.mem_map] at hz
  obtain ⟨y, hy, rfl⟩ := hz
  exact plS_len (by have := (cutBy_len c x).1; have := hl x hx; omega) (hl x hx) (hm y (List.mem_filter.1 hy).1)

/-- What is written when i lines of one and j of the other have been looked at. -/
def pp (c : UInt8) (l m : List Bs) (i j : Nat) : List Bs := pairsAll c (l.take i) m ++ (match l[i]? with | some x => ((m.take j).filter fun y => decide (keyS c y = keyS c x)).map (plS c (keyS c x) x) | none => [])
theorem pp_zero (c : UInt8) (l m : List Bs) (i : Nat) : pp c l m i 0 = pairsAll c (l.take i) m := by
  unfold pp
  split <;> simp
theorem pp_end (c : UInt8) (l m : List Bs) (i : Nat) (hi : i < l.length) : pp c l m i m.length = pairsAll c (l.take (i + 1)) m := by
  unfold pp
  rw [List.getElem?_eq_getElem hi, List.take_succ_eq_append_getElem hi]
  unfold pairsAll
  rw [List.flatMap_append]
  simp
theorem pp_yes (c : UInt8) (l m : List Bs) (i j : Nat) (hi : i < l.length) (hj : j < m.length) (hk : keyS c m[j] = keyS c l[i]) : pp c l m i (j + 1) = pp c l m i j ++ [plS c (keyS c l[i]) l[i] m[j]] := by
  unfold pp
  rw [List.getElem?_eq_getElem hi]
  dsimp only
  rw [List.take_succ_eq_append_getElem hj, List.filter_append, List.map_append, List.filter_cons_of_pos (by simpa using hk), ← List.append_assoc]
  rfl
theorem pp_no (c : UInt8) (l m : List Bs) (i j : Nat) (hi : i < l.length) (hj : j < m.length) (hk : keyS c m[j] ≠ keyS c l[i]) : pp c l m i (j + 1) = pp c l m i j := by
  unfold pp
  rw [List.getElem?_eq_getElem hi]
  dsimp only
  rw [List.take_succ_eq_append_getElem hj, List.filter_append, List.map_append, List.filter_cons_of_neg (by simpa using hk)]
  simp
theorem pp_le (c : UInt8) (l m : List Bs) (i j : Nat) (hl : l.length ≤ 1000) (hm : m.length ≤ 1000) (hl64 : ∀ x ∈ l, x.length ≤ 64) (hm64 : ∀ x ∈ m, x.length ≤ 64) : (joinS (pp c l m i j)).length ≤ 300000000 := by
  have h1 := pairsAll_len c m (l.take i)
  have h2 : (l.take i).length * m.length ≤ 1000 * 1000 := Nat.mul_le_mul (by rw [List.length_take]; omega) hm
  have hline : ∀ z ∈ pp c l m i j, z.length ≤ 200 := fun z hz => by
    unfold pp at hz
    rcases List.mem_append.1 hz with hz | hz
    · exact pairsAll_line (fun x hx => hl64 x (List.mem_of_mem_take hx)) hm64 z hz
    · split at hz
      · next x hx =>
        rw [List.mem_map] at hz
        obtain ⟨y, hy, rfl⟩ := hz
        have hxl := hl64 x (List.mem_of_getElem? hx)
        exact plS_len (by have := (cutBy_len c x).1; omega) hxl (hm64 y (List.mem_of_mem_take (List.mem_filter.1 hy).1))
      · cases hz
  have hcount : (pp c l m i j).length ≤ 1000 * 1000 + 1000 := by
    unfold pp
    rw [List.length_append]
    split
    · next x _ =>
      rw [List.length_map]
      have h3 := List.length_filter_le (fun y => decide (keyS c y = keyS c x)) (m.take j)
      rw [List.length_take] at h3
      omega
    · simp only [List.length_nil]; omega
  have h4 := joinS_le (pp c l m i j) 200 hline
  have h5 : (pp c l m i j).length * 201 ≤ (1000 * 1000 + 1000) * 201 := Nat.mul_le_mul_right _ hcount
  omega

theorem insT_end (l : List Bs) {k : Nat} (hk : k < l.length) : insT (l.map endS) k = (refLines (endS l[k])).lines := by
  unfold insT rdT
  rw [sAt_get (by simpa using hk)]; simp
theorem insE_end (l : List Bs) {k : Nat} (hk : k < l.length) : insE (l.map endS) k = (refLines (endS l[k])).all := by
  unfold insE rdE
  rw [sAt_get (by simpa using hk)]; simp
/-- What join makes of two such inputs. -/
theorem two_den (n : Nat) (c : UInt8) (a b : Bs) (hn : 1 ≤ n) (h0 : (refLines ⟨a, true, 0, 0, 0⟩).all = true) (h1 : (refLines ⟨b, true, 0, 0, 0⟩).all = true)
    (r0 : risesB c n (refLines ⟨a, true, 0, 0, 0⟩).lines = true) (r1 : risesB c n (refLines ⟨b, true, 0, 0, 0⟩).lines = true) :
    ((den ⟨14, n, [c], []⟩ ([a, b].map endS)).need = -1 ∧ (den ⟨14, n, [c], []⟩ ([a, b].map endS)).err = 0) ∧ (den ⟨14, n, [c], []⟩ ([a, b].map endS)).outs = outs0 (joinS (pairsAll c (refLines ⟨a, true, 0, 0, 0⟩).lines (refLines ⟨b, true, 0, 0, 0⟩).lines)) := by
  have e0 : insT ([a, b].map endS) 0 = (refLines ⟨a, true, 0, 0, 0⟩).lines := insT_end [a, b] (by simp)
  have e1 : insT ([a, b].map endS) 1 = (refLines ⟨b, true, 0, 0, 0⟩).lines := insT_end [a, b] (by simp)
  have f0 : insE ([a, b].map endS) 0 = (refLines ⟨a, true, 0, 0, 0⟩).all := insE_end [a, b] (by simp)
  have f1 : insE ([a, b].map endS) 1 = (refLines ⟨b, true, 0, 0, 0⟩).all := insE_end [a, b] (by simp)
  have hd := pairs_den c n ([a, b].map endS) (fun k hk => by
    obtain rfl | rfl : k = 0 ∨ k = 1 := by omega
    · rw [f0]; exact h0
    · rw [f1]; exact h1) (fun k hk => by
    obtain rfl | rfl : k = 0 ∨ k = 1 := by omega
    · rw [e0]; exact rises_P hn r0
    · rw [e1]; exact rises_P hn r1)
  rw [e0, e1] at hd
  exact ⟨⟨hd.1, hd.2.1⟩, hd.2.2⟩
set_option maxHeartbeats 8000000 in
set_option maxRecDepth 100000 in
theorem pairs_law (n : Int) (c : UInt8) (a b : Bs) (cuts : List Int) (A B C : Option Addr) (ca cb cc : Nat) (w : World)
    (_ : -9223372036854775808 ≤ n ∧ n ≤ 9223372036854775807) (hca : a.length ≤ ca) (_ : ca ≤ maxLen) (ha : Rd w (fun _ => True) 1 A a.length (u8s a)) (hcb : b.length ≤ cb) (_ : cb ≤ maxLen) (hb : Rd w (fun _ => True) 1 B b.length (u8s b))
    (hcl : cuts.length ≤ maxLen) (hcuts : Rd w (fun _ => True) 1 C cuts.length (i64s cuts)) (hE : E w.heap.size w) :
    Calls Try.prog 7 #[.int .i64 n, .int .u8 c.toNat, .slice A a.length ca, .slice B b.length cb, .slice C cuts.length cc] w (TruePost w) := by
  have hEE : ∀ W, Chg (fun _ => False) w W → E w.heap.size W := fun W hW => E_on (hW.below (Nat.le_refl _) (fun _ h => h.elim)) hE
  have haw := fun (W : World) (hW : Chg (fun _ => False) w W) => awake_any w.heap.size W hW.size (hEE W hW)
  have hhv := fun (W : World) (C2 : Option Addr) (c2 : Nat) (hr : Rd W (fun _ => True) 1 C2 1 [.slice C cuts.length cc]) =>
    heavy_any (fun _ => True) 14 n (some ⟨w.heap.size, 0, none⟩) none 1 1 0 0 none C2 0 c2 [] [(C, cuts.length, cc)] W (by simp [maxLen]) (by simp [maxLen]) (by simp [maxLen]) ⟨none, 0, [], rfl, rfl, Rd.nil _ _ _ _, fun _ h => by cases h⟩ (fun _ h => by cases h) hr (by simp) (by
      intro c hc
      simp at hc
      subst hc
      exact hcl)
  have hst0 : Blk (w.alloc (.cells #[.int .u8 c.toNat] 5)) w.heap.size 5 #[.int .u8 c.toNat] := Blk.new _ _ _
  have hst : Blk ((w.alloc (.cells #[.int .u8 c.toNat] 5)).alloc (.cells #[.int .i64 14, .int .i64 n, .slice (some ⟨w.heap.size, 0, none⟩) 1 1, .slice none 0 0] 24)) (w.heap.size + 1) 24 #[.int .i64 14, .int .i64 n, .slice (some ⟨w.heap.size, 0, none⟩) 1 1, .slice none 0 0] := blk_new' _ _ (by simp)
  generalize hh : heavyB 1 0 [] [(C, cuts.length, cc)] = hβ at *
  replace haw := Lib.hid haw
  replace hhv := Lib.hid hhv
  have hc8 := c.toNat_lt
  by_cases hok : hβ = false ∧ a.length ≤ 1000 ∧ b.length ≤ 1000 ∧ 1 ≤ n ∧ n ≤ 14 ∧ c ≠ 10
  · obtain ⟨rfl, hla, hlb, hn1, hn14, hc10⟩ := hok
    have hsz := heavyB_false hh
    obtain ⟨m, rfl⟩ : ∃ m : Nat, n = m := ⟨n.toNat, by omega⟩
    have hm1 : 1 ≤ m := by omega
    have hm14 : m ≤ 14 := by omega
    have hl1 : ¬ (1000 : Int) < (a.length : Int) := by omega
    have hl2 : ¬ (1000 : Int) < (b.length : Int) := by omega
    have hl3 : ¬ (m : Int) < 1 := by omega
    have hl4 : ¬ (14 : Int) < (m : Int) := by omega
    have hcI : ((c.toNat : Int) == 10) = false := by
      rw [beq_eq_false_iff_ne]
      intro h
      apply hc10
      apply UInt8.toNat_inj.1
      show c.toNat = 10
      omega
    have hf := fit_of m c hc10 hm1 hm14
    have hlnA := fun (W : World) (hW : Chg (fun _ => False) w W) => lns_any a A ca W (ha.chg hW (fun _ _ _ h => h)) hca (by omega)
    have hlnB := fun (W : World) (hW : Chg (fun _ => False) w W) => lns_any b B cb W (hb.chg hW (fun _ _ _ h => h)) hcb (by omega)
    have hden := two_den m c a b hm1
    have h64A := refLines_len ⟨a, true, 0, 0, 0⟩
    have h64B := refLines_len ⟨b, true, 0, 0, 0⟩
    have hnA := (refLines_sum ⟨a, true, 0, 0, 0⟩).2
    have hnB := (refLines_sum ⟨b, true, 0, 0, 0⟩).2
    have htl := fun (hd0 : (den ⟨14, m, [c], []⟩ ([a, b].map endS)).need = -1 ∧ (den ⟨14, m, [c], []⟩ ([a, b].map endS)).err = 0) (W : World) (hW : Chg (fun _ => False) w W) (hP : Blk W w.heap.size 5 #[.int .u8 c.toNat]) (A2 : Option Addr) (c2 : Nat) (hi2 : BssAt W (fun _ => True) (.slice A2 [a, b].length c2) [a, b]) =>
      told_any (fun _ => True) ⟨14, m, [c], []⟩ ⟨by dsimp only; omega, by dsimp only; omega, by simp, by simp⟩ [a, b] ⟨hf, by rw [(fit_n hf).2.2.2.1]; rfl⟩ (fun x hx => by simp at hx; rcases hx with rfl | rfl <;> omega) hd0 cuts (by have := hsz.2.2.2.2 (C, cuts.length, cc) (by simp); dsimp only at this; omega) _ A2 C c2 cc W (prm_one c 14 m w.heap.size _ hP) (by simp) hi2 (hcuts.chg hW (fun _ _ _ h => h)) w.heap.size hW.size (hEE W hW)
    unfold ToldPost at htl
    unfold LnsPost at hlnA hlnB
    have hbs := fun (W : World) (hW : Chg (fun _ => False) w W) (g : Nat) (hg : W.heap.size = g) (T : TypeId) => (show BssAt (W.alloc (.cells #[.slice A a.length ca, .slice B b.length cb] T)) (fun _ => True) (.slice (some ⟨g, 0, none⟩) 2 2) [a, b] from
      ⟨some ⟨g, 0, none⟩, 2, [(a, .slice A a.length ca), (b, .slice B b.length cb)], rfl, rfl, row_new _ 2 rfl hg, fun t ht => by
        simp only [List.mem_cons, List.not_mem_nil, or_false] at ht
        rcases ht with rfl | rfl
        · exact ⟨⟨A, ca, rfl, (ha.chg hW (fun _ _ _ h => h)).chg ((Chg.refl (fun _ => False) W).alloc _) (fun _ _ _ h => h)⟩, capOk_slice hca⟩
        · exact ⟨⟨B, cb, rfl, (hb.chg hW (fun _ _ _ h => h)).chg ((Chg.refl (fun _ => False) W).alloc _) (fun _ _ _ h => h)⟩, capOk_slice hcb⟩⟩)
    generalize refLines ⟨a, true, 0, 0, 0⟩ = ra at *
    generalize refLines ⟨b, true, 0, 0, 0⟩ = rb at *
    replace htl := Lib.hid htl
    replace hbs := Lib.hid hbs
    replace hlnA := Lib.hid hlnA
    replace hlnB := Lib.hid hlnB
    replace hh := Lib.hid hh
    clear hsz hf hEE hE ha hb hcuts
    obtain ⟨l0, all0, r1, r2, r3⟩ := ra
    obtain ⟨l1, all1, r4, r5, r6⟩ := rb
    dsimp only at hnA hnB h64A h64B hden
    have hri0 := fun (W : World) (A' : Option Addr) (c' : Nat) (h : Rd W (fun _ => True) 1 A' l0.length (strs l0)) => risesB_any l0 c m A' c' _ W h hm1 (by omega) (by omega) h64A
    have hri1 := fun (W : World) (A' : Option Addr) (c' : Nat) (h : Rd W (fun _ => True) 1 A' l1.length (strs l1)) => risesB_any l1 c m A' c' _ W h hm1 (by omega) (by omega) h64B
    generalize hx0 : risesB c m l0 = x0 at *
    generalize hx1 : risesB c m l1 = x1 at *
    replace hx0 := Lib.hid hx0
    replace hx1 := Lib.hid hx1
    replace hri0 := Lib.hid hri0
    replace hri1 := Lib.hid hri1
    cases all0
    · clear hden htl hbs
      go_enter Try.func7, Try.ntmps7
      go_wp2_with (first
        | (go_at_call 14
           refine (hhv.out _ _ _ (row_new _ 1 rfl (by simp))).mono ?_
           rintro e1 w1 ⟨rfl, hc1⟩
           have k1 : Chg (fun _ => False) w w1 := ((((Chg.refl _ _).alloc _).alloc _).alloc _).trans hc1 (fun _ h _ => h)
           have hb1 := (hst.alloc _).chg hc1 (fun h => h)
           have hp1 := ((hst0.alloc _).alloc _).chg hc1 (fun h => h))
        | (go_at_call 22
           with_reducible refine Calls.mono (hlnA.out _ k1) ?_
           rintro e2 w2 ⟨A5, c5, rfl, hr5, hc2⟩
           have k2 : Chg (fun _ => False) w w2 := k1.trans hc2 (fun _ h _ => h))
        | (go_at_call 22
           with_reducible refine Calls.mono (hlnB.out _ k2) ?_
           rintro e3 w3 ⟨A6, c6, rfl, hr6, hc3⟩
           have k3 : Chg (fun _ => False) w w3 := k2.trans hc3 (fun _ h _ => h)
           have hr5' := hr5.chg hc3 (fun _ _ _ h => h))
        | (go_at_call 15
           refine (haw.out _ k3).mono ?_
           rintro e9 w9 ⟨rfl, hc9⟩))
      go_ret
      exact ⟨rfl, k3.trans hc9 (fun _ h _ => h)⟩
    cases all1
    · clear hden htl hbs
      go_enter Try.func7, Try.ntmps7
      go_wp2_with (first
        | (go_at_call 14
           refine (hhv.out _ _ _ (row_new _ 1 rfl (by simp))).mono ?_
           rintro e1 w1 ⟨rfl, hc1⟩
           have k1 : Chg (fun _ => False) w w1 := ((((Chg.refl _ _).alloc _).alloc _).alloc _).trans hc1 (fun _ h _ => h)
           have hb1 := (hst.alloc _).chg hc1 (fun h => h)
           have hp1 := ((hst0.alloc _).alloc _).chg hc1 (fun h => h))
        | (go_at_call 22
           with_reducible refine Calls.mono (hlnA.out _ k1) ?_
           rintro e2 w2 ⟨A5, c5, rfl, hr5, hc2⟩
           have k2 : Chg (fun _ => False) w w2 := k1.trans hc2 (fun _ h _ => h))
        | (go_at_call 22
           with_reducible refine Calls.mono (hlnB.out _ k2) ?_
           rintro e3 w3 ⟨A6, c6, rfl, hr6, hc3⟩
           have k3 : Chg (fun _ => False) w w3 := k2.trans hc3 (fun _ h _ => h)
           have hr5' := hr5.chg hc3 (fun _ _ _ h => h))
        | (go_at_call 15
           refine (haw.out _ k3).mono ?_
           rintro e9 w9 ⟨rfl, hc9⟩))
      go_ret
      exact ⟨rfl, k3.trans hc9 (fun _ h _ => h)⟩
    cases x0
    · clear hden htl hbs
      go_enter Try.func7, Try.ntmps7
      go_wp2_with (first
        | (go_at_call 14
           refine (hhv.out _ _ _ (row_new _ 1 rfl (by simp))).mono ?_
           rintro e1 w1 ⟨rfl, hc1⟩
           have k1 : Chg (fun _ => False) w w1 := ((((Chg.refl _ _).alloc _).alloc _).alloc _).trans hc1 (fun _ h _ => h)
           have hb1 := (hst.alloc _).chg hc1 (fun h => h)
           have hp1 := ((hst0.alloc _).alloc _).chg hc1 (fun h => h))
        | (go_at_call 22
           with_reducible refine Calls.mono (hlnA.out _ k1) ?_
           rintro e2 w2 ⟨A5, c5, rfl, hr5, hc2⟩
           have k2 : Chg (fun _ => False) w w2 := k1.trans hc2 (fun _ h _ => h))
        | (go_at_call 22
           with_reducible refine Calls.mono (hlnB.out _ k2) ?_
           rintro e3 w3 ⟨A6, c6, rfl, hr6, hc3⟩
           have k3 : Chg (fun _ => False) w w3 := k2.trans hc3 (fun _ h _ => h)
           have hr5' := hr5.chg hc3 (fun _ _ _ h => h))
        | (go_at_call 23
           with_reducible refine Calls.mono (hri0.out _ _ _ hr5') ?_
           rintro e4 w4 ⟨rfl, q1, rfl⟩
           have k4 := k3.drewN q1
           have hr6' := hr6.chg (S := fun _ => False) ((Chg.refl _ _).drewN q1) (fun _ _ _ h => h))
        | (go_at_call 15
           refine (haw.out _ k4).mono ?_
           rintro e9 w9 ⟨rfl, hc9⟩))
      go_ret
      exact ⟨rfl, k4.trans hc9 (fun _ h _ => h)⟩
    cases x1
    · clear hden htl hbs
      go_enter Try.func7, Try.ntmps7
      go_wp2_with (first
        | (go_at_call 14
           refine (hhv.out _ _ _ (row_new _ 1 rfl (by simp))).mono ?_
           rintro e1 w1 ⟨rfl, hc1⟩
           have k1 : Chg (fun _ => False) w w1 := ((((Chg.refl _ _).alloc _).alloc _).alloc _).trans hc1 (fun _ h _ => h)
           have hb1 := (hst.alloc _).chg hc1 (fun h => h)
           have hp1 := ((hst0.alloc _).alloc _).chg hc1 (fun h => h))
        | (go_at_call 22
           with_reducible refine Calls.mono (hlnA.out _ k1) ?_
           rintro e2 w2 ⟨A5, c5, rfl, hr5, hc2⟩
           have k2 : Chg (fun _ => False) w w2 := k1.trans hc2 (fun _ h _ => h))
        | (go_at_call 22
           with_reducible refine Calls.mono (hlnB.out _ k2) ?_
           rintro e3 w3 ⟨A6, c6, rfl, hr6, hc3⟩
           have k3 : Chg (fun _ => False) w w3 := k2.trans hc3 (fun _ h _ => h)
           have hr5' := hr5.chg hc3 (fun _ _ _ h => h))
        | (go_at_call 23
           with_reducible refine Calls.mono (hri0.out _ _ _ hr5') ?_
           rintro e4 w4 ⟨rfl, q1, rfl⟩
           have k4 := k3.drewN q1
           have hr6' := hr6.chg (S := fun _ => False) ((Chg.refl _ _).drewN q1) (fun _ _ _ h => h))
        | (go_at_call 23
           with_reducible refine Calls.mono (hri1.out _ _ _ hr6') ?_
           rintro e5 w5 ⟨rfl, q2, rfl⟩
           obtain ⟨W5, hW5⟩ : ∃ W, W = (w3.drewN q1).drewN q2 := ⟨_, rfl⟩
           have k5 : Chg (fun _ => False) w W5 := by rw [hW5]; exact (k3.drewN _).drewN _
           rw [← hW5]
           replace hW5 := Lib.hid hW5)
        | (go_at_call 15
           refine (haw.out _ k5).mono ?_
           rintro e9 w9 ⟨rfl, hc9⟩))
      go_ret
      exact ⟨rfl, k5.trans hc9 (fun _ h _ => h)⟩
    · obtain ⟨hdn, hout⟩ := hden rfl rfl rfl rfl
      clear hden
      replace hdn := Lib.hid hdn
      replace hout := Lib.hid hout
      have hpe := pp_end c l0 l1
      have hpy := pp_yes c l0 l1
      have hpn := pp_no c l0 l1
      have hp0 := pp_zero c l0 l1
      have hple := fun i j => pp_le c l0 l1 i j (by omega) (by omega) h64A h64B
      have hka := fun (s : Bs) (hs : s.length ≤ 64) (W : World) => parted_any s c W (by omega)
      have hI0 : (l0.length : Int) ≤ 1000 := by omega
      have hI1 : (l1.length : Int) ≤ 1000 := by omega
      replace hpe := Lib.hid hpe
      replace hpy := Lib.hid hpy
      replace hpn := Lib.hid hpn
      replace hp0 := Lib.hid hp0
      replace hple := Lib.hid hple
      replace hka := Lib.hid hka
      replace h64A := Lib.hid h64A
      replace h64B := Lib.hid h64B
      go_enter Try.func7, Try.ntmps7
      go_wp2_with (first
        | (go_at_call 14
           refine (hhv.out _ _ _ (row_new _ 1 rfl (by simp))).mono ?_
           rintro e1 w1 ⟨rfl, hc1⟩
           have k1 : Chg (fun _ => False) w w1 := ((((Chg.refl _ _).alloc _).alloc _).alloc _).trans hc1 (fun _ h _ => h)
           have hb1 := (hst.alloc _).chg hc1 (fun h => h)
           have hp1 := ((hst0.alloc _).alloc _).chg hc1 (fun h => h))
        | (go_at_call 22
           with_reducible refine Calls.mono (hlnA.out _ k1) ?_
           rintro e2 w2 ⟨A5, c5, rfl, hr5, hc2⟩
           have k2 : Chg (fun _ => False) w w2 := k1.trans hc2 (fun _ h _ => h))
        | (go_at_call 22
           with_reducible refine Calls.mono (hlnB.out _ k2) ?_
           rintro e3 w3 ⟨A6, c6, rfl, hr6, hc3⟩
           have k3 : Chg (fun _ => False) w w3 := k2.trans hc3 (fun _ h _ => h)
           have hr5' := hr5.chg hc3 (fun _ _ _ h => h))
        | (go_at_call 23
           with_reducible refine Calls.mono (hri0.out _ _ _ hr5') ?_
           rintro e4 w4 ⟨rfl, q1, rfl⟩
           have k4 := k3.drewN q1
           have hr6' := hr6.chg (S := fun _ => False) ((Chg.refl _ _).drewN q1) (fun _ _ _ h => h))
        | (go_at_call 23
           with_reducible refine Calls.mono (hri1.out _ _ _ hr6') ?_
           rintro e5 w5 ⟨rfl, q2, rfl⟩
           obtain ⟨W5, hW5⟩ : ∃ W, W = (w3.drewN q1).drewN q2 := ⟨_, rfl⟩
           have d35 : Chg (fun _ => False) w3 W5 := by rw [hW5]; exact ((Chg.refl _ _).drewN _).drewN _
           have k5 : Chg (fun _ => False) w W5 := k3.trans d35 (fun _ h _ => h)
           have d15 : Chg (fun _ => False) w1 W5 := (hc2.trans hc3 (fun _ h _ => h)).trans d35 (fun _ h _ => h)
           have hb5 := hb1.chg d15 (fun h => h)
           have hp5 := hp1.chg d15 (fun h => h)
           have hr55 := hr5'.chg d35 (fun _ _ _ h => h)
           have hr65 := hr6.chg d35 (fun _ _ _ h => h)
           have q0 : W5.cell? ⟨w.heap.size + 1, 0, none⟩ = some (.int .i64 14) := (hb5.cell 0).trans rfl
           have q11 : W5.cell? ⟨w.heap.size + 1, 1, none⟩ = some (.int .i64 m) := (hb5.cell 1).trans rfl
           have q12 : W5.cell? ⟨w.heap.size + 1, 2, none⟩ = some (.slice (some ⟨w.heap.size, 0, none⟩) 1 1) := (hb5.cell 2).trans rfl
           have q13 : W5.cell? ⟨w.heap.size + 1, 3, none⟩ = some (.slice none 0 0) := (hb5.cell 3).trans rfl
           rw [← hW5]
           replace hW5 := Lib.hid hW5)
        | (go_at_call 24
           refine (htl.out hdn.out _ (k5.alloc _) (hp5.alloc _) _ _ (hbs.out W5 k5 _ rfl _)).mono ?_
           rintro e6 w6 ⟨hd, tk, rfl, hc6⟩
           have d56 : Chg (fun _ => False) W5 w6 := ((Chg.refl _ _).alloc _).trans hc6 (fun _ h _ => h)
           have k6 : Chg (fun _ => False) w w6 := k5.trans d56 (fun _ h _ => h)
           have hr56 := hr55.chg d56 (fun _ _ _ h => h)
           have hr66 := hr65.chg d56 (fun _ _ _ h => h))
        | (refine wpList_store_got rfl (.tmp 16) (.tmp 95) rfl w6.heap.size _ _ _ _ _ _ rfl rfl _ (Blk.new w6 _ _) rfl ?_
           intro w7 hG7 hc7
           have d67 : Chg (fun _ => False) w6 w7 := ((Chg.refl _ _).alloc _).trans hc7 (fun k hk hlt => by omega)
           have k7 : Chg (fun _ => False) w w7 := k6.trans d67 (fun _ h _ => h)
           have hr57 := hr56.chg d67 (fun _ _ _ h => h)
           have hr67 := hr66.chg d67 (fun _ _ _ h => h)
           have hcv : (convert 22 9 (.slice (some ⟨w7.heap.size, 0, none⟩) 1 1)).run Try.prog (w7.alloc (.cells #[.int .u8 c.toNat] 5)) = .ok (strv [c]) (w7.alloc (.cells #[.int .u8 c.toNat] 5)) := conv_rd (w7.alloc (.cells #[.int .u8 c.toNat] 5)) (fun _ => True) (some ⟨w7.heap.size, 0, none⟩) [c] 1 (bs_new _ [c] rfl rfl trivial)))
      have g7 : w7.cell? ⟨w6.heap.size, 0, none⟩ = some (strv (joinS (pairsAll c l0 l1))) := (hG7.cell 0).trans (by
        have ho : (den ⟨14, m, [c], []⟩ [endS a, endS b]).outs = _ := hout.out
        rw [ho]; rfl)
      have hg67 := hG7.lt
      have d78 : Chg (fun _ => False) w7 (w7.alloc (.cells #[.int .u8 c.toNat] 5)) := (Chg.refl _ _).alloc _
      obtain ⟨W8, hW8⟩ : ∃ W, W = w7.alloc (.cells #[.int .u8 c.toNat] 5) := ⟨_, rfl⟩
      rw [← hW8] at d78 ⊢
      have k8 : Chg (fun _ => False) w W8 := k7.trans d78 (fun _ h _ => h)
      have hcl0 : ∀ W, Chg (fun _ => False) W8 W → ∀ i (hi : i < l0.length), ∃ g o, A5 = some ⟨g, o, none⟩ ∧ W.cell? ⟨g, o + i, none⟩ = some (strv l0[i]) := fun W hW i hi => by
        obtain ⟨g, o, v, hA, _, _, hv, hc⟩ := ((hr57.chg d78 (fun _ _ _ h => h)).chg hW (fun _ _ _ h => h)).at_ hi
        rw [List.getElem?_map, List.getElem?_eq_getElem hi] at hv
        simp only [Option.map_some, Option.some.injEq] at hv
        subst hv
        exact ⟨g, o, hA, hc⟩
      have hcl1 : ∀ W, Chg (fun _ => False) W8 W → ∀ i (hi : i < l1.length), ∃ g o, A6 = some ⟨g, o, none⟩ ∧ W.cell? ⟨g, o + i, none⟩ = some (strv l1[i]) := fun W hW i hi => by
        obtain ⟨g, o, v, hA, _, _, hv, hc⟩ := ((hr67.chg d78 (fun _ _ _ h => h)).chg hW (fun _ _ _ h => h)).at_ hi
        rw [List.getElem?_map, List.getElem?_eq_getElem hi] at hv
        simp only [Option.map_some, Option.some.injEq] at hv
        subst hv
        exact ⟨g, o, hA, hc⟩
      have g8 : ∀ W, Chg (fun _ => False) W8 W → W.cell? ⟨w6.heap.size, 0, none⟩ = some (strv (joinS (pairsAll c l0 l1))) := fun W hW => ((d78.trans hW (fun _ h _ => h)).cell (p := ⟨w6.heap.size, 0, none⟩) hg67 (fun h => h)).trans g7
      have c8 := Chg.refl (fun _ => False) W8
      clear q0 q11 q12 q13 g7 hb1 hp1 hb5 hp5 hr5 hr5' hr6 hr6' hr55 hr65 hr56 hr66 hr57 hr67 hcv hG7 hc7 d35 d15 d56 d67 d78 k1 k2 k3 k4 k5 k6 k7 hst hst0
      replace hcl0 := Lib.hid hcl0
      replace hcl1 := Lib.hid hcl1
      replace g8 := Lib.hid g8
      replace hW8 := Lib.hid hW8
      go_loopw [20, 19] (fun i sv wr => ∃ n : Nat, n ≤ l0.length ∧ i = .int .i64 n ∧ sv = strv (joinS (pairsAll c (l0.take n) l1)) ∧ Chg (fun _ => False) W8 wr) (fun i _ _ => l0.length - (intOf i).toNat)
      case atStart => exact ⟨0, Nat.zero_le _, rfl, rfl, c8⟩
      case round =>
        obtain ⟨n, hn, rfl, rfl, hcw⟩ := hrel
        by_cases hlt : n < l0.length
        · have hltI : (n : Int) < (l0.length : Int) := by omega
          have hn0 : (0 : Int) ≤ (n : Int) := by omega
          obtain ⟨g0, o0, rfl, f0⟩ := hcl0.out wr hcw n hlt
          have hx64 := h64A.out _ (List.getElem_mem hlt)
          have hF0 := hp0.out n
          have hFe := hpe.out n hlt
          have hFy := fun k hk => hpy.out n k hlt hk
          have hFn := fun k hk => hpn.out n k hlt hk
          have hFl := fun k => hple.out n k
          generalize hF : pp c l0 l1 n = F at hF0 hFe hFy hFn hFl
          generalize l0[n] = x at *
          have hkx := hka.out x hx64
          have hrx := cutBy_rest c x
          have hkxl := (cutBy_len c x).1
          unfold KeyPost at hkx
          have hpl : ∀ y, plS c (keyS c x) x y = keyS c x ++ [c] ++ restS c x ++ [c] ++ restS c y := fun y => rfl
          rw [← hF0]
          replace hF0 := Lib.hid hF0
          replace hFe := Lib.hid hFe
          replace hFy := Lib.hid hFy
          replace hFn := Lib.hid hFn
          replace hFl := Lib.hid hFl
          replace hF := Lib.hid hF
          replace hpl := Lib.hid hpl
          replace hkx := Lib.hid hkx
          generalize keyS c x = kx at *
          generalize restS c x = rx at *
          go_wp2_with (first
            | (go_at_call 25
               with_reducible refine Calls.mono (hkx.out _) ?_
               rintro e1 w9 ⟨rfl, m1, rfl⟩))
          have hcw2 := hcw.drewN m1
          go_loopw [23, 19] (fun j sv wq => ∃ k : Nat, k ≤ l1.length ∧ j = .int .i64 k ∧ sv = strv (joinS (F k)) ∧ Chg (fun _ => False) W8 wq) (fun j _ _ => l1.length - (intOf j).toNat)
          case atStart => exact ⟨0, Nat.zero_le _, rfl, rfl, hcw2⟩
          case round =>
            clear hcw hcw2
            obtain ⟨k, hk, rfl, rfl, hcw⟩ := hrel
            by_cases hlt2 : k < l1.length
            · have hltI2 : (k : Int) < (l1.length : Int) := by omega
              have hk0 : (0 : Int) ≤ (k : Int) := by omega
              obtain ⟨g1, o1, rfl, f1⟩ := hcl1.out wr hcw k hlt2
              have hy64 := h64B.out _ (List.getElem_mem hlt2)
              have hY := hFy.out k hlt2
              have hNo := hFn.out k hlt2
              have hlen1 := hFl.out (k + 1)
              have hlen0 := hFl.out k
              generalize l1[k] = y at *
              have hky := hka.out y hy64
              unfold KeyPost at hky
              have hpy2 := hpl.out y
              have hry := cutBy_rest c y
              replace hky := Lib.hid hky
              generalize keyS c y = ky at *
              generalize restS c y = ry at *
              by_cases he : ky = kx
              · have b1 : (ky == kx) = true := by simpa using he
                have hsucc := hY he
                rw [hpy2] at hsucc
                generalize hs0 : joinS (F k) = s0 at *
                obtain ⟨l1', z1⟩ : ∃ l, l = s0 ++ kx := ⟨_, rfl⟩
                obtain ⟨l2', z2⟩ : ∃ l, l = l1' ++ [c] := ⟨_, rfl⟩
                obtain ⟨l3', z3⟩ : ∃ l, l = l2' ++ rx := ⟨_, rfl⟩
                obtain ⟨l4', z4⟩ : ∃ l, l = l3' ++ [c] := ⟨_, rfl⟩
                obtain ⟨l5', z5⟩ : ∃ l, l = l4' ++ ry := ⟨_, rfl⟩
                obtain ⟨l6', z6⟩ : ∃ l, l = l5' ++ [10] := ⟨_, rfl⟩
                have y1 : l1'.length = s0.length + kx.length := by rw [z1]; simp
                have y2 : l2'.length = l1'.length + 1 := by rw [z2]; simp
                have y3 : l3'.length = l2'.length + rx.length := by rw [z3]; simp
                have y4 : l4'.length = l3'.length + 1 := by rw [z4]; simp
                have y5 : l5'.length = l4'.length + ry.length := by rw [z5]; simp
                have hcat1 : ∀ W : World, (Op.stringOp .add ⟨s0.toArray⟩ ⟨kx.toArray⟩).run Try.prog W = .ok (strv l1') W := fun W => by rw [run_string_add_sum W _ _ (by simp [ByteArray.size]; omega), strv_append, z1]
                have hcat2 : ∀ W : World, (Op.stringOp .add ⟨l1'.toArray⟩ ⟨[c].toArray⟩).run Try.prog W = .ok (strv l2') W := fun W => by rw [run_string_add_sum W _ _ (by simp [ByteArray.size]; omega), strv_append, z2]
                have hcat3 : ∀ W : World, (Op.stringOp .add ⟨l2'.toArray⟩ ⟨rx.toArray⟩).run Try.prog W = .ok (strv l3') W := fun W => by rw [run_string_add_sum W _ _ (by simp [ByteArray.size]; omega), strv_append, z3]
                have hcat4 : ∀ W : World, (Op.stringOp .add ⟨l3'.toArray⟩ ⟨[c].toArray⟩).run Try.prog W = .ok (strv l4') W := fun W => by rw [run_string_add_sum W _ _ (by simp [ByteArray.size]; omega), strv_append, z4]
                have hcat5 : ∀ W : World, (Op.stringOp .add ⟨l4'.toArray⟩ ⟨ry.toArray⟩).run Try.prog W = .ok (strv l5') W := fun W => by rw [run_string_add_sum W _ _ (by simp [ByteArray.size]; omega), strv_append, z5]
                have hcat6 : ∀ W : World, (Op.stringOp .add ⟨l5'.toArray⟩ ⟨#[10]⟩).run Try.prog W = .ok (strv l6') W := fun W => by
                  rw [show (⟨#[10]⟩ : ByteArray) = ⟨([10] : Bs).toArray⟩ from rfl, run_string_add_sum W _ _ (by simp [ByteArray.size]; omega), strv_append, z6]
                have hl6 : l6' = joinS (F (k + 1)) := by rw [hsucc, joinS_snoc, hs0, z6, z5, z4, z3, z2, z1]; simp only [List.append_assoc]
                replace hl6 := Lib.hid hl6
                replace he := Lib.hid he
                replace hs0 := Lib.hid hs0
                replace hsucc := Lib.hid hsucc
                clear z1 z2 z3 z4 z5 z6 y1 y2 y3 y4 y5 hpy2 hY hNo hlen1 hlen0
                go_wp2_with (first
                  | (go_at_call 25
                     with_reducible refine Calls.mono (hky.out _) ?_
                     rintro e2 w9 ⟨rfl, n2, rfl⟩))
                go_roundw
                case rel => exact ⟨k + 1, by omega, by go_num, by rw [hl6.out], hcw.drewN n2⟩
                case measure => simp [intOf]; omega
              · have b1 : (ky == kx) = false := by simpa using he
                have hno := hNo he
                generalize hs0 : joinS (F k) = s0 at *
                replace hs0 := Lib.hid hs0
                replace hno := Lib.hid hno
                replace he := Lib.hid he
                clear hpy2 hY hNo hlen1 hlen0
                go_wp2_with (first
                  | (go_at_call 25
                     with_reducible refine Calls.mono (hky.out _) ?_
                     rintro e2 w9 ⟨rfl, n2, rfl⟩))
                go_roundw
                case rel => exact ⟨k + 1, by omega, by go_num, by rw [hno.out, hs0.out], hcw.drewN n2⟩
                case measure => simp [intOf]; omega
            · have hkm : k = l1.length := by omega
              have hltI2 : ¬ (k : Int) < (l1.length : Int) := by omega
              have hfin : F k = pairsAll c (l0.take (n + 1)) l1 := by rw [hkm]; exact hFe.out
              replace hfin := Lib.hid hfin
              replace hkm := Lib.hid hkm
              go_wp2
              go_roundw
              case rel => exact ⟨n + 1, by omega, by go_num, by rw [hfin.out], hcw⟩
              case measure => simp [intOf]; omega
        · have hnl : n = l0.length := by omega
          have hltI : ¬ (n : Int) < (l0.length : Int) := by omega
          have g9 := g8.out wr hcw
          have kz := k8.trans hcw (fun _ h _ => h)
          rw [hnl, List.take_length]
          generalize joinS (pairsAll c l0 l1) = S at *
          replace hnl := Lib.hid hnl
          go_wp2_with (first
            | (go_at_call 15
               refine (haw.out _ kz).mono ?_
               rintro e9 w9 ⟨rfl, hc9⟩))
          go_ret
          exact ⟨rfl, kz.trans hc9 (fun _ h _ => h)⟩
  · have hx : hβ = true ∨ (hβ = false ∧ ((1000 : Int) < (a.length : Int) ∨ (¬ (1000 : Int) < (a.length : Int) ∧ ((1000 : Int) < (b.length : Int) ∨ (¬ (1000 : Int) < (b.length : Int) ∧ (n < 1 ∨ (¬ n < 1 ∧ ((14 : Int) < n ∨ (¬ (14 : Int) < n ∧ ((c.toNat : Int) == 10) = true))))))))) := by
      cases hβ with
      | true => exact .inl rfl
      | false =>
        refine .inr ⟨rfl, ?_⟩
        by_cases h1 : a.length ≤ 1000
        · refine .inr ⟨by omega, ?_⟩
          by_cases h2 : b.length ≤ 1000
          · refine .inr ⟨by omega, ?_⟩
            by_cases h3 : 1 ≤ n
            · refine .inr ⟨by omega, ?_⟩
              by_cases h4 : n ≤ 14
              · refine .inr ⟨by omega, ?_⟩
                have hc : c = 10 := by
                  by_cases hc : c = 10
                  · exact hc
                  · exact absurd ⟨rfl, h1, h2, h3, h4, hc⟩ hok
                rw [hc]; rfl
              · exact .inl (by omega)
            · exact .inl (by omega)
          · exact .inl (by omega)
        · exact .inl (by omega)
    replace hh := Lib.hid hh
    clear hok hEE hE ha hb hcuts
    rcases hx with rfl | ⟨rfl, h1 | ⟨h1, h2 | ⟨h2, h3 | ⟨h3, h4 | ⟨h4, h5⟩⟩⟩⟩⟩
    all_goals
      clear hh hst hst0
      go_enter Try.func7, Try.ntmps7
      go_wp2_with (first
        | (go_at_call 14
           refine (hhv.out _ _ _ (row_new _ 1 rfl (by simp))).mono ?_
           rintro e1 w1 ⟨rfl, hc1⟩
           have k1 : Chg (fun _ => False) w w1 := ((((Chg.refl _ _).alloc _).alloc _).alloc _).trans hc1 (fun _ h _ => h))
        | (go_at_call 15
           refine (haw.out _ k1).mono ?_
           rintro e9 w9 ⟨rfl, hc9⟩))
      go_ret
      exact ⟨rfl, k1.trans hc9 (fun _ h _ => h)⟩
end Go.Proofs.Ytkgmbomfkdkofaa.Join

/- Arguments, opened: what the values of a law's parameters are. -/
namespace Go.Proofs.Ytkgmbomfkdkofaa
open Go Go.ChangeShapes Go.WideShapes Go.ChangeAt Go.RowKit Go.Deep

/-- Anywhere. -/
abbrev Any' : Nat → Prop := fun _ => True

theorem list_of {α : Type} (f : α → Value) (p : α → Prop) (V : Nat → Value) : ∀ (n : Nat), (∀ i, i < n → ∃ b, V i = f b ∧ p b) → ∃ l : List α, l.length = n ∧ (List.range n).map V = l.map f ∧ ∀ b ∈ l, p b := by
  intro n
  induction n with
  | zero => intro _; exact ⟨[], rfl, rfl, fun _ h => by cases h⟩
  | succ n ih =>
    intro h
    obtain ⟨l, hl, he, hp⟩ := ih (fun i hi => h i (by omega))
    obtain ⟨b, hb, hpb⟩ := h n (by omega)
    refine ⟨l ++ [b], by simp [hl], by rw [List.range_succ, List.map_append, he]; simp [hb], fun x hx => ?_⟩
    rcases List.mem_append.1 hx with hx | hx
    · exact hp x hx
    · simp at hx; subst hx; exact hpb

theorem cell_spot {w : World} {a : Addr} {v : Value} (h : w.cell? a = some v) : a.block < w.heap.size ∧ a.spot = none := by
  unfold World.cell? at h
  split at h
  · rename_i hh
    refine ⟨(Array.getElem?_eq_some_iff.1 hh).1, ?_⟩
    split at h
    · cases h
    · rename_i hs; simpa using hs
  · cases h

section
variable {H : Type} {enc : TypeId × Value → H} {w : World} {spare : Nat → Bool} {held : Bool} {fuel : Nat}

theorem open_rd {P : Program} {t e : TypeId} {v : Value} {x : DataW H × List MemPlace} (ht : P.underlying t = some (.slice e)) (hc : P.cellsOf e = 1) (h : DataW.trod enc P w 0 spare held fuel t [v] = some x) :
    ∃ (A : Option Addr) (n c : Nat) (V : Nat → Value), v = .slice A n c ∧ n ≤ c ∧ c ≤ maxLen ∧ Rd w Any' 1 A n ((List.range n).map V) ∧ ∀ i, i < n → ∃ k y, DataW.trod enc P w 0 spare held k e [V i] = some y := by
  rcases open_slice1 ht hc h with ⟨h0, _⟩ | ⟨a, len, cap, m, n, V, D, Pl, h0, _, hl, hm, hmm, _, hV⟩
  · simp at h0
    subst h0
    exact ⟨none, 0, 0, fun _ => .nilFunc, rfl, Nat.le_refl _, Nat.zero_le _, Rd.nil _ _ _ _, fun i hi => by omega⟩
  · simp at h0
    subst h0
    have hlm : len ≤ m := by rw [hmm]; split <;> omega
    refine ⟨some a, len, cap, V, rfl, hl, hm, ⟨by simp, fun hn => ?_⟩, fun i hi => ⟨n, _, (hV i (by omega)).2⟩⟩
    have h1 := cell_spot (hV 0 (by omega)).1
    obtain ⟨b, o, sp⟩ := a
    have hs : sp = none := by simpa [Addr.add] using h1.2
    subst hs
    refine ⟨b, o, rfl, by simpa [Addr.add] using h1.1, trivial, fun j u hu => ?_⟩
    have hj : j < len := by
      have := (List.getElem?_eq_some_iff.1 hu).1
      simpa using this
    simp [List.getElem?_map, List.getElem?_range hj] at hu
    subst hu
    have := (hV j (by omega)).1
    rw [add_flat] at this
    exact this

theorem open_bs {v : Value} {x : DataW H × List MemPlace} (h : DataW.trod enc Try.prog w 0 spare held fuel 22 [v] = some x) :
    ∃ (A : Option Addr) (c : Nat) (bs : Bs), v = .slice A bs.length c ∧ bs.length ≤ c ∧ c ≤ maxLen ∧ Rd w Any' 1 A bs.length (u8s bs) := by
  obtain ⟨A, n, c, V, rfl, h1, h2, h3, h4⟩ := open_rd Try.underlying22 (by kernel_rfl) h
  obtain ⟨l, hl, he, _⟩ := list_of (fun x : UInt8 => Value.int .u8 x.toNat) (fun _ => True) V n (fun i hi => by
    obtain ⟨k, y, hy⟩ := h4 i hi
    obtain ⟨z, hz, _, hw⟩ := DataW.trod_int Try.underlying5 hy
    simp at hz
    have hb := bounds_u8 hw
    refine ⟨UInt8.ofNat z.toNat, ?_, trivial⟩
    rw [hz]
    congr 1
    have : (UInt8.ofNat z.toNat).toNat = z.toNat := by rw [UInt8.toNat_ofNat']; omega
    rw [this]; omega)
  rw [he] at h3
  subst hl
  exact ⟨A, c, l, rfl, h1, h2, h3⟩

theorem open_is {v : Value} {x : DataW H × List MemPlace} (h : DataW.trod enc Try.prog w 0 spare held fuel 37 [v] = some x) :
    ∃ (A : Option Addr) (c : Nat) (l : List Int), v = .slice A l.length c ∧ l.length ≤ c ∧ c ≤ maxLen ∧ Rd w Any' 1 A l.length (i64s l) := by
  obtain ⟨A, n, c, V, rfl, h1, h2, h3, h4⟩ := open_rd Try.underlying37 (by kernel_rfl) h
  obtain ⟨l, hl, he, _⟩ := list_of (fun x : Int => Value.int .i64 x) (fun _ => True) V n (fun i hi => by
    obtain ⟨k, y, hy⟩ := h4 i hi
    obtain ⟨z, hz, _, hw⟩ := DataW.trod_int Try.underlying3 hy
    simp at hz
    exact ⟨z, hz, trivial⟩)
  rw [he] at h3
  subst hl
  exact ⟨A, c, l, rfl, h1, h2, h3⟩

theorem cells_bs : Try.prog.cellsOf 22 = 1 := by kernel_rfl
theorem cells_bool : Try.prog.cellsOf 4 = 1 := by kernel_rfl
theorem cells_fault : Try.prog.cellsOf 62 = 3 := by kernel_rfl
theorem cells_errno : Try.prog.cellsOf 27 = 1 := by kernel_rfl
theorem cells_prm : Try.prog.cellsOf 24 = 4 := by kernel_rfl
theorem cells_int : Try.prog.cellsOf 3 = 1 := by kernel_rfl

theorem flat5_inv (its : List (Strm × Value)) (j : Nat) (u : Value) (h : (its.flatMap strmC)[j]? = some u) : ∃ (m : Nat) (hm : m < its.length) (i : Nat), i < 5 ∧ j = m * 5 + i ∧ (strmC its[m])[i]? = some u := by
  have hl : (its.flatMap strmC).length = its.length * 5 := by
    clear h
    induction its with
    | nil => rfl
    | cons t r ih => rw [List.flatMap_cons, List.length_append, ih, List.length_cons]; show 5 + _ = _; omega
  have hj := (List.getElem?_eq_some_iff.1 h).1
  have hm : j / 5 < its.length := by omega
  have e : j = j / 5 * 5 + j % 5 := by omega
  refine ⟨j / 5, hm, j % 5, by omega, e, ?_⟩
  rw [e, flat5 its _ hm _ (by omega)] at h
  exact h

theorem list5 {l : List Value} (h : l.length = 5) : ∃ a b c d e, l = [a, b, c, d, e] := by
  match l, h with
  | [a, b, c, d, e], _ => exact ⟨a, b, c, d, e, rfl⟩

/-- One stream's cells. -/
theorem open_strm {cs : List Value} {x : DataW H × List MemPlace} (h : DataW.trod enc Try.prog w 0 spare held fuel 64 cs = some x) :
    ∃ (t : Strm × Value), cs = strmC t ∧ BsAt w Any' t.2 t.1.bs ∧ CapOk t.2 ∧ t.1.bs.length ≤ maxLen := by
  obtain ⟨y0, y1, y2, n, _, hl, h0, h1, h2⟩ := trod_struct3 Try.underlying64 h
  have hl5 : cs.length = 5 := hl.trans (by kernel_rfl)
  obtain ⟨a, b, c, d, e, rfl⟩ := list5 hl5
  dsimp only at h0 h1 h2
  rw [cells_bs] at h0
  rw [cells_bool] at h1
  rw [cells_fault] at h2
  dsimp only [List.drop, List.take] at h0 h1 h2
  obtain ⟨A, cp, bs, rfl, hb1, hb2, hr⟩ := open_bs h0
  obtain ⟨z, hz, _⟩ := DataW.trod_bool Try.underlying4 h1
  simp at hz
  subst hz
  obtain ⟨z0, z1, z2, n2, _, _, g0, g1, g2⟩ := trod_struct3 Try.underlying62 h2
  dsimp only at g0 g1 g2
  rw [cells_errno] at g0
  rw [cells_int] at g1
  rw [cells_int] at g2
  dsimp only [List.drop, List.take] at g0 g1 g2
  obtain ⟨c', hc, _⟩ := DataW.trod_int Try.underlying27 g0
  obtain ⟨d', hd, _⟩ := DataW.trod_int Try.underlying3 g1
  obtain ⟨e', he, _⟩ := DataW.trod_int Try.underlying3 g2
  simp at hc hd he
  subst hc hd he
  have hle : bs.length ≤ maxLen := Nat.le_trans hb1 hb2
  exact ⟨(⟨bs, z, c', d', e'⟩, .slice A bs.length cp), rfl, ⟨A, cp, rfl, hr⟩, fun A' n' c' e => by cases e; exact hb1, hle⟩

theorem open_strms {v : Value} {x : DataW H × List MemPlace} (h : DataW.trod enc Try.prog w 0 spare held fuel 36 [v] = some x) :
    ∃ (A : Option Addr) (c : Nat) (l : List Strm), v = .slice A l.length c ∧ l.length ≤ c ∧ c ≤ maxLen ∧ StrmsAt w Any' (.slice A l.length c) l ∧ ∀ s ∈ l, s.bs.length ≤ maxLen := by
  rcases open_slice Try.underlying36 h with ⟨h0, _⟩ | ⟨a, len, cap, m, n, D, Pl, h0, _, hl, hm, hmm, _, hx⟩
  · simp at h0
    subst h0
    exact ⟨none, 0, [], rfl, Nat.le_refl _, Nat.zero_le _, ⟨none, 0, [], rfl, rfl, Rd.nil _ _ _ _, fun _ h => by cases h⟩, fun _ h => by cases h⟩
  · simp at h0
    subst h0
    have hlm : len ≤ m := by rw [hmm]; split <;> omega
    have hc5 : Try.prog.cellsOf 64 = 5 := by kernel_rfl
    rw [hc5] at hx
    have key : ∀ i, i < len → ∃ t : Strm × Value, (BsAt w Any' t.2 t.1.bs ∧ CapOk t.2 ∧ t.1.bs.length ≤ maxLen) ∧ ∀ k u, (strmC t)[k]? = some u → w.cell? ((a.add (i * 5)).add k) = some u := fun i hi => by
      obtain ⟨cs', h1, h2⟩ := hx i (by omega)
      obtain ⟨t, rfl, hb, hcp, hln⟩ := open_strm h2
      obtain ⟨_, hlen, hcell⟩ := World.cells?_some h1
      refine ⟨t, ⟨hb, hcp, hln⟩, fun k u hu => ?_⟩
      have hk : k < 5 := (List.getElem?_eq_some_iff.1 hu).1
      rw [hcell k hk]; exact hu
    have mk : ∀ n, n ≤ len → ∃ its : List (Strm × Value), its.length = n ∧ (∀ t ∈ its, BsAt w Any' t.2 t.1.bs ∧ CapOk t.2 ∧ t.1.bs.length ≤ maxLen) ∧ ∀ i (hi : i < its.length) k u, (strmC its[i])[k]? = some u → w.cell? ((a.add (i * 5)).add k) = some u := by
      intro n
      induction n with
      | zero => intro _; exact ⟨[], rfl, fun _ h => (by cases h), fun i hi => (by simp at hi)⟩
      | succ n ih =>
        intro hn
        obtain ⟨its, hl1, hp, hc⟩ := ih (by omega)
        obtain ⟨t, hpt, hct⟩ := key n (by omega)
        refine ⟨its ++ [t], by simp [hl1], fun y hy => ?_, fun i hi k u hu => ?_⟩
        · rcases List.mem_append.1 hy with hy | hy
          · exact hp y hy
          · simp at hy; subst hy; exact hpt
        · by_cases hin : i < its.length
          · rw [List.getElem_append_left hin] at hu
            exact hc i hin k u hu
          · have : i = n := by simp at hi; omega
            subst this
            rw [List.getElem_append_right (by omega)] at hu
            simp [hl1] at hu
            exact hct k u hu
    obtain ⟨its, hil, hip, hic⟩ := mk len (Nat.le_refl _)
    have hln : (its.map (fun t => t.1)).length = len := by simp [hil]
    refine ⟨some a, cap, its.map (fun t => t.1), by rw [hln], by rw [hln]; exact hl, hm, ⟨some a, cap, its, rfl, rfl, ⟨?_, fun hn => ?_⟩, fun t ht => ⟨(hip t ht).1, (hip t ht).2.1⟩⟩, fun s hs => ?_⟩
    · rw [hln, ← hil]
      clear hip hic hil hln
      induction its with
      | nil => rfl
      | cons t r ih => rw [List.flatMap_cons, List.length_append, ih, List.length_cons]; show 5 + _ = _; omega
    · rw [hln] at hn
      have h1 := cell_spot (hic 0 (by omega) 0 _ rfl)
      obtain ⟨b, o, sp⟩ := a
      have hs : sp = none := by simpa [Addr.add] using h1.2
      subst hs
      refine ⟨b, o, rfl, by simpa [Addr.add] using h1.1, trivial, fun j u hu => ?_⟩
      obtain ⟨k, hk, i, hi5, rfl, hu2⟩ := flat5_inv its j u hu
      have := hic k hk i u hu2
      rw [add_flat, add_flat, Nat.add_assoc] at this
      exact this
    · obtain ⟨t, ht, rfl⟩ := List.mem_map.1 hs
      exact (hip t ht).2.2

set_option maxRecDepth 100000 in
/-- A stage's parameters. -/
theorem open_prm {r : Reach} {b0 : Nat} {v : Value} {d : DataW H} {ps : List MemPlace} (hv : Value.okWide Try.prog w r b0 24 v) (h : DataW.Trod enc Try.prog w 0 spare held 24 v d ps) :
    ∃ p : Prm, PAt w Any' v p ∧ -9223372036854775808 ≤ p.n ∧ p.n ≤ 9223372036854775807 ∧ p.a.length ≤ maxLen ∧ p.b.length ≤ maxLen := by
  obtain ⟨cs, rfl, hsz⟩ := okWide_struct Try.underlying24 hv
  have hsz : cs.size = 4 := hsz.trans cells_prm
  obtain ⟨c0, c1, c2, c3, rfl⟩ := Go.Joins.array4 hsz
  obtain ⟨fuel, h⟩ := h
  have ec : (Value.agg #[c0, c1, c2, c3]).cells.toList = [c0, c1, c2, c3] := rfl
  rw [ec] at h
  obtain ⟨y0, y1, y2, y3, n, _, _, h0, h1, h2, h3⟩ := Go.Joins.trod_struct4 Try.underlying24 h
  dsimp only at h0 h1 h2 h3
  rw [cells_int] at h0
  rw [cells_int] at h1
  rw [cells_bs] at h2
  rw [cells_bs] at h3
  dsimp only [List.drop, List.take, List.toArray] at h0 h1 h2 h3
  obtain ⟨k, hk, _⟩ := DataW.trod_int Try.underlying3 h0
  obtain ⟨m, hm, _, hw⟩ := DataW.trod_int Try.underlying3 h1
  simp at hk hm
  subst hk hm
  obtain ⟨A, ca, a, rfl, ha1, ha2, hA⟩ := open_bs h2
  obtain ⟨B, cb, b, rfl, hb1, hb2, hB⟩ := open_bs h3
  have hn := bounds_i64 hw
  exact ⟨⟨k, m, a, b⟩, ⟨A, ca, B, cb, rfl, hA, hB⟩, hn.1, hn.2, Nat.le_trans ha1 ha2, Nat.le_trans hb1 hb2⟩

/-- A slice's value is its one cell. -/
theorem slice_cells {P : Program} {r : Reach} {b0 : Nat} {t e : TypeId} {v : Value} (ht : P.underlying t = some (.slice e)) (hv : Value.okWide P w r b0 t v) : v.cells.toList = [v] := by
  simp only [Value.okWide, ht, Cell.okWide, Cell.ok] at hv
  cases v <;> first | rfl | (simp at hv)
end

/-- Arguments read on as they did. -/
theorem trodAll_stays {H : Type} {enc : TypeId × Value → H} {P : Program} (hl : laidOutB P = true) {W W' : World} {sp' : Nat → Bool} : ∀ {ts : List TypeId} {vs : List Value} {ds : List (DataW H)} {ps : List MemPlace},
    (ts.all fun t => P.readableRec t && decide (t < P.types.size)) = true → DataW.TrodAll enc P W 0 (fun _ => true) true ts vs ds ps → (∀ p ∈ ps, W.sameAt W' p) → (∀ p ∈ ps, sp' p.block = true) → DataW.TrodAll enc P W' 0 sp' true ts vs ds ps := by
  intro ts
  induction ts with
  | nil =>
    intro vs ds ps _ h _ _
    obtain ⟨rfl, rfl, rfl⟩ := trodAll_nil h
    exact rfl
  | cons t ts ih =>
    intro vs ds ps ht h hs hsp
    obtain ⟨v, vs1, d, ds1, a, b, rfl, rfl, rfl, h1, h2⟩ := trodAll_cons h
    simp only [List.all_cons, Bool.and_eq_true, decide_eq_true_eq] at ht
    exact ⟨a, b, Go.WideElems.Trod_stays hl ht.1.1 ht.1.2 h1 (fun p hp => hs p (by simp [hp])) (fun p hp => hsp p (by simp [hp])), ih ht.2 h2 (fun p hp => hs p (by simp [hp])) (fun p hp => hsp p (by simp [hp])), rfl⟩

/-- What a law's row asks behind the call, where below the heap's old size all is as it was. -/
theorem post_of_below {H : Type} {enc : TypeId × Value → H} {P : Program} {f : Func} {s : ChangeSpec} {apart fresh handsOn again : Bool} {W W' : World} {args : Array Value} {v : Value} {ds : List (DataW H)} {before : List MemPlace}
    (hl : laidOutB P = true) (hW : DataW.Whole enc P f.params.toList [] apart W args.toList ds [] before) (hsv : s.vars = []) (hA : DataW.TrodAll enc P W 0 (fun _ => true) true f.params.toList args.toList ds before)
    (ht : (f.params.toList.all fun t => P.readableRec t && decide (t < P.types.size)) = true)
    (hres : ∀ (b : Nat) (sp : Nat → Bool) (hd : Bool), DataW.TrodAll enc P W' b sp hd f.resultTypes.toList (v.resultList f.resultTypes.size) (s.fn H (ds ++ [])).results [])
    (hargs : (s.fn H (ds ++ [])).args = ds) (hvars : (s.fn H (ds ++ [])).vars = []) (hb : Below W.heap.size W W')
    (hok : ∀ (j : Nat) (t : TypeId) (r : Value), f.resultTypes[j]? = some t → (v.resultList f.resultTypes.size)[j]? = some r → Value.okWide P W' .any 0 t r) :
    s.post enc P f apart fresh handsOn again W args v W' := by
  have hlt : ∀ p ∈ before, p.block < W.heap.size := fun p hp => hW.lt p hp
  have hold : ∀ p ∈ before, (fun b => decide (b < W.heap.size)) p.block = true := fun p hp => by simpa using hlt p hp
  have harg : ∀ sp : Nat → Bool, (∀ p ∈ before, sp p.block = true) → DataW.TrodAll enc P W' 0 sp true f.params.toList args.toList (s.fn H (ds ++ [])).args before := fun sp hsp => by
    rw [hargs]
    exact trodAll_stays hl ht hA (fun p hp => hb.same (hlt p hp)) hsp
  have hvar : ∀ sp : Nat → Bool, DataW.TrodVars enc P W' sp s.vars (s.fn H (ds ++ [])).vars [] := fun sp => by
    rw [hvars, hsv]; exact rfl
  refine ⟨ds, [], before, [], before, [], by rw [hsv]; exact hW, hres _ _ _, harg _ hold, hvar _, World.keptBut_mono (fun p hp => ⟨hp, by simpa using hp⟩) (hb.frame _), fun _ => ?_⟩
  obtain ⟨_, _, _, _, _, hz, hn⟩ := hW
  refine ⟨hok, _, _, ([] ++ before) ++ [], ⟨[] ++ before, [], trodAll_append (harg _ (fun _ _ => rfl)) (hres _ _ _), hvar _, rfl, ?_, ?_⟩, ?_⟩
  · intro b off hp
    have hp' : MemPlace.cell b off ∈ before := by simpa using hp
    rw [hb.frozen (p := ⟨b, off, none⟩) (hlt _ hp')]
    exact hz b off hp'
  · intro ha
    simpa using hn ha
  · intro p hp _
    simpa using hp
end Go.Proofs.Ytkgmbomfkdkofaa

/- JoinPairs: all pairs of lines of one key come out: the function returns true for every input, and its arguments read as before. No conditions. -/
namespace Go.Proofs.Ytkgmbomfkdkofaa.JoinPairs
open Go Go.ChangeShapes Go.WideShapes Go.ChangeAt Go.RowKit

theorem own : ownKnob Try.prog.godebug = none := by kernel_rfl

set_option maxRecDepth 100000 in
theorem contract (H : Type) (enc : TypeId × Value → H) (W : World) (base : Nat) (args : Array Value) (ds gs : List (DataW H)) (before : List MemPlace)
    (hval : ∀ (j : Nat) t v, Try.f7.params[j]? = some t → args[j]? = some v → Value.okWide Try.prog W .any base t v)
    (hW : DataW.Whole enc Try.prog Try.f7.params.toList Rows.joinPairsSpec.vars false W args.toList ds gs before) :
    Calls Try.prog 7 args W fun e W' => ∃ v, e = .returned v ∧ Rows.joinPairsSpec.post enc Try.prog Try.f7 false true false false W args v W' := by
  have hW' := hW
  obtain ⟨p, q, hA0, hV, rfl, hfz, hnd⟩ := hW
  have hA : DataW.TrodAll enc Try.prog W 0 (fun _ => true) true Try.f7.params.toList args.toList ds p := hA0
  have hA9 := hA
  rw [Try.params7] at hA hval
  obtain ⟨v0, vs0, d0, ds0, p0, q0, hargs, rfl, rfl, h0, tt0⟩ := trodAll_cons hA
  obtain ⟨v1, vs1, d1, ds1, p1, q1, rfl, rfl, rfl, h1, tt1⟩ := trodAll_cons tt0
  obtain ⟨v2, vs2, d2, ds2, p2, q2, rfl, rfl, rfl, h2, tt2⟩ := trodAll_cons tt1
  obtain ⟨v3, vs3, d3, ds3, p3, q3, rfl, rfl, rfl, h3, tt3⟩ := trodAll_cons tt2
  obtain ⟨v4, vs4, d4, ds4, p4, q4, rfl, rfl, rfl, h4, tt4⟩ := trodAll_cons tt3
  obtain ⟨rfl, rfl, rfl⟩ := trodAll_nil tt4
  obtain rfl : args = #[v0, v1, v2, v3, v4] := by cases args; simp_all
  obtain ⟨rfl, rfl⟩ := trodVars_none hV
  have hW9 := hW'
  rw [List.append_nil] at hW9
  obtain ⟨n0, rfl, rfl, rfl, wf0⟩ := open_int Try.underlying3 (hval 0 3 v0 rfl rfl) h0
  have nn0 := bounds_i64 wf0
  obtain ⟨z1, rfl, rfl, rfl, wf1⟩ := open_int Try.underlying5 (hval 1 5 v1 rfl rfl) h1
  have nn1 := bounds_u8 wf1
  obtain ⟨n1, rfl⟩ : ∃ c : UInt8, z1 = c.toNat := ⟨UInt8.ofNat z1.toNat, by rw [UInt8.toNat_ofNat_of_lt' (by show z1.toNat < 256; omega)]; omega⟩
  have e2 := slice_cells Try.underlying22 (hval 2 22 v2 rfl rfl)
  obtain ⟨f2, h2⟩ := h2
  rw [e2] at h2
  obtain ⟨A2, c2, l2, rfl, lc2, lm2, r2⟩ := open_bs h2
  have e3 := slice_cells Try.underlying22 (hval 3 22 v3 rfl rfl)
  obtain ⟨f3, h3⟩ := h3
  rw [e3] at h3
  obtain ⟨A3, c3, l3, rfl, lc3, lm3, r3⟩ := open_bs h3
  have e4 := slice_cells Try.underlying37 (hval 4 37 v4 rfl rfl)
  obtain ⟨f4, h4⟩ := h4
  rw [e4] at h4
  obtain ⟨A4, c4, l4, rfl, lc4, lm4, r4⟩ := open_is h4
  have hE : Join.E W.heap.size W := trivial
  refine (Join.pairs_law n0 n1 l2 l3 l4 A2 A3 A4 c2 c3 c4 W nn0 lc2 lm2 r2 lc3 lm3 r3 (Nat.le_trans lc4 lm4) r4 hE).mono fun e W' ⟨he, hc⟩ => ?_
  subst he
  exact ⟨_, rfl, post_of_below (by kernel_rfl) hW9 rfl hA9 (by kernel_rfl) (fun _ _ _ => trodAll_cons_mk (shut_bool Try.underlying4 _) trodAll_mk0) rfl rfl (hc.below (Nat.le_refl _) (fun _ h => h.elim)) (ok_one (by kernel_rfl) rfl (okWide_bool_mk Try.underlying4 _))⟩

set_option maxRecDepth 100000 in
theorem lifted (os : Os) (started : os.Started) (H : Type) (enc : TypeId × Value → H) :
    ReturnsInHanded {} Try.checked os 7 .any (Rows.joinPairsSpec.pre6 enc Try.prog Try.f7 Rows.joinPairsRow.domain false) (Rows.joinPairsSpec.post enc Try.prog Try.f7 false true false false) := by
  refine returnsInHanded_of_change (C := Try.checked) (s := Rows.joinPairsSpec) own started (by kernel_rfl) Try.func7
    (ChangeSpec.witness6 (enc := enc) (C := Try.checked) (s := Rows.joinPairsSpec) false ⟨#[], #[.int .i64 0, .int .u8 0, .slice none 0 0, .slice none 0 0, .slice none 0 0], []⟩ 8 (by kernel_rfl) (by kernel_rfl) (by kernel_rfl) (by kernel_rfl)) ?_
  intro W base args ds gs before hval hW _ _
  exact contract H enc W base args ds gs before hval hW

end Go.Proofs.Ytkgmbomfkdkofaa.JoinPairs
namespace Go.Proofs.Ytkgmbomfkdkofaa
open Go Go.ChangeShapes Go.WideShapes Go.ChangeAt Go.RowKit
theorem joinPairs_said : Rows.JoinPairsSaid :=
  OpenClaim.holds_of_wide 7 Try.f7 rfl rfl rfl rfl rfl rfl rfl ⟨rfl, rfl, rfl, rfl, rfl⟩ rfl rfl rfl rfl rfl (by kernel_rfl) Try.func7 (by kernel_rfl)
    (of_decide_eq_true (by kernel_rfl)) (by unfold Func.isWrapper; first | (rw [if_pos (by decide +kernel)]; kernel_rfl) | (rw [if_neg (by decide +kernel)]; exact ⟨rfl, rfl⟩))
    (fun os started H enc _ => JoinPairs.lifted os started H enc)
end Go.Proofs.Ytkgmbomfkdkofaa
