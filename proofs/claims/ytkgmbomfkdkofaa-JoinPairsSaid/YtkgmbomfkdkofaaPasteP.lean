/- paste's machine, in plain Lean: a line of each input, side by side. -/
import Derived.Test.YtkgmbomfkdkofaaTell
import Derived.Test.YtkgmbomfkdkofaaChainP
namespace Go.Proofs.Ytkgmbomfkdkofaa

/-- An input of which lines are wanted one by one. -/
structure PQ where
  beg : Bs
  ls : List Bs
  ended : Bool
structure PaS where
  by_ : Bs
  at_ : Nat
  over : Bool
  qs : List PQ
  row : List Bs
  any : Bool

/-- One queue is another one; it stops. -/
def PaS.setQ (s : PaS) (k : Nat) (q : PQ) : PaS := { s with qs := s.qs.set k q }
def PaS.stop (s : PaS) : PaS := { s with over := true }

def joinBy (b : Bs) : List Bs → Bs
  | [] => []
  | [x] => x
  | x :: y :: r => x ++ b ++ joinBy b (y :: r)

/-- One round of rows. -/
def paStep (s : PaS) : List Bs × PaS × Bool :=
  if s.over = true then ([], s, false)
  else if s.row.length = s.qs.length then
    (if s.any = true then ([joinBy s.by_ s.row], { s with row := [], any := false }, true) else ([], { s with over := true }, false))
  else match s.qs[s.row.length]? with
    | none => ([], s, false)
    | some q => match q.ls with
      | l :: r => ([], { s with qs := s.qs.set s.row.length { q with ls := r }, row := s.row ++ [l], any := true }, true)
      | [] => if q.ended = true then ([], { s with row := s.row ++ [[]] }, true) else ([], { s with at_ := s.row.length }, false)

def paRows : Nat → PaS → List Bs × PaS
  | 0, s => ([], s)
  | f + 1, s => if (paStep s).2.2 = true then ((paStep s).1 ++ (paRows f (paStep s).2.1).1, (paRows f (paStep s).2.1).2) else ((paStep s).1, (paStep s).2.1)

def paLines (s : PaS) : Nat := (s.qs.map fun q => q.ls.length).sum
def paMu (s : PaS) : Nat := paLines s * (s.qs.length + 2) + (s.qs.length - s.row.length) + (if s.any = true then s.qs.length + 2 else 0)
def paAll (s : PaS) : List Bs × PaS := paRows (paMu s + 1) s

theorem sum_set (qs : List PQ) : ∀ (k : Nat) (q : PQ) (l : Bs) (r : List Bs), qs[k]? = some q → q.ls = l :: r → ((qs.set k { q with ls := r }).map fun q => q.ls.length).sum + 1 = (qs.map fun q => q.ls.length).sum := by
  induction qs with
  | nil => intro k q l r h; simp at h
  | cons x t ih =>
    intro k q l r h hl
    cases k with
    | zero =>
      simp only [List.getElem?_cons_zero, Option.some.injEq] at h
      subst h
      simp only [List.set_cons_zero, List.map_cons, List.sum_cons, hl, List.length_cons]
      omega
    | succ k =>
      simp only [List.getElem?_cons_succ] at h
      have := ih k q l r h hl
      simp only [List.set_cons_succ, List.map_cons, List.sum_cons]
      omega

theorem paStep_mu (s : PaS) (h : (paStep s).2.2 = true) : paMu (paStep s).2.1 < paMu s := by
  unfold paStep at h ⊢
  by_cases h0 : s.over = true
  · rw [if_pos h0] at h; cases h
  rw [if_neg h0] at h ⊢
  by_cases h1 : s.row.length = s.qs.length
  · rw [if_pos h1] at h ⊢
    by_cases h2 : s.any = true
    · rw [if_pos h2]
      unfold paMu paLines
      simp [h1, h2]
    · rw [if_neg h2] at h; cases h
  rw [if_neg h1] at h ⊢
  cases hq : s.qs[s.row.length]? with
  | none => rw [hq] at h; cases h
  | some q =>
    have hlt := (List.getElem?_eq_some_iff.1 hq).1
    rw [hq] at h
    dsimp only at h ⊢
    cases hl : q.ls with
    | cons l r =>
      have h3 := sum_set s.qs _ q l r hq hl
      unfold paMu paLines
      dsimp only
      rw [← h3]
      simp only [List.length_set, List.length_append, List.length_singleton, if_true, Nat.add_mul, Nat.one_mul]
      split <;> omega
    | nil =>
      rw [hl] at h
      dsimp only at h ⊢
      by_cases he : q.ended = true
      · rw [if_pos he]
        unfold paMu paLines
        dsimp only
        simp only [List.length_append, List.length_singleton]
        omega
      · rw [if_neg he] at h; cases h

theorem paRows_fuel : ∀ (f g : Nat) (s : PaS), paMu s < f → paMu s < g → paRows f s = paRows g s := by
  intro f
  induction f with
  | zero => intro g s h; omega
  | succ f ih =>
    intro g s h1 h2
    cases g with
    | zero => omega
    | succ g =>
      rw [paRows, paRows]
      by_cases hc : (paStep s).2.2 = true
      · have := paStep_mu s hc
        rw [if_pos hc, if_pos hc, ih g _ (by omega) (by omega)]
      · rw [if_neg hc, if_neg hc]

theorem paAll_go {s : PaS} (h : (paStep s).2.2 = true) : paAll s = ((paStep s).1 ++ (paAll (paStep s).2.1).1, (paAll (paStep s).2.1).2) := by
  have := paStep_mu s h
  unfold paAll
  rw [paRows, if_pos h, paRows_fuel (paMu s) (paMu (paStep s).2.1 + 1) _ this (by omega)]
theorem paAll_stop {s : PaS} (h : (paStep s).2.2 = false) : paAll s = ((paStep s).1, (paStep s).2.1) := by
  unfold paAll
  rw [paRows, if_neg (by rw [h]; decide)]

def paFeed (s : PaS) (port : Int) (b : Bs) : Outs × Int × PaS :=
  if s.over = true then ([], 4, s) else if port ≠ s.at_ then ([], 1, s) else if b.length = 0 ∨ b.length > 32 then ([], 1, s)
  else match s.qs[s.at_]? with
    | none => ([], 1, s)
    | some q =>
      if (cutS q.beg b).2.2 = true then ([], 20, (s.setQ s.at_ ⟨(cutS q.beg b).2.1, q.ls ++ (cutS q.beg b).1, q.ended⟩).stop)
      else
        let r := paAll (s.setQ s.at_ ⟨(cutS q.beg b).2.1, q.ls ++ (cutS q.beg b).1, q.ended⟩)
        (tellS 0 r.1, 0, r.2)
def paFin (s : PaS) (port : Int) : Outs × Int × PaS :=
  if s.over = true then ([], 4, s) else if port ≠ s.at_ then ([], 1, s)
  else match s.qs[s.at_]? with
    | none => ([], 1, s)
    | some q =>
      let r := paAll (s.setQ s.at_ ⟨[], q.ls ++ (if q.beg = [] then [] else [q.beg]), true⟩)
      (tellS 0 r.1, 0, r.2)

def paWt (q : PQ) : Nat := (if q.ended = true then 0 else q.beg.length) + (q.ls.map List.length).sum

abbrev pasteM : Mach where
  σ := PaS
  need s := if s.over = true then -1 else s.at_
  held s := (((s.qs.map paWt).sum + (s.row.map List.length).sum : Nat) : Int)
  feed := paFeed
  fin := paFin
  more s := ([], if s.over = true then 4 else 1, s)

/-! ## Places: row r, input k -/

def rowT (by_ : Bs) (n : Nat) (T : Nat → List Bs) (r : Nat) : Bs := joinBy by_ ((List.range n).map fun j => ((T j)[r]?).getD [])
def someT (n : Nat) (T : Nat → List Bs) (r : Nat) : Bool := (List.range n).any fun j => decide (r < (T j).length)

/-- From a place on: the rows, the place where it stops, whether it has ended. -/
def pgo (by_ : Bs) (n : Nat) (T : Nat → List Bs) (E : Nat → Bool) : Nat → Nat → Nat → List Bs × Nat × Nat × Bool
  | 0, r, k => ([], r, k, false)
  | f + 1, r, k =>
    if k = n then
      (if someT n T r = true then (rowT by_ n T r :: (pgo by_ n T E f (r + 1) 0).1, (pgo by_ n T E f (r + 1) 0).2) else ([], r, k, true))
    else if r < (T k).length ∨ E k = true then pgo by_ n T E f r (k + 1) else ([], r, k, false)

/-- Fuel enough, if no input has more than M lines. -/
def Enough (M n r k f : Nat) : Prop := (M + 1 - r) * (n + 2) + (n - k) < f

theorem someT_of {n : Nat} {T : Nat → List Bs} {r : Nat} (h : someT n T r = true) : ∃ j, j < n ∧ r < (T j).length := by
  unfold someT at h
  simpa using h
theorem someT_not {n : Nat} {T : Nat → List Bs} {r : Nat} (h : ¬ someT n T r = true) : ∀ j, j < n → (T j).length ≤ r := by
  intro j hj
  unfold someT at h
  simp at h
  exact h j hj
theorem enough_row {M n r f : Nat} {T : Nat → List Bs} (hM : ∀ j, j < n → (T j).length ≤ M) (hs : someT n T r = true) (h : Enough M n r n (f + 1)) : Enough M n (r + 1) 0 f := by
  obtain ⟨j, hj, hr⟩ := someT_of hs
  have := hM j hj
  unfold Enough at h ⊢
  have e : M + 1 - r = (M + 1 - (r + 1)) + 1 := by omega
  rw [e, Nat.succ_mul] at h
  omega
theorem enough_col {M n r k f : Nat} (hk : k < n) (h : Enough M n r k (f + 1)) : Enough M n r (k + 1) f := by
  unfold Enough at h ⊢
  omega

theorem pgo_fuel (by_ : Bs) (n : Nat) (T : Nat → List Bs) (E : Nat → Bool) (M M' : Nat) (hM : ∀ j, j < n → (T j).length ≤ M) (hM' : ∀ j, j < n → (T j).length ≤ M') : ∀ (f g r k : Nat), k ≤ n → Enough M n r k f → Enough M' n r k g → pgo by_ n T E f r k = pgo by_ n T E g r k := by
  intro f
  induction f with
  | zero => intro g r k _ h; unfold Enough at h; omega
  | succ f ih =>
    intro g r k hk h1 h2
    cases g with
    | zero => unfold Enough at h2; omega
    | succ g =>
      rw [pgo, pgo]
      by_cases hkn : k = n
      · subst hkn
        rw [if_pos rfl, if_pos rfl]
        by_cases hs : someT k T r = true
        · rw [if_pos hs, if_pos hs, ih g (r + 1) 0 (by omega) (enough_row hM hs h1) (enough_row hM' hs h2)]
        · rw [if_neg hs, if_neg hs]
      · rw [if_neg hkn, if_neg hkn]
        by_cases hd : r < (T k).length ∨ E k = true
        · rw [if_pos hd, if_pos hd, ih g r (k + 1) (by omega) (enough_col (by omega) h1) (enough_col (by omega) h2)]
        · rw [if_neg hd, if_neg hd]

/-- More lines, more ends. -/
def Ext (n : Nat) (T T' : Nat → List Bs) (E E' : Nat → Bool) : Prop := ∀ j, j < n → T j <+: T' j ∧ (E j = true → T' j = T j ∧ E' j = true)

theorem Ext.dec {n : Nat} {T T' : Nat → List Bs} {E E' : Nat → Bool} (h : Ext n T T' E E') {j r : Nat} (hj : j < n) (hd : r < (T j).length ∨ E j = true) : (r < (T' j).length ∨ E' j = true) ∧ (T' j)[r]? = (T j)[r]? := by
  obtain ⟨⟨m, hm⟩, h2⟩ := h j hj
  rcases hd with hd | hd
  · refine ⟨.inl (by rw [← hm]; simp; omega), ?_⟩
    rw [← hm, List.getElem?_append_left hd]
  · have := h2 hd
    exact ⟨.inr this.2, by rw [this.1]⟩

theorem pgo_ext (by_ : Bs) (n : Nat) {T T' : Nat → List Bs} {E E' : Nat → Bool} (hx : Ext n T T' E E') (M M' : Nat) (hM : ∀ j, j < n → (T j).length ≤ M) (hM' : ∀ j, j < n → (T' j).length ≤ M') :
    ∀ (f g r k : Nat), k ≤ n → (∀ j, j < k → r < (T j).length ∨ E j = true) → Enough M n r k f → Enough M' n r k g →
      pgo by_ n T' E' g r k = (if (pgo by_ n T E f r k).2.2.2 = true then pgo by_ n T E f r k
        else ((pgo by_ n T E f r k).1 ++ (pgo by_ n T' E' ((M' + 2) * (n + 2) + n) (pgo by_ n T E f r k).2.1 (pgo by_ n T E f r k).2.2.1).1, (pgo by_ n T' E' ((M' + 2) * (n + 2) + n) (pgo by_ n T E f r k).2.1 (pgo by_ n T E f r k).2.2.1).2)) := by
  have hbig : ∀ r k, Enough M' n r k ((M' + 2) * (n + 2) + n) := fun r k => by
    unfold Enough
    have : (M' + 1 - r) * (n + 2) ≤ (M' + 1) * (n + 2) := Nat.mul_le_mul_right _ (by omega)
    have e : (M' + 2) * (n + 2) = (M' + 1) * (n + 2) + (n + 2) := Nat.succ_mul _ _
    omega
  intro f
  induction f with
  | zero => intro g r k _ _ h; unfold Enough at h; omega
  | succ f ih =>
    intro g r k hk hdec h1 h2
    cases g with
    | zero => unfold Enough at h2; omega
    | succ g =>
      by_cases hkn : k = n
      · subst hkn
        by_cases hs : someT k T r = true
        · have hs' : someT k T' r = true := by
            obtain ⟨j, hj, hr⟩ := someT_of hs
            unfold someT
            simp
            have := (hx.dec hj (.inl hr))
            obtain ⟨⟨m, hm⟩, _⟩ := hx j hj
            exact ⟨j, hj, by rw [← hm]; simp; omega⟩
          have hrow : rowT by_ k T' r = rowT by_ k T r := by
            unfold rowT
            congr 1
            apply List.map_congr_left
            intro j hj
            rw [(hx.dec (by simpa using hj) (hdec j (by simpa using hj))).2]
          rw [pgo, if_pos rfl, if_pos hs', pgo, if_pos rfl, if_pos hs, hrow, ih g (r + 1) 0 (by omega) (fun j hj => by omega) (enough_row hM hs h1) (enough_row hM' hs' h2)]
          dsimp only
          split <;> rfl
        · have hs' : ¬ someT k T' r = true := by
            intro hc
            obtain ⟨j, hj, hr⟩ := someT_of hc
            have h3 := someT_not hs j hj
            have h4 := hdec j hj
            rcases h4 with h4 | h4
            · omega
            · rw [((hx j hj).2 h4).1] at hr; omega
          rw [pgo, if_pos rfl, if_neg hs', pgo, if_pos rfl, if_neg hs]
          rfl
      · by_cases hd : r < (T k).length ∨ E k = true
        · have hd' := (hx.dec (by omega) hd).1
          rw [pgo, if_neg hkn, if_pos hd', pgo, if_neg hkn, if_pos hd]
          exact ih g r (k + 1) (by omega) (fun j hj => by
            rcases Nat.lt_or_ge j k with h | h
            · exact hdec j h
            · obtain rfl : j = k := by omega
              exact hd) (enough_col (by omega) h1) (enough_col (by omega) h2)
        · have e : pgo by_ n T E (f + 1) r k = ([], r, k, false) := by rw [pgo, if_neg hkn, if_neg hd]
          rw [e, pgo_fuel by_ n T' E' M' M' hM' hM' (g + 1) ((M' + 2) * (n + 2) + n) r k hk h2 (hbig r k)]
          rfl

/-- Where it stops, all that lies ahead is decided. -/
theorem pgo_dec (by_ : Bs) (n : Nat) (T : Nat → List Bs) (E : Nat → Bool) (M : Nat) (hM : ∀ j, j < n → (T j).length ≤ M) : ∀ (f r k : Nat), k ≤ n → Enough M n r k f →
    (∀ i j, i < r → j < n → i < (T j).length ∨ E j = true) → (∀ j, j < k → r < (T j).length ∨ E j = true) →
    (pgo by_ n T E f r k).2.2.1 ≤ n ∧ (∀ i j, i < (pgo by_ n T E f r k).2.1 → j < n → i < (T j).length ∨ E j = true) ∧ (∀ j, j < (pgo by_ n T E f r k).2.2.1 → (pgo by_ n T E f r k).2.1 < (T j).length ∨ E j = true) ∧
    ((pgo by_ n T E f r k).2.2.2 = false → (pgo by_ n T E f r k).2.2.1 < n ∧ (T (pgo by_ n T E f r k).2.2.1).length ≤ (pgo by_ n T E f r k).2.1 ∧ E (pgo by_ n T E f r k).2.2.1 = false) ∧
    ((pgo by_ n T E f r k).2.2.2 = true → (pgo by_ n T E f r k).2.2.1 = n ∧ ∀ j, j < n → (T j).length ≤ (pgo by_ n T E f r k).2.1) := by
  intro f
  induction f with
  | zero => intro r k _ h; unfold Enough at h; omega
  | succ f ih =>
    intro r k hk h1 hrow hcol
    rw [pgo]
    by_cases hkn : k = n
    · subst hkn
      rw [if_pos rfl]
      by_cases hs : someT k T r = true
      · rw [if_pos hs]
        exact ih (r + 1) 0 (by omega) (enough_row hM hs h1) (fun i j hi hj => by
          rcases Nat.lt_or_ge i r with h | h
          · exact hrow i j h hj
          · obtain rfl : i = r := by omega
            exact hcol j hj) (fun j hj => by omega)
      · rw [if_neg hs]
        dsimp only
        exact ⟨Nat.le_refl _, hrow, hcol, (fun h => by cases h), (fun _ => ⟨rfl, someT_not hs⟩)⟩
    · rw [if_neg hkn]
      by_cases hd : r < (T k).length ∨ E k = true
      · rw [if_pos hd]
        exact ih r (k + 1) (by omega) (enough_col (by omega) h1) hrow (fun j hj => by
          rcases Nat.lt_or_ge j k with h | h
          · exact hcol j h
          · obtain rfl : j = k := by omega
            exact hd)
      · rw [if_neg hd]
        simp only [not_or] at hd
        dsimp only
        exact ⟨hk, hrow, hcol, (fun _ => ⟨by omega, by omega, by simpa using hd.2⟩), (fun h => by cases h)⟩
end Go.Proofs.Ytkgmbomfkdkofaa
