/- paste: the machine goes from place to place. -/
import Derived.Test.YtkgmbomfkdkofaaPasteP
namespace Go.Proofs.Ytkgmbomfkdkofaa

structure PaAt (by_ : Bs) (n : Nat) (T : Nat → List Bs) (E : Nat → Bool) (B : Nat → Bs) (r k : Nat) (ov : Bool) (s : PaS) : Prop where
  by_ : s.by_ = by_
  len : s.qs.length = n
  q : ∀ j, j < n → s.qs[j]? = some ⟨B j, (T j).drop (if j < k then r + 1 else r), E j⟩
  row : s.row = (List.range k).map fun j => ((T j)[r]?).getD []
  any : s.any = (List.range k).any fun j => decide (r < (T j).length)
  over : s.over = ov

theorem paAll_pgo (by_ : Bs) (n : Nat) (T : Nat → List Bs) (E : Nat → Bool) (B : Nat → Bs) (M : Nat) (hM : ∀ j, j < n → (T j).length ≤ M) : ∀ (f r k : Nat) (s : PaS), k ≤ n → Enough M n r k f → PaAt by_ n T E B r k false s →
    (paAll s).1 = (pgo by_ n T E f r k).1 ∧ PaAt by_ n T E B (pgo by_ n T E f r k).2.1 (pgo by_ n T E f r k).2.2.1 (pgo by_ n T E f r k).2.2.2 (paAll s).2 ∧
    ((pgo by_ n T E f r k).2.2.2 = false → (paAll s).2.at_ = (pgo by_ n T E f r k).2.2.1) := by
  intro f
  induction f with
  | zero => intro r k s _ h; unfold Enough at h; omega
  | succ f ih =>
    intro r k s hk h1 h
    have hrl : s.row.length = k := by rw [h.row]; simp
    have hov : ¬ s.over = true := by rw [h.over]; decide
    rw [pgo]
    by_cases hkn : k = n
    · subst hkn
      rw [if_pos rfl]
      have hany : s.any = someT k T r := h.any
      by_cases hs : someT k T r = true
      · rw [if_pos hs]
        have hstep : paStep s = ([joinBy s.by_ s.row], { s with row := [], any := false }, true) := by
          unfold paStep
          rw [if_neg hov, if_pos (by rw [hrl, h.len]), if_pos (by rw [hany]; exact hs)]
        have hnext : PaAt by_ k T E B (r + 1) 0 false { s with row := [], any := false } := by
          refine ⟨h.by_, h.len, fun j hj => ?_, rfl, rfl, h.over⟩
          have := h.q j hj
          rw [if_pos hj] at this
          rw [if_neg (by omega)]
          exact this
        have hgo : (paStep s).2.2 = true := by rw [hstep]
        rw [paAll_go hgo, hstep]
        have h2 := ih (r + 1) 0 _ (by omega) (enough_row hM hs h1) hnext
        refine ⟨?_, h2.2⟩
        dsimp only
        rw [h2.1, h.by_, h.row]
        rfl
      · rw [if_neg hs]
        have hstep : paStep s = ([], { s with over := true }, false) := by
          unfold paStep
          rw [if_neg hov, if_pos (by rw [hrl, h.len]), if_neg (by rw [hany]; exact hs)]
        have hst : (paStep s).2.2 = false := by rw [hstep]
        rw [paAll_stop hst, hstep]
        exact ⟨rfl, ⟨h.by_, h.len, h.q, h.row, h.any, rfl⟩, fun h => by cases h⟩
    · rw [if_neg hkn]
      have hlt : k < n := by omega
      have hq := h.q k hlt
      rw [if_neg (by omega)] at hq
      have hne : ¬ s.row.length = s.qs.length := by rw [hrl, h.len]; exact hkn
      by_cases hr : r < (T k).length
      · rw [if_pos (.inl hr)]
        have hdrop : (T k).drop r = (T k)[r] :: (T k).drop (r + 1) := List.drop_eq_getElem_cons hr
        rw [hdrop] at hq
        have hstep : paStep s = ([], { s with qs := s.qs.set k ⟨B k, (T k).drop (r + 1), E k⟩, row := s.row ++ [(T k)[r]], any := true }, true) := by
          unfold paStep
          rw [if_neg hov, if_neg hne, hrl, hq]
        have hgo : (paStep s).2.2 = true := by rw [hstep]
        rw [paAll_go hgo, hstep]
        dsimp only
        have h2 := ih r (k + 1) { s with qs := s.qs.set k ⟨B k, (T k).drop (r + 1), E k⟩, row := s.row ++ [(T k)[r]], any := true } (by omega) (enough_col hlt h1) ⟨h.by_, by rw [List.length_set]; exact h.len, fun j hj => by
          dsimp only
          by_cases hjk : k = j
          · subst hjk
            rw [List.getElem?_set_self (by rw [h.len]; exact hlt), if_pos (by omega)]
          · rw [List.getElem?_set_ne hjk, h.q j hj]
            congr 3
            by_cases hj2 : j < k
            · rw [if_pos hj2, if_pos (by omega)]
            · rw [if_neg hj2, if_neg (by omega)], by
          dsimp only
          rw [h.row, List.range_succ, List.map_append]
          congr 1
          simp [List.getElem?_eq_getElem hr], by
          dsimp only
          rw [List.range_succ, List.any_append]
          simp [hr], h.over⟩
        rw [List.nil_append]
        exact h2
      · have hdrop : (T k).drop r = [] := List.drop_eq_nil_of_le (by omega)
        have hdrop1 : (T k).drop (r + 1) = [] := List.drop_eq_nil_of_le (by omega)
        rw [hdrop] at hq
        by_cases he : E k = true
        · rw [if_pos (.inr he)]
          have hstep : paStep s = ([], { s with row := s.row ++ [[]] }, true) := by
            unfold paStep
            rw [if_neg hov, if_neg hne, hrl, hq]
            dsimp only
            rw [if_pos he]
          have hgo : (paStep s).2.2 = true := by rw [hstep]
          rw [paAll_go hgo, hstep]
          dsimp only
          have h2 := ih r (k + 1) { s with row := s.row ++ [[]] } (by omega) (enough_col hlt h1) ⟨h.by_, h.len, fun j hj => by
            dsimp only
            rw [h.q j hj]
            by_cases hjk : j = k
            · subst hjk
              rw [if_neg (by omega), if_pos (by omega), hdrop, hdrop1]
            · congr 3
              by_cases hj2 : j < k
              · rw [if_pos hj2, if_pos (by omega)]
              · rw [if_neg hj2, if_neg (by omega)], by
            dsimp only
            rw [h.row, List.range_succ, List.map_append]
            congr 1
            simp [List.getElem?_eq_none (Nat.le_of_not_lt hr)], by
            dsimp only
            rw [h.any, List.range_succ, List.any_append]
            simp [hr], h.over⟩
          rw [List.nil_append]
          exact h2
        · rw [if_neg (by simp only [not_or]; exact ⟨hr, he⟩)]
          have hstep : paStep s = ([], { s with at_ := k }, false) := by
            unfold paStep
            rw [if_neg hov, if_neg hne, hrl, hq]
            dsimp only
            rw [if_neg he]
          have hst : (paStep s).2.2 = false := by rw [hstep]
          rw [paAll_stop hst, hstep]
          exact ⟨rfl, ⟨h.by_, h.len, h.q, h.row, h.any, h.over⟩, fun _ => rfl⟩

/-- The wanted input has more lines. -/
theorem PaAt.more {by_ : Bs} {n : Nat} {T : Nat → List Bs} {E : Nat → Bool} {B : Nat → Bs} {r k : Nat} {s : PaS} (h : PaAt by_ n T E B r k false s) (hk : k < n) (b : Bs) (new : List Bs) (e : Bool) (hr : (T k).length = r) :
    PaAt by_ n (upd T k (T k ++ new)) (upd E k e) (upd B k b) r k false (s.setQ k ⟨b, new, e⟩) := by
  have hu : ∀ j, j ≠ k → upd T k (T k ++ new) j = T j := fun j hj => by unfold upd; rw [if_neg hj]
  refine ⟨h.by_, by show (s.qs.set k _).length = n; rw [List.length_set]; exact h.len, fun j hj => ?_, ?_, ?_, h.over⟩
  · show (s.qs.set k _)[j]? = _
    by_cases hjk : k = j
    · subst hjk
      rw [List.getElem?_set_self (by rw [h.len]; exact hk), if_neg (by omega)]
      unfold upd
      simp only [if_true]
      rw [List.drop_append, hr, Nat.sub_self, List.drop_eq_nil_of_le (by omega)]
      rfl
    · rw [List.getElem?_set_ne hjk, h.q j hj]
      have hjk' : ¬ j = k := fun x => hjk x.symm
      unfold upd
      simp only [if_neg hjk']
  · show s.row = _
    rw [h.row]
    apply List.map_congr_left
    intro j hj
    rw [hu j (by simp at hj; omega)]
  · show s.any = _
    rw [h.any, Bool.eq_iff_iff]
    simp only [List.any_eq_true, List.mem_range, decide_eq_true_eq]
    constructor
    · rintro ⟨j, hj, hx⟩; exact ⟨j, hj, by rw [hu j (by omega)]; exact hx⟩
    · rintro ⟨j, hj, hx⟩; exact ⟨j, hj, by rw [hu j (by omega)] at hx; exact hx⟩

/-! ## Sums over the inputs -/

def sumR (n : Nat) (f : Nat → Nat) : Nat := ((List.range n).map f).sum
theorem sumR_succ (n : Nat) (f : Nat → Nat) : sumR (n + 1) f = sumR n f + f n := by unfold sumR; rw [List.range_succ]; simp
theorem sumR_le (n : Nat) (f g : Nat → Nat) (h : ∀ j, j < n → f j ≤ g j) : sumR n f ≤ sumR n g := by
  induction n with
  | zero => exact Nat.le_refl _
  | succ n ih => rw [sumR_succ, sumR_succ]; have := h n (by omega); have := ih (fun j hj => h j (by omega)); omega
theorem sumR_const (n c : Nat) : sumR n (fun _ => c) = n * c := by
  induction n with
  | zero => simp [sumR]
  | succ n ih => rw [sumR_succ, ih, Nat.succ_mul]
theorem sumR_add (n : Nat) (f g : Nat → Nat) : sumR n (fun j => f j + g j) = sumR n f + sumR n g := by
  induction n with
  | zero => simp [sumR]
  | succ n ih => rw [sumR_succ, sumR_succ, sumR_succ, ih]; omega
theorem sumR_congr (n : Nat) (f g : Nat → Nat) (h : ∀ j, j < n → f j = g j) : sumR n f = sumR n g :=
  Nat.le_antisymm (sumR_le n f g fun j hj => Nat.le_of_eq (h j hj)) (sumR_le n g f fun j hj => Nat.le_of_eq (h j hj).symm)
theorem sumR_cut (n k : Nat) (f : Nat → Nat) (hk : k ≤ n) : sumR n (fun j => if j < k then f j else 0) = sumR k f := by
  induction n with
  | zero => obtain rfl : k = 0 := by omega
            rfl
  | succ n ih =>
    rw [sumR_succ]
    rcases Nat.lt_or_ge n k with h | h
    · obtain rfl : k = n + 1 := by omega
      rw [if_pos h, sumR_succ]
      congr 1
      exact sumR_congr _ _ _ fun j hj => by rw [if_pos (by omega)]
    · rw [ih h, if_neg (by omega), Nat.add_zero]
theorem sumR_lt (n k : Nat) (f g : Nat → Nat) (hk : k < n) (h : ∀ j, j < n → j ≠ k → f j ≤ g j) (h1 : f k < g k) : sumR n f < sumR n g := by
  induction n with
  | zero => omega
  | succ n ih =>
    rw [sumR_succ, sumR_succ]
    rcases Nat.lt_or_ge k n with h2 | h2
    · have := ih h2 (fun j hj => h j (by omega))
      have := h n (by omega) (by omega)
      omega
    · obtain rfl : k = n := by omega
      have := sumR_le k f g (fun j hj => h j (by omega) (by omega))
      omega

def lens (l : List Bs) : Nat := (l.map List.length).sum
theorem lens_drop (l : List Bs) (r : Nat) : lens (l.drop r) = ((l[r]?).getD []).length + lens (l.drop (r + 1)) := by
  rcases Nat.lt_or_ge r l.length with h | h
  · rw [List.drop_eq_getElem_cons h, List.getElem?_eq_getElem h]
    unfold lens
    rw [List.map_cons, List.sum_cons]
    rfl
  · rw [List.drop_eq_nil_of_le h, List.drop_eq_nil_of_le (by omega), List.getElem?_eq_none h]
    simp [lens]
theorem lens_drop_le (l : List Bs) (r : Nat) : lens (l.drop (r + 1)) ≤ lens (l.drop r) := by rw [lens_drop l r]; omega

/-- What it holds. -/
theorem pa_held {by_ : Bs} {n : Nat} {T : Nat → List Bs} {E : Nat → Bool} {B : Nat → Bs} {r k : Nat} {ov : Bool} {s : PaS} (h : PaAt by_ n T E B r k ov s) (hk : k ≤ n) (c : Nat)
    (hb : ∀ j, j < n → (B j).length + lens ((T j).drop r) ≤ c) : (s.qs.map paWt).sum + (s.row.map List.length).sum ≤ n * c := by
  have e1 : (s.qs.map paWt).sum = sumR n fun j => paWt ⟨B j, (T j).drop (if j < k then r + 1 else r), E j⟩ := by
    unfold sumR
    congr 1
    apply List.ext_getElem?
    intro i
    rcases Nat.lt_or_ge i n with hi | hi
    · rw [List.getElem?_map, h.q i hi, List.getElem?_map, List.getElem?_range hi]
      rfl
    · rw [List.getElem?_eq_none (by simp; rw [h.len]; exact hi), List.getElem?_eq_none (by simp; exact hi)]
  have e2 : (s.row.map List.length).sum = sumR k fun j => (((T j)[r]?).getD []).length := by
    rw [h.row, List.map_map]
    rfl
  rw [e1, e2, ← sumR_cut n k _ hk, ← sumR_add, ← sumR_const]
  refine sumR_le n _ _ fun j hj => ?_
  have h1 := hb j hj
  have h2 := lens_drop (T j) r
  unfold paWt
  dsimp only
  by_cases hjk : j < k
  · rw [if_pos hjk, if_pos hjk]
    have : ((T j).drop (r + 1) |>.map List.length).sum = lens ((T j).drop (r + 1)) := rfl
    rw [this]
    split <;> omega
  · rw [if_neg hjk, if_neg hjk]
    have : ((T j).drop r |>.map List.length).sum = lens ((T j).drop r) := rfl
    rw [this]
    split <;> omega

theorem joinBy_len (b : Bs) (l : List Bs) : (joinBy b l).length ≤ lens l + l.length * b.length := by
  induction l with
  | nil => simp [joinBy, lens]
  | cons x r ih =>
    cases r with
    | nil => simp [joinBy, lens]
    | cons y r =>
      rw [joinBy]
      simp only [List.length_append, List.length_cons, lens, List.map_cons, List.sum_cons, Nat.succ_mul] at ih ⊢
      omega

/-- How many bytes the rows have. -/
theorem pgo_len (by_ : Bs) (hby : by_.length ≤ 1) (n : Nat) (T : Nat → List Bs) (E : Nat → Bool) : ∀ (f r k : Nat),
    (joinS (pgo by_ n T E f r k).1).length + sumR n (fun j => lens ((T j).drop (pgo by_ n T E f r k).2.1)) ≤ sumR n (fun j => lens ((T j).drop r)) + (pgo by_ n T E f r k).1.length * (n + 1) ∧
    (pgo by_ n T E f r k).2.1 = r + (pgo by_ n T E f r k).1.length ∧ ((pgo by_ n T E f r k).1 ≠ [] → ∃ j, j < n ∧ r + (pgo by_ n T E f r k).1.length ≤ (T j).length) := by
  intro f
  induction f with
  | zero => intro r k; simp [pgo, joinS]
  | succ f ih =>
    intro r k
    rw [pgo]
    by_cases hkn : k = n
    · subst hkn
      rw [if_pos rfl]
      by_cases hs : someT k T r = true
      · rw [if_pos hs]
        have h2 := ih (r + 1) 0
        dsimp only
        refine ⟨?_, ?_, fun _ => ?_⟩
        · have h3 : (rowT by_ k T r).length ≤ sumR k (fun j => (((T j)[r]?).getD []).length) + k := by
            have := joinBy_len by_ ((List.range k).map fun j => ((T j)[r]?).getD [])
            unfold lens at this
            rw [List.map_map] at this
            simp only [List.length_map, List.length_range] at this
            have h5 : k * by_.length ≤ k * 1 := Nat.mul_le_mul_left _ hby
            unfold rowT sumR
            have h6 : (List.length ∘ fun j => ((T j)[r]?).getD []) = fun j => (((T j)[r]?).getD []).length := rfl
            rw [h6] at this
            omega
          have h4 : sumR k (fun j => lens ((T j).drop r)) = sumR k (fun j => (((T j)[r]?).getD []).length) + sumR k (fun j => lens ((T j).drop (r + 1))) := by
            rw [← sumR_add]
            exact sumR_congr _ _ _ fun j _ => lens_drop _ _
          have h5 := h2.1
          have h6 : ∀ (x : Bs) (l : List Bs), (joinS (x :: l)).length = x.length + 1 + (joinS l).length := fun x l => by
            unfold joinS; rw [List.flatMap_cons]; simp; omega
          rw [h6, List.length_cons, Nat.succ_mul]
          omega
        · rw [h2.2.1]; simp; omega
        · rcases List.eq_nil_or_concat (pgo by_ k T E f (r + 1) 0).1 with h0 | ⟨l, x, h0⟩
          · obtain ⟨j, hj, hr⟩ := someT_of hs
            exact ⟨j, hj, by rw [h0]; simp; omega⟩
          · obtain ⟨j, hj, hr⟩ := h2.2.2 (by rw [h0]; simp)
            exact ⟨j, hj, by simp; omega⟩
      · rw [if_neg hs]
        dsimp only
        exact ⟨by simp [joinS], by simp, fun h => absurd rfl h⟩
    · rw [if_neg hkn]
      split
      · exact ih r (k + 1)
      · dsimp only
        exact ⟨by simp [joinS], by simp, fun h => absurd rfl h⟩
end Go.Proofs.Ytkgmbomfkdkofaa
