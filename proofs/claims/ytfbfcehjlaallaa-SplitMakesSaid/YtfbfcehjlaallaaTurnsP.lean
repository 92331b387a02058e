/- What split's machine does, in plain Lean: the document's texts of split. -/
import Derived.Test.YtfbfcehjlaallaaTell
import Derived.Test.YtfbfcehjlaallaaTeeP
namespace Go.Proofs.Ytfbfcehjlaallaa
open Go Go.RowKit

/-- Lines by turns: (how many outputs, the next one). -/
abbrev turnK : LK where
  τ := Nat × Nat
  each t l := (tellS (t.2 : Nat) [l], (t.1, (t.2 + 1) % t.1))
  last t := ([], t)
  heldX _ := 0

def TI (t : Nat × Nat) : Prop := 1 ≤ t.1 ∧ t.1 ≤ 4 ∧ t.2 < t.1

theorem turn_tell (k : Int) (l : Bs) : tellS k [l] = [(k, l ++ [10])] := by
  unfold tellS
  rw [if_neg (by simp)]
  simp [joinS]

theorem turn_keep (t : Nat × Nat) (l : Bs) (h : TI t) : TI (turnK.each t l).2 := ⟨h.1, h.2.1, Nat.mod_lt _ (by have := h.1; omega)⟩

/-- What comes out of output j: (how many outputs, the next one). -/
def spl (n : Nat) (j : Nat) : Nat → List Bs → Bs
  | _, [] => []
  | k, l :: r => (if k = j then l ++ [10] else []) ++ spl n j ((k + 1) % n) r

/-- Each n-th line. -/
def evr (n : Nat) : List Bs → Bs
  | [] => []
  | l :: r => l ++ [10] ++ evr n (r.drop (n - 1))
termination_by l => l.length
decreasing_by simp; omega

theorem evr_nil (n : Nat) : evr n [] = [] := by rw [evr]
theorem evr_cons (n : Nat) (l : Bs) (r : List Bs) : evr n (l :: r) = l ++ [10] ++ evr n (r.drop (n - 1)) := by rw [evr]
theorem evr_drop (n : Nat) (h1 : 1 ≤ n) (ls : List Bs) (i : Nat) (h : i < ls.length) : evr n (ls.drop i) = ls[i] ++ [10] ++ evr n (ls.drop (i + n)) := by
  rw [List.drop_eq_getElem_cons h, evr_cons, List.drop_drop, show i + 1 + (n - 1) = i + n by omega]
theorem evr_end (n : Nat) (ls : List Bs) (i : Nat) (h : ls.length ≤ i) : evr n (ls.drop i) = [] := by
  rw [List.drop_eq_nil_of_le h, evr_nil]

theorem spl_evr (n : Nat) (h1 : 1 ≤ n) (h4 : n ≤ 4) (j : Nat) (hj : j < n) (ls : List Bs) : ∀ k, k < n → spl n j k ls = evr n (ls.drop ((j + n - k) % n)) := by
  induction ls with
  | nil => intro k _; rw [List.drop_nil, evr_nil]; rfl
  | cons l r ih =>
    intro k hk
    have h2 := ih ((k + 1) % n) (Nat.mod_lt _ (by omega))
    rw [spl, h2]
    by_cases he : k = j
    · subst he
      rw [if_pos rfl]
      have e1 : (k + n - k) % n = 0 := by rw [show k + n - k = n by omega, Nat.mod_self]
      have e2 : (k + n - (k + 1) % n) % n = n - 1 := by
        obtain rfl | rfl | rfl | rfl : n = 1 ∨ n = 2 ∨ n = 3 ∨ n = 4 := by omega
        all_goals omega
      rw [e1, e2, List.drop_zero, evr_cons]
    · rw [if_neg he, List.nil_append]
      have e1 : (j + n - k) % n = (j + n - (k + 1) % n) % n + 1 := by
        obtain rfl | rfl | rfl | rfl : n = 1 ∨ n = 2 ∨ n = 3 ∨ n = 4 := by omega
        all_goals omega
      rw [e1, List.drop_succ_cons]

theorem turn_each (t : Nat × Nat) (l : Bs) : turnK.each t l = (tellS (t.2 : Nat) [l], (t.1, (t.2 + 1) % t.1)) := rfl

theorem turn_all (n j : Nat) (ls : List Bs) : ∀ k, (eachAll turnK (n, k) ls).1.flatMap (fun o => if o.1 = (j : Int) then o.2 else []) = spl n j k ls := by
  induction ls with
  | nil => intro k; rfl
  | cons l r ih =>
    intro k
    rw [eachAll, turn_each, turn_tell, List.flatMap_append, ih]
    rw [spl]
    congr 1
    by_cases h : k = j
    · subst h; simp
    · rw [if_neg h]
      have : ¬ ((k : Nat) : Int) = (j : Int) := by omega
      simp [this]

theorem turn_sum (n : Nat) (ls : List Bs) : ∀ k, ((eachAll turnK (n, k) ls).1.map fun o => o.2.length).sum = (ls.map List.length).sum + ls.length := by
  induction ls with
  | nil => intro k; rfl
  | cons l r ih =>
    intro k
    rw [eachAll, turn_each, turn_tell, List.map_append, List.sum_append, ih]
    simp
    omega

theorem turn_ports (n : Nat) (h1 : 1 ≤ n) (h4 : n ≤ 4) (ls : List Bs) : ∀ k, k < n → ∀ o ∈ (eachAll turnK (n, k) ls).1, 0 ≤ o.1 ∧ o.1 ≤ 3 ∧ o.2 ≠ [] := by
  induction ls with
  | nil => intro k _ o ho; cases ho
  | cons l r ih =>
    intro k hk o ho
    rw [eachAll, turn_each, turn_tell] at ho
    rcases List.mem_append.1 ho with h | h
    · simp at h
      subst h
      exact ⟨by dsimp only; omega, by dsimp only; omega, by simp⟩
    · exact ih _ (Nat.mod_lt _ (by omega)) o h

theorem turn_ok : LKok turnK TI 0 where
  each t l h hl := turn_keep t l h
  okEach t ls h hl h1 h2 := ⟨by have := turn_sum t.1 ls t.2; show ((eachAll turnK (t.1, t.2) ls).1.map _).sum ≤ _; omega, turn_ports t.1 h.1 h.2.1 ls t.2 h.2.2⟩
  okLast t b h hb := by
    split
    · exact ⟨by simp, fun o ho => by cases ho⟩
    · have h2 := turn_ports t.1 h.1 h.2.1 [b] t.2 h.2.2
      have h3 := turn_sum t.1 [b] t.2
      simp only [eachAll, List.append_nil] at h2 h3
      refine ⟨?_, fun o ho => ?_⟩
      · show (((turnK.each (t.1, t.2) b).1 ++ []).map _).sum ≤ _
        rw [List.append_nil, h3]
        simp
        omega
      · have ho : o ∈ (turnK.each (t.1, t.2) b).1 ++ [] := ho
        rw [List.append_nil] at ho
        exact h2 o ho
  held t h := ⟨Int.le_refl _, Int.le_refl _⟩
  heldLast t h := ⟨Int.le_refl _, Int.le_refl _⟩

abbrev turnDen (n : Nat) (s : Strm) : Den := linesDen turnK (n, 0) s

theorem turn_outs (n : Nat) (s : Strm) (j : Nat) : (turnDen n s).outs j = spl n j 0 (refLines s).lines := by
  have hr := linesAll_ref turnK (n, 0) s
  show collect (fun _ => []) (linesAll turnK (n, 0) s).1 j = _
  rw [hr]
  dsimp only
  have e : (if (refLines s).all = true then ([] : Outs) else []) = [] := by split <;> rfl
  rw [e, List.append_nil]
  show [] ++ _ = _
  rw [List.nil_append]
  exact turn_all n j _ 0

theorem spl_far (n j : Nat) (h1 : 1 ≤ n) (hj : n ≤ j) (ls : List Bs) : ∀ k, k < n → spl n j k ls = [] := by
  induction ls with
  | nil => intro k _; rfl
  | cons l r ih =>
    intro k hk
    rw [spl, ih _ (Nat.mod_lt _ (by omega)), if_neg (by omega)]
    rfl

/-- What the document says of split. -/
def turnMeans (n : Nat) (s : Strm) : List Strm := (List.range n).flatMap fun k => refOut (evr n ((refLines s).lines.drop k)) (refLines s).all (refLines s).code (refLines s).stage (refLines s).id

theorem turnMeans_get (s : Strm) (n m : Nat) (h : m ≤ n) : ((List.range m).flatMap fun k => refOut (evr n ((refLines s).lines.drop k)) (refLines s).all (refLines s).code (refLines s).stage (refLines s).id).length = m ∧
    ∀ i x, ((List.range m).flatMap fun k => refOut (evr n ((refLines s).lines.drop k)) (refLines s).all (refLines s).code (refLines s).stage (refLines s).id)[i]? = some x → x.bs = evr n ((refLines s).lines.drop i) ∧ x.ended = (refLines s).all ∧ ((refLines s).all = false → x.code = (refLines s).code ∧ x.stage = (refLines s).stage ∧ x.id = (refLines s).id) := by
  induction m with
  | zero => exact ⟨rfl, fun i x hx => by simp at hx⟩
  | succ m ih =>
    obtain ⟨h1, h2⟩ := ih (by omega)
    obtain ⟨y, hy, hb, he, hc⟩ := refOut_one (evr n ((refLines s).lines.drop m)) (refLines s).all (refLines s).code (refLines s).stage (refLines s).id
    rw [List.range_succ, List.flatMap_append, List.flatMap_cons, List.flatMap_nil, List.append_nil, hy]
    refine ⟨by rw [List.length_append, h1]; rfl, fun i x hx => ?_⟩
    by_cases hi : i < m
    · rw [List.getElem?_append_left (by omega)] at hx
      exact h2 i x hx
    · rw [List.getElem?_append_right (by omega), h1] at hx
      have him : i = m := by
        have := (List.getElem?_eq_some_iff.1 hx).1
        simp at this
        omega
      subst him
      simp at hx
      subst hx
      exact ⟨hb, he, hc⟩

theorem turn_same (n : Nat) (h1 : 1 ≤ n) (h4 : n ≤ 4) (s : Strm) : SameOk (turnDen n s) [s] (turnMeans n s) := by
  have hm := turnMeans_get s n n (Nat.le_refl _)
  have hr := linesAll_ref turnK (n, 0) s
  refine ⟨fun i hi => ?_, fun w hw => ?_⟩
  · rw [turn_outs]
    by_cases hin : i < n
    · have hl : i < (turnMeans n s).length := by show i < _; unfold turnMeans; rw [hm.1]; exact hin
      have hg := hm.2 i _ (List.getElem?_eq_getElem hl)
      rw [List.getElem?_eq_getElem hl]
      rw [spl_evr n h1 h4 i hin _ 0 (by omega), show (i + n - 0) % n = i by rw [Nat.sub_zero, Nat.add_mod_right, Nat.mod_eq_of_lt hin]]
      exact hg.1.symm
    · rw [spl_far n i h1 (by omega) _ 0 (by omega), List.getElem?_eq_none (by show (turnMeans n s).length ≤ i; unfold turnMeans; rw [hm.1]; omega)]
      rfl
  · obtain ⟨i, hi, rfl⟩ := List.mem_iff_getElem.1 hw
    have hg := hm.2 i _ (List.getElem?_eq_getElem hi)
    generalize (turnMeans n s)[i] = w at *
    obtain ⟨_, he, hc⟩ := hg
    unfold turnDen linesDen
    rw [hr]
    unfold refLines at he hc
    by_cases hf : (cutS [] s.bs).2.2 = true
    · simp [hf] at he hc
      exact .inr (.inl ⟨he, by simp [hf], by simp [hf, hc.1], by simp [hf]⟩)
    · by_cases hend : s.ended = true
      · simp [hf, hend] at he
        exact .inl ⟨he, by simp [hend], by simp [hf]⟩
      · simp [hf, hend] at he hc
        exact .inr (.inr ⟨he, by simp [hf], 0, by simp [hf, hend], by simp, hc.1, hc.2.1, hc.2.2⟩)

theorem turn_drive (n : Nat) (h1 : 1 ≤ n) (h4 : n ≤ 4) (s : Strm) (hs : s.bs.length ≤ 50000) (cuts : List Int) : DEnd turnK.mach (turnDen n s) 64 (drive turnK.mach { over := false, beg := [], t := (n, 0) } [s] cuts) :=
  lines_dend turnK TI 0 turn_ok (n, 0) ⟨h1, h4, by dsimp only; omega⟩ s cuts hs (fun t => by show (0 : Int) ≤ 0; omega)

/-! ## Taken by turns -/

/-- What is left of the outputs after k lines. -/
def left (n : Nat) (ls : List Bs) (k j : Nat) : Bs := if j < n then spl n j (k % n) (ls.drop k) else []
theorem left_start (n : Nat) (h1 : 1 ≤ n) (s : Strm) : (turnDen n s).outs = left n (refLines s).lines 0 := by
  funext j
  rw [turn_outs]
  unfold left
  split
  · rw [Nat.zero_mod, List.drop_zero]
  · exact spl_far n j h1 (by omega) _ 0 (by omega)
theorem left_here (n : Nat) (h1 : 1 ≤ n) (ls : List Bs) (k : Nat) (h : k < ls.length) : left n ls k (k % n) = (ls[k] ++ [10]) ++ left n ls (k + 1) (k % n) := by
  have hm : k % n < n := Nat.mod_lt _ (by omega)
  unfold left
  rw [if_pos hm, if_pos hm, List.drop_eq_getElem_cons h, spl, if_pos rfl, Nat.mod_add_mod]
theorem left_other (n : Nat) (ls : List Bs) (k j : Nat) (h : k < ls.length) (hj : j ≠ k % n) : left n ls k j = left n ls (k + 1) j := by
  unfold left
  split
  · rw [List.drop_eq_getElem_cons h, spl, if_neg (fun e => hj e.symm), Nat.mod_add_mod, List.nil_append]
  · rfl
theorem left_upd (n : Nat) (ls : List Bs) (k : Nat) (h : k < ls.length) : upd (left n ls k) (k % n) (left n ls (k + 1) (k % n)) = left n ls (k + 1) := by
  funext j
  unfold upd
  split
  · rename_i e; rw [e]
  · rename_i e; exact left_other n ls k j h e
theorem left_end (n : Nat) (ls : List Bs) (k : Nat) (h : ls.length ≤ k) (j : Nat) : left n ls k j = [] := by
  unfold left
  rw [List.drop_eq_nil_of_le h]
  split <;> rfl
theorem spl_len (n j : Nat) (ls : List Bs) : ∀ k, (spl n j k ls).length ≤ (ls.map List.length).sum + ls.length := by
  induction ls with
  | nil => intro k; simp [spl]
  | cons l r ih =>
    intro k
    have := ih ((k + 1) % n)
    rw [spl, List.length_append, List.map_cons, List.sum_cons, List.length_cons]
    split
    · simp; omega
    · simp; omega
theorem turn_ended (n : Nat) (b : Bs) (h : (refLines ⟨b, true, 0, 0, 0⟩).all = true) : (turnDen n ⟨b, true, 0, 0, 0⟩).need = -1 ∧ (turnDen n ⟨b, true, 0, 0, 0⟩).err = 0 := by
  have hf : (cutS [] b).2.2 = false := by
    unfold refLines at h
    dsimp only at h
    by_cases hf : (cutS [] b).2.2 = true
    · rw [if_pos hf] at h; cases h
    · simpa using hf
  have hr := linesAll_ref turnK (n, 0) ⟨b, true, 0, 0, 0⟩
  dsimp only at hr
  rw [hf] at hr
  constructor
  · show (linesAll turnK (n, 0) ⟨b, true, 0, 0, 0⟩).2.1 = -1
    rw [hr]; simp
  · show (linesAll turnK (n, 0) ⟨b, true, 0, 0, 0⟩).2.2 = 0
    rw [hr]; simp
end Go.Proofs.Ytfbfcehjlaallaa
