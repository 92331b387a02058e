/- What number's machine does, in plain Lean: the document's text of number. -/
import Derived.Test.YtfbfcehjlaallaaDoorNumM
import Derived.Test.YtfbfcehjlaallaaDoorUniqP
namespace Go.Proofs.YtfbfcehjlaallaaDoor
open Go Go.RowKit

def nPiece (n : Int) (l : Bs) : Bs := Lib.itoa n ++ [32] ++ l ++ [10]
/-- The document's text: lines with their numbers. -/
def numText : Int → List Bs → Bs
  | _, [] => []
  | n, l :: r => nPiece n l ++ numText (n + 1) r

theorem numK_each (t : Int) (l : Bs) : numK.each t l = (tellS 0 [Lib.itoa t ++ [32] ++ l], wrap64 (t + 1)) := rfl
theorem numK_last (t : Int) : numK.last t = ([], t) := rfl

theorem num_each_p0 (ls : List Bs) : ∀ t, P0 (eachAll numK t ls).1 := by
  induction ls with
  | nil => intro t; exact p0_nil
  | cons l r ih => intro t; rw [eachAll, numK_each]; exact p0_append (tellS_p0 [Lib.itoa t ++ [32] ++ l]) (ih _)

theorem num_ne (ls : List Bs) : ∀ t, ∀ x ∈ (eachAll numK t ls).1, x.2 ≠ [] := by
  induction ls with
  | nil => intro t x h; cases h
  | cons l r ih =>
    intro t x hx
    rw [eachAll, numK_each] at hx
    rcases List.mem_append.1 hx with h | h
    · exact tellS_ne 0 [Lib.itoa t ++ [32] ++ l] x h
    · exact ih _ x h

theorem num_run (ls : List Bs) : ∀ (t : Int), 0 ≤ t → t + ls.length ≤ 2000000000 → cat (eachAll numK t ls).1 = numText t ls := by
  induction ls with
  | nil => intro t _ _; rfl
  | cons l r ih =>
    intro t h0 h1
    simp only [List.length_cons] at h1
    have e : (wrap64 (t + 1)) = t + 1 := by unfold wrap64; omega
    show cat (tellS 0 [Lib.itoa t ++ [32] ++ l] ++ (eachAll numK (wrap64 (t + 1)) r).1) = _
    rw [cat_append, cat_tell, joinS_one, e, ih (t + 1) (by omega) (by omega)]
    rfl

/-- Within the ends that may be. -/
def NIs (t : Int) : Prop := NI t

theorem num_sum (ls : List Bs) : ∀ t, NI t → (∀ l ∈ ls, l.length ≤ 64) → ((eachAll numK t ls).1.map fun o => o.2.length).sum ≤ (ls.map List.length).sum + 23 * ls.length := by
  induction ls with
  | nil => intro t _ _; simp [eachAll]
  | cons l r ih =>
    intro t h hl
    have h2 := ih (wrap64 (t + 1)) (num_small.keep t l h (hl l (by simp))) (fun x hx => hl x (by simp [hx]))
    have h1 := Lib.itoa_length_le t h.1 h.2
    show ((tellS 0 [Lib.itoa t ++ [32] ++ l] ++ (eachAll numK (wrap64 (t + 1)) r).1).map _).sum ≤ _
    rw [List.map_append, List.sum_append, ntell_sum, List.map_cons, List.sum_cons, List.length_cons]
    simp [joinS]
    omega

theorem num_ok : LKok numK NI 0 where
  each t l h hl := num_small.keep t l h hl
  okEach t ls h hl h1 h2 := ok_p0 _ (num_each_p0 ls t) (num_ne ls t) (by have := num_sum ls t h hl; omega)
  okLast t b h hb := by
    split
    · exact ⟨by simp, fun o ho => by cases ho⟩
    · have h1 := num_each_p0 [b] t
      have h2 := num_ne [b] t
      have h3 := num_sum [b] t h (fun x hx => by simp at hx; subst hx; exact hb)
      simp only [eachAll, List.append_nil] at h1 h2 h3
      refine ok_p0 _ (p0_append h1 p0_nil) ?_ ?_
      · intro x hx
        rcases List.mem_append.1 hx with hx | hx
        · exact h2 x hx
        · cases hx
      · rw [List.map_append, List.sum_append]
        simp at h3 ⊢
        omega
  held t h := ⟨Int.le_refl _, Int.le_refl _⟩
  heldLast t h := ⟨Int.le_refl _, Int.le_refl _⟩

/-- What the document says of number. -/
def numMeans (n : Int) (s : Strm) : List Strm := refOut (numText n (refLines s).lines) (refLines s).all (refLines s).code (refLines s).stage (refLines s).id

abbrev numDen (n : Int) (s : Strm) : Den := linesDen numK n s

theorem num_outs (n : Int) (h0 : 0 ≤ n) (h1 : n ≤ 1000000000) (s : Strm) (hs : s.bs.length ≤ 50000) (j : Nat) : (numDen n s).outs j = if j = 0 then numText n (refLines s).lines else [] := by
  have hr := linesAll_ref numK n s
  have hl := (refLines_sum s).2
  show collect (fun _ => []) (linesAll numK n s).1 j = _
  rw [hr]
  dsimp only
  rw [collect_p0, ← num_run (refLines s).lines n h0 (by omega)]
  · congr 1
    rw [cat_append]
    split <;> simp [cat]
  · refine p0_append (num_each_p0 _ _) ?_
    split
    · exact p0_nil
    · exact p0_nil

theorem num_same (n : Int) (h0 : 0 ≤ n) (h1 : n ≤ 1000000000) (s : Strm) (hs : s.bs.length ≤ 50000) : SameOk (numDen n s) [s] (numMeans n s) :=
  lines_same _ _ _ _ (num_outs n h0 h1 s hs)

theorem num_drive (n : Int) (h0 : 0 ≤ n) (h1 : n ≤ 1000000000) (s : Strm) (hs : s.bs.length ≤ 50000) (cuts : List Int) : DEnd numK.mach (numDen n s) 64 (drive numK.mach { over := false, beg := [], t := n } [s] cuts) :=
  lines_dend numK NI 0 num_ok n ⟨by omega, by omega⟩ s cuts hs (fun t => by show (0 : Int) ≤ 0; omega)
end Go.Proofs.YtfbfcehjlaallaaDoor
