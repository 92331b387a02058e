/- Long texts, one behind the other; the number's text, line by line. -/
import Derived.Test.YtdhmlojodihjkaaDoorNumP
namespace Go.Proofs.YtdhmlojodihjkaaDoor
open Go Go.RowKit
theorem run_cat3 (a b : Bs) (ha : a.length ≤ 1000000000) (hb : b.length ≤ 1000000000) (W : World) : (Op.stringOp .add ⟨a.toArray⟩ ⟨b.toArray⟩).run Tryd.prog W = .ok (strv (a ++ b)) W := by
  rw [run_string_add_sum W _ _ (by simp [ByteArray.size]; omega), ByteArray.mk_append_mk]

theorem numText_snoc (a : List Bs) (x : Bs) : ∀ n : Int, numText n (a ++ [x]) = numText n a ++ nPiece (n + a.length) x := by
  induction a with
  | nil => intro n; simp [numText]
  | cons y r ih =>
    intro n
    rw [List.cons_append, numText, ih, numText, List.append_assoc]
    congr 2
    simp only [List.length_cons]
    congr 1
    omega
theorem numText_len (a : List Bs) (h : ∀ x ∈ a, x.length ≤ 64) : ∀ (n : Int), 0 ≤ n → n + a.length ≤ 2000000000 → (numText n a).length ≤ 100 * a.length := by
  induction a with
  | nil => intro n _ _; simp [numText]
  | cons y r ih =>
    intro n h0 h1
    simp only [List.length_cons] at h1
    have h2 := ih (fun x hx => h x (by simp [hx])) (n + 1) (by omega) (by omega)
    have h3 := Lib.itoa_length_le n (by omega) (by omega)
    have h4 := h y (by simp)
    simp only [numText, nPiece, List.length_append, List.length_cons, List.length_nil]
    omega
end Go.Proofs.YtdhmlojodihjkaaDoor
