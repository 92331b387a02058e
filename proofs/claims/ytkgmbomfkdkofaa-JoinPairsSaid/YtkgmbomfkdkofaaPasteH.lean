/- paste: Held; its machine is one that Drive can drive. -/
import Derived.Test.YtkgmbomfkdkofaaPasteF
namespace Go.Proofs.Ytkgmbomfkdkofaa
open Go Go.RowKit

theorem wts_take (l : List PQ) (i : Nat) (h : i < l.length) : ((l.take (i + 1)).map paWt).sum = ((l.take i).map paWt).sum + paWt l[i] := by
  rw [List.take_succ_eq_append_getElem h, List.map_append, List.sum_append]; simp
theorem lens_le : ∀ (l : List Bs) (c : Nat), (∀ x ∈ l, x.length ≤ c) → lens l ≤ l.length * c
  | [], c, _ => by simp [lens]
  | x :: r, c, h => by
    have h1 := h x (by simp)
    have h2 := lens_le r c (fun y hy => h y (by simp [hy]))
    unfold lens at h2 ⊢
    simp only [List.map_cons, List.sum_cons, List.length_cons, Nat.succ_mul]
    omega
theorem wt_le {q : PQ} (h : PQOk q) (hb : q.beg.length ≤ 64) : paWt q ≤ 2200 ∧ lens q.ls ≤ 2048 := by
  have h1 := lens_le q.ls 64 h.short
  have h2 := h.few
  have h3 : q.ls.length * 64 ≤ 32 * 64 := Nat.mul_le_mul_right _ h2
  have e : (q.ls.map List.length).sum = lens q.ls := rfl
  refine ⟨?_, by omega⟩
  unfold paWt
  rw [e]
  split <;> omega

section
variable {g n B : Nat}

theorem base_need3 (a : Int) (ov : Bool) (w : World) (h0 : w.cell? ⟨g, 0, none⟩ = some (.int .i64 a)) (h1 : w.cell? ⟨g, 1, none⟩ = some (.bool false)) (h2 : w.cell? ⟨g, 2, none⟩ = some (.bool ov)) :
    Calls Try.prog 95 #[.pointer (some ⟨g, 0, none⟩)] w fun e w' => e = .returned (.int .i64 (if ov = true then -1 else a)) ∧ w = w' := by
  cases ov
  all_goals
    go_enter Try.func95, Try.ntmps95
    go_wp2
    go_ret
    exact ⟨rfl, rfl⟩

end
end Go.Proofs.Ytkgmbomfkdkofaa
