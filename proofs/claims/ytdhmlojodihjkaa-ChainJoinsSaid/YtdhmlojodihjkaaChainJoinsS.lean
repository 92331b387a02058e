/- ChainJoins: all bytes of its inputs come out, one behind the other: the function returns true for every input, and its arguments read as before. No conditions. -/
import Derived.Test.YtdhmlojodihjkaaChainJoins
import Derived.Test.YtdhmlojodihjkaaOpenB
import Derived.Test.YtdhmlojodihjkaaRows
import Derived.WalkKit
import Derived.ProofKit
import Derived.OpenShut
namespace Go.Proofs.Ytdhmlojodihjkaa.ChainJoins
open Go Go.ChangeShapes Go.WideShapes Go.ChangeAt Go.RowKit

theorem own : ownKnob Try.prog.godebug = none := by kernel_rfl

set_option maxRecDepth 100000 in
theorem contract (H : Type) (enc : TypeId × Value → H) (W : World) (base : Nat) (args : Array Value) (ds gs : List (DataW H)) (before : List MemPlace)
    (hval : ∀ (j : Nat) t v, Try.f9.params[j]? = some t → args[j]? = some v → Value.okWide Try.prog W .any base t v)
    (hW : DataW.Whole enc Try.prog Try.f9.params.toList Rows.chainJoinsSpec.vars false W args.toList ds gs before) :
    Calls Try.prog 9 args W fun e W' => ∃ v, e = .returned v ∧ Rows.chainJoinsSpec.post enc Try.prog Try.f9 false true false false W args v W' := by
  have hW' := hW
  obtain ⟨p, q, hA0, hV, rfl, hfz, hnd⟩ := hW
  have hA : DataW.TrodAll enc Try.prog W 0 (fun _ => true) true Try.f9.params.toList args.toList ds p := hA0
  have hA9 := hA
  rw [Try.params9] at hA hval
  obtain ⟨v0, vs0, d0, ds0, p0, q0, hargs, rfl, rfl, h0, tt0⟩ := trodAll_cons hA
  obtain ⟨v1, vs1, d1, ds1, p1, q1, rfl, rfl, rfl, h1, tt1⟩ := trodAll_cons tt0
  obtain ⟨rfl, rfl, rfl⟩ := trodAll_nil tt1
  obtain rfl : args = #[v0, v1] := by cases args; simp_all
  obtain ⟨rfl, rfl⟩ := trodVars_none hV
  have hW9 := hW'
  rw [List.append_nil] at hW9
  have e0 := slice_cells Try.underlying55 (hval 0 55 v0 rfl rfl)
  obtain ⟨f0, h0⟩ := h0
  rw [e0] at h0
  obtain ⟨A0, c0, l0, rfl, lc0, lm0, r0, b0⟩ := open_bss h0
  have e1 := slice_cells Try.underlying37 (hval 1 37 v1 rfl rfl)
  obtain ⟨f1, h1⟩ := h1
  rw [e1] at h1
  obtain ⟨A1, c1, l1, rfl, lc1, lm1, r1⟩ := open_is h1
  have hE : Chain.E W.heap.size W := trivial
  refine (Chain.joins_law l0 l1 A0 A1 c0 c1 W (Nat.le_trans lc0 lm0) r0 b0 (Nat.le_trans lc1 lm1) r1 hE).mono fun e W' ⟨he, hc⟩ => ?_
  subst he
  exact ⟨_, rfl, post_of_below (by kernel_rfl) hW9 rfl hA9 (by kernel_rfl) (fun _ _ _ => trodAll_cons_mk (shut_bool Try.underlying4 _) trodAll_mk0) rfl rfl (hc.below (Nat.le_refl _) (fun _ h => h.elim)) (ok_one (by kernel_rfl) rfl (okWide_bool_mk Try.underlying4 _))⟩

set_option maxRecDepth 100000 in
theorem lifted (os : Os) (started : os.Started) (H : Type) (enc : TypeId × Value → H) :
    ReturnsInHanded {} Try.checked os 9 .any (Rows.chainJoinsSpec.pre6 enc Try.prog Try.f9 Rows.chainJoinsRow.domain false) (Rows.chainJoinsSpec.post enc Try.prog Try.f9 false true false false) := by
  refine returnsInHanded_of_change (C := Try.checked) (s := Rows.chainJoinsSpec) own started (by kernel_rfl) Try.func9
    (ChangeSpec.witness6 (enc := enc) (C := Try.checked) (s := Rows.chainJoinsSpec) false ⟨#[], #[.slice none 0 0, .slice none 0 0], []⟩ 8 (by kernel_rfl) (by kernel_rfl) (by kernel_rfl) (by kernel_rfl)) ?_
  intro W base args ds gs before hval hW _ _
  exact contract H enc W base args ds gs before hval hW

end Go.Proofs.Ytdhmlojodihjkaa.ChainJoins
namespace Go.Proofs.Ytdhmlojodihjkaa
open Go Go.ChangeShapes Go.WideShapes Go.ChangeAt Go.RowKit
theorem chainJoins_said : Rows.ChainJoinsSaid :=
  OpenClaim.holds_of_wide 9 Try.f9 rfl rfl rfl rfl rfl rfl rfl ⟨rfl, rfl, rfl, rfl, rfl⟩ rfl rfl rfl rfl rfl (by kernel_rfl) Try.func9 (by kernel_rfl)
    (of_decide_eq_true (by kernel_rfl)) (by unfold Func.isWrapper; first | (rw [if_pos (by decide +kernel)]; kernel_rfl) | (rw [if_neg (by decide +kernel)]; exact ⟨rfl, rfl⟩))
    (fun os started H enc _ => ChainJoins.lifted os started H enc)
end Go.Proofs.Ytdhmlojodihjkaa
