/- JoinChunks: however inputs are cut, the same comes out: the function returns true for every input, and its arguments read as before. No conditions. -/
import Derived.Test.YtamhebjejgcbjaaJoinChunks
import Derived.Test.YtamhebjejgcbjaaOpen
import Derived.Test.YtamhebjejgcbjaaRows
import Derived.WalkKit
import Derived.ProofKit
import Derived.OpenShut
namespace Go.Proofs.Ytamhebjejgcbjaa.JoinChunks
open Go Go.ChangeShapes Go.WideShapes Go.ChangeAt Go.RowKit

theorem own : ownKnob Try.prog.godebug = none := by kernel_rfl

set_option maxRecDepth 100000 in
theorem contract (H : Type) (enc : TypeId × Value → H) (W : World) (base : Nat) (args : Array Value) (ds gs : List (DataW H)) (before : List MemPlace)
    (hval : ∀ (j : Nat) t v, Try.f15.params[j]? = some t → args[j]? = some v → Value.okWide Try.prog W .any base t v)
    (hW : DataW.Whole enc Try.prog Try.f15.params.toList Rows.joinChunksSpec.vars false W args.toList ds gs before) :
    Calls Try.prog 15 args W fun e W' => ∃ v, e = .returned v ∧ Rows.joinChunksSpec.post enc Try.prog Try.f15 false true false false W args v W' := by
  have hW' := hW
  obtain ⟨p, q, hA0, hV, rfl, hfz, hnd⟩ := hW
  have hA : DataW.TrodAll enc Try.prog W 0 (fun _ => true) true Try.f15.params.toList args.toList ds p := hA0
  have hA9 := hA
  rw [Try.params15] at hA hval
  obtain ⟨v0, vs0, d0, ds0, p0, q0, hargs, rfl, rfl, h0, tt0⟩ := trodAll_cons hA
  obtain ⟨v1, vs1, d1, ds1, p1, q1, rfl, rfl, rfl, h1, tt1⟩ := trodAll_cons tt0
  obtain ⟨v2, vs2, d2, ds2, p2, q2, rfl, rfl, rfl, h2, tt2⟩ := trodAll_cons tt1
  obtain ⟨v3, vs3, d3, ds3, p3, q3, rfl, rfl, rfl, h3, tt3⟩ := trodAll_cons tt2
  obtain ⟨rfl, rfl, rfl⟩ := trodAll_nil tt3
  obtain rfl : args = #[v0, v1, v2, v3] := by cases args; simp_all
  obtain ⟨rfl, rfl⟩ := trodVars_none hV
  have hW9 := hW'
  rw [List.append_nil] at hW9
  obtain ⟨P0, hp0, na0, nb0, la0, lb0⟩ := open_prm (hval 0 24 v0 rfl rfl) h0
  have e1 := slice_cells Try.underlying36 (hval 1 36 v1 rfl rfl)
  obtain ⟨f1, h1⟩ := h1
  rw [e1] at h1
  obtain ⟨A1, c1, l1, rfl, lc1, lm1, r1, b1⟩ := open_strms h1
  have e2 := slice_cells Try.underlying37 (hval 2 37 v2 rfl rfl)
  obtain ⟨f2, h2⟩ := h2
  rw [e2] at h2
  obtain ⟨A2, c2, l2, rfl, lc2, lm2, r2⟩ := open_is h2
  have e3 := slice_cells Try.underlying37 (hval 3 37 v3 rfl rfl)
  obtain ⟨f3, h3⟩ := h3
  rw [e3] at h3
  obtain ⟨A3, c3, l3, rfl, lc3, lm3, r3⟩ := open_is h3
  have hE : Join.E W.heap.size W := trivial
  refine (Join.chunks_any P0 l1 l2 l3 v0 A1 A2 A3 c1 c2 c3 W na0 nb0 la0 lb0 hp0 (Nat.le_trans lc1 lm1) r1 b1 (Nat.le_trans lc2 lm2) r2 (Nat.le_trans lc3 lm3) r3 hE).mono fun e W' ⟨he, hc⟩ => ?_
  subst he
  exact ⟨_, rfl, post_of_below (by kernel_rfl) hW9 rfl hA9 (by kernel_rfl) (fun _ _ _ => trodAll_cons_mk (shut_bool Try.underlying4 _) trodAll_mk0) rfl rfl (hc.below (Nat.le_refl _) (fun _ h => h.elim)) (ok_one (by kernel_rfl) rfl (okWide_bool_mk Try.underlying4 _))⟩

set_option maxRecDepth 100000 in
theorem lifted (os : Os) (started : os.Started) (H : Type) (enc : TypeId × Value → H) :
    ReturnsInHanded {} Try.checked os 15 .any (Rows.joinChunksSpec.pre6 enc Try.prog Try.f15 Rows.joinChunksRow.domain false) (Rows.joinChunksSpec.post enc Try.prog Try.f15 false true false false) := by
  refine returnsInHanded_of_change (C := Try.checked) (s := Rows.joinChunksSpec) own started (by kernel_rfl) Try.func15
    (ChangeSpec.witness6 (enc := enc) (C := Try.checked) (s := Rows.joinChunksSpec) false ⟨#[], #[.agg #[.int .i64 0, .int .i64 0, .slice none 0 0, .slice none 0 0], .slice none 0 0, .slice none 0 0, .slice none 0 0], []⟩ 8 (by kernel_rfl) (by kernel_rfl) (by kernel_rfl) (by kernel_rfl)) ?_
  intro W base args ds gs before hval hW _ _
  exact contract H enc W base args ds gs before hval hW

end Go.Proofs.Ytamhebjejgcbjaa.JoinChunks
namespace Go.Proofs.Ytamhebjejgcbjaa
open Go Go.ChangeShapes Go.WideShapes Go.ChangeAt Go.RowKit
theorem joinChunks_said : Rows.JoinChunksSaid :=
  OpenClaim.holds_of_wide 15 Try.f15 rfl rfl rfl rfl rfl rfl rfl ⟨rfl, rfl, rfl, rfl, rfl⟩ rfl rfl rfl rfl rfl (by kernel_rfl) Try.func15 (by kernel_rfl)
    (of_decide_eq_true (by kernel_rfl)) (by unfold Func.isWrapper; first | (rw [if_pos (by decide +kernel)]; kernel_rfl) | (rw [if_neg (by decide +kernel)]; exact ⟨rfl, rfl⟩))
    (fun os started H enc _ => JoinChunks.lifted os started H enc)
end Go.Proofs.Ytamhebjejgcbjaa
