/- penstocklaw11: awake. -/
import Derived.Test.YtfbfcehjlaallaaDoorNumberFit
import Derived.Test.YtfbfcehjlaallaaDoorLit
import Derived.Lib.SmallJoins
namespace Go.Proofs.YtfbfcehjlaallaaDoor.Number
open Go Go.RowKit

theorem nil_no (a : Addr) (w : World) : (binOp .eql 31 (.iface 62 (.pointer (some a))) .nilIface).run Tryd.prog w = .ok (.bool false) w := by kernel_rfl

set_option maxHeartbeats 1000000 in
set_option maxRecDepth 100000 in
theorem awake_any (B : Nat) (w : World) (hB : B ≤ w.heap.size) (hE : E B w) : Calls Tryd.prog 12 #[] w (TruePost w) := by
  have hnew := new_any (fun _ => True) ⟨kind, awN, [], []⟩ aw_fit.1 _ w (prm_lit w kind awN) B hB hE
  have hd := drive_ok ⟨kind, awN, [], []⟩ awIns aw_fit (by decide) [2]
  have hnil := nil_no
  have hcv := fun (W : World) (C : Array Value) (n c g : Nat) (hg : g = W.heap.size) => Go.Joins.run_convert_bytes_const_at (P := Tryd.prog) W 22 5 C n c g hg Tryd.underlying22 Tryd.underlying5
  obtain ⟨d1, d2, d3⟩ := aw_den
  replace hd := Lib.hid hd
  replace d1 := Lib.hid d1
  replace d2 := Lib.hid d2
  replace d3 := Lib.hid d3
  go_enter Tryd.func12, Tryd.ntmps12
  go_wp2_with (first
    | (go_at_call 13
       refine hnew.mono ?_
       rintro e1 w1 ⟨g, F, rfl, hr1, hF1, hc1⟩)
    | (go_at_call 14
       refine (drive_ready (hr1.chg ((((Chg.refl (fun _ => False) w1).alloc _).alloc _).alloc _) (fun _ _ h => h) (fun _ h => h.elim)) awIns [2] _ _ hd.out _ _ _ _ (fun k => w1.heap.size ≤ k) ?_ ?_ ?_ (by decide) (by decide)).mono ?_
       rotate_left 3
       rintro e2 w2 ⟨dd, F', rfl, hh, hh0, hc2, hr2, hF2⟩)
    | (refine wpList_store_got rfl (.tmp 3) (.tmp 21) rfl w2.heap.size _ _ _ _ _ _ rfl rfl _ (Blk.new w2 _ _) rfl ?_
       intro w3 hG3 hc3
       have g0 : w3.cell? ⟨w2.heap.size, 0, none⟩ = some (strv awO) := (hG3.cell 0).trans (by rw [← d1.out]; rfl)
       have g4 : w3.cell? ⟨w2.heap.size, 4, none⟩ = some (.int .i64 (-1)) := (hG3.cell 4).trans (by rw [← d2.out]; rfl)
       have g5 : w3.cell? ⟨w2.heap.size, 5, none⟩ = some (.int .i64 0) := (hG3.cell 5).trans (by rw [← d3.out]; rfl)
       have g11 : w3.cell? ⟨w2.heap.size, 11, none⟩ = some (.bool false) := (hG3.cell 11).trans rfl
       unfold awO at g0))
  · go_ret
    refine ⟨rfl, ?_⟩
    have hi := hr1.inside
    have k2 : Chg F w1 w2 := (((Chg.refl F w1).alloc _).alloc _).alloc _ |>.trans hc2 (fun _ h _ => h)
    have k3 : Chg F w1 w3 := (k2.alloc _).trans hc3 (fun k hk hlt => by have := k2.size; omega)
    exact hc1.trans k3 (fun k hk hlt => by have := hF1 k hk; omega)
  · exact ((strms_new (fun k => w1.heap.size ≤ k) [(⟨awB, true, 0, 0, 0⟩, .slice (some ⟨w1.heap.size, 0, none⟩) awB.length awB.length)] rfl (by simp) (by show w1.heap.size ≤ _; omega) (by
      intro t ht
      simp at ht
      subst ht
      exact ⟨⟨_, _, rfl, bs_new _ awB rfl rfl (Nat.le_refl _)⟩, capOk_slice (Nat.le_refl _)⟩)).chg ((Chg.refl (fun _ => False) _).alloc _) (fun _ _ _ h => h))
  · exact is_new _ [2] rfl (by simp) (by show w1.heap.size ≤ _; omega)
  · exact fun k hk hF => by have := (hr1.inside.2.1 k hF).2; omega
end Go.Proofs.YtfbfcehjlaallaaDoor.Number
