/- penstocklaw14: awake. -/
import Derived.Test.YtkgmbomfkdkofaaJoinFit
import Derived.Test.YtkgmbomfkdkofaaLit
import Derived.Lib.SmallJoins
namespace Go.Proofs.Ytkgmbomfkdkofaa.Join
open Go Go.RowKit

def awIns : List Strm := [⟨[97, 58, 49, 10, 98, 58, 50, 10, 98, 58, 51, 10, 100], true, 0, 0, 0⟩, ⟨[98, 58, 120, 10, 99, 10, 100, 58, 121], true, 0, 0, 0⟩]
def awP : Prm := ⟨14, 3, [58], []⟩
theorem aw_fit : fitI awP awIns := ⟨⟨by decide, rfl⟩, by decide⟩
theorem aw_den : (den awP awIns).outs 0 = [98, 58, 50, 58, 120, 10, 98, 58, 51, 58, 120, 10, 100, 58, 58, 121, 10] ∧ (den awP awIns).need = -1 ∧ (den awP awIns).err = 0 := ⟨by decide +kernel, by decide +kernel, by decide +kernel⟩
theorem prm_lit1 (w : World) (T : TypeId) (fr : Nat × Nat) (k n : Int) (x : UInt8) : PAt (w.alloc (.cells #[.int .u8 x.toNat] T fr)) (fun _ => True) (.agg #[.int .i64 k, .int .i64 n, .slice (some ⟨w.heap.size, 0, none⟩) 1 1, .slice none 0 0]) ⟨k, n, [x], []⟩ :=
  ⟨some ⟨w.heap.size, 0, none⟩, 1, none, 0, rfl, bs_new _ [x] rfl rfl trivial, Rd.nil _ _ _ _⟩

theorem nil_no (a : Addr) (w : World) : (binOp .eql 31 (.iface 72 (.pointer (some a))) .nilIface).run Try.prog w = .ok (.bool false) w := by kernel_rfl

set_option maxHeartbeats 1000000 in
set_option maxRecDepth 100000 in
theorem awake_any (B : Nat) (w : World) (hB : B ≤ w.heap.size) (_ : E B w) : Calls Try.prog 15 #[] w (TruePost w) := by
  have hd := drive_ok awP awIns aw_fit (by decide) [2]
  have hnil := nil_no
  have hcv := fun (W : World) (C : Array Value) (n c g : Nat) (hg : g = W.heap.size) => Go.Joins.run_convert_bytes_const_at (P := Try.prog) W 22 5 C n c g hg Try.underlying22 Try.underlying5
  obtain ⟨d1, d2, d3⟩ := aw_den
  replace hd := Lib.hid hd
  replace d1 := Lib.hid d1
  replace d2 := Lib.hid d2
  replace d3 := Lib.hid d3
  go_enter Try.func15, Try.ntmps15
  go_wp2_with (first
    | (go_at_call 16
       refine (new_any (fun _ => True) awP aw_fit.1 _ _ (prm_lit1 w _ _ 14 3 58) B (by simp; omega) trivial).mono ?_
       rintro e1 w1 ⟨g, F, rfl, hr1, hF1, hc1⟩)
    | (go_at_call 18
       refine (drive_ready (hr1.chg (((((Chg.refl (fun _ => False) w1).alloc _).alloc _).alloc _).alloc _) (fun _ _ h => h) (fun _ h => h.elim)) awIns [2] _ _ hd.out _ _ _ _ (fun k => w1.heap.size ≤ k) ?_ ?_ ?_ (by decide) (by decide)).mono ?_
       rotate_left 3
       rintro e2 w2 ⟨dd, F', rfl, hh, hh0, hc2, hr2, hF2⟩)
    | (refine wpList_store_got rfl (.tmp 3) (.tmp 26) rfl w2.heap.size _ _ _ _ _ _ rfl rfl _ (Blk.new w2 _ _) rfl ?_
       intro w3 hG3 hc3
       have g0 : w3.cell? ⟨w2.heap.size, 0, none⟩ = some (strv [98, 58, 50, 58, 120, 10, 98, 58, 51, 58, 120, 10, 100, 58, 58, 121, 10]) := (hG3.cell 0).trans (by rw [← d1.out]; rfl)
       have g4 : w3.cell? ⟨w2.heap.size, 4, none⟩ = some (.int .i64 (-1)) := (hG3.cell 4).trans (by rw [← d2.out]; rfl)
       have g5 : w3.cell? ⟨w2.heap.size, 5, none⟩ = some (.int .i64 0) := (hG3.cell 5).trans (by rw [← d3.out]; rfl)
       have g11 : w3.cell? ⟨w2.heap.size, 11, none⟩ = some (.bool false) := (hG3.cell 11).trans rfl))
  · go_ret
    refine ⟨rfl, ?_⟩
    have hi := hr1.inside
    have k2 : Chg F w1 w2 := ((((Chg.refl F w1).alloc _).alloc _).alloc _).alloc _ |>.trans hc2 (fun _ h _ => h)
    have k3 : Chg F w1 w3 := (k2.alloc _).trans hc3 (fun k hk hlt => by have := k2.size; omega)
    exact ((Chg.refl (fun _ => False) w).alloc _).trans (hc1.trans k3 (fun k hk hlt => by have := hF1 k hk; omega)) (fun _ h _ => h)
  · exact ((strms_new (fun k => w1.heap.size ≤ k) [(⟨[97, 58, 49, 10, 98, 58, 50, 10, 98, 58, 51, 10, 100], true, 0, 0, 0⟩, .slice (some ⟨w1.heap.size, 0, none⟩) 13 13), (⟨[98, 58, 120, 10, 99, 10, 100, 58, 121], true, 0, 0, 0⟩, .slice (some ⟨w1.heap.size + 1, 0, none⟩) 9 9)] rfl (by simp) (by show w1.heap.size ≤ _; omega) (by
      intro t ht
      simp at ht
      rcases ht with rfl | rfl
      · exact ⟨⟨_, _, rfl, (bs_new _ [97, 58, 49, 10, 98, 58, 50, 10, 98, 58, 51, 10, 100] rfl rfl (Nat.le_refl _)).chg ((Chg.refl (fun _ => False) _).alloc _) (fun _ _ _ h => h)⟩, capOk_slice (Nat.le_refl _)⟩
      · exact ⟨⟨_, _, rfl, bs_new _ [98, 58, 120, 10, 99, 10, 100, 58, 121] rfl (by simp) (by omega)⟩, capOk_slice (Nat.le_refl _)⟩)).chg ((Chg.refl (fun _ => False) _).alloc _) (fun _ _ _ h => h))
  · exact is_new _ [2] rfl (by simp) (by omega)
  · exact fun k hk hF => by have := (hr1.inside.2.1 k hF).2; omega
end Go.Proofs.Ytkgmbomfkdkofaa.Join
