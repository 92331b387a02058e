/- count's machine: Feed and End where awake's run comes by. -/
import Derived.Test.YtkgmbomfkdkofaaBase
import Derived.Test.YtkgmbomfkdkofaaStrm
import Derived.Shelf.Bytes.SlCountOne
import Derived.Deep.RegionHeld3
import Derived.Deep.DrawnRows
import Derived.Deep.RegionWith
import Derived.BigQuiet
import Derived.Outline
namespace Go.Proofs.Ytkgmbomfkdkofaa
open Go Go.RowKit

structure CS where
  over : Bool
  lines : Nat
  all : Nat
def dig1 (n : Nat) : Bs := [UInt8.ofNat (48 + n)]
def countM : Mach where
  σ := CS
  need s := if s.over = true then -1 else 0
  held _ := 0
  feed s _ bs := ([], 0, ⟨s.over, s.lines + bs.count 10, s.all + bs.length⟩)
  fin s _ := (tellS 0 [dig1 s.lines ++ [32] ++ dig1 s.all], 0, ⟨true, s.lines, s.all⟩)
  more s := ([], 0, s)
def cnC (s : CS) : Array Value := #[.int .i64 0, .bool false, .bool s.over, .int .i64 (s.lines : Int), .int .i64 (s.all : Int)]
def CnInv (g B : Nat) (s : CS) (F : Nat → Prop) (w : World) : Prop := (∀ j, F j ↔ j = g) ∧ B ≤ g ∧ Blk w g 71 (cnC s)
def cnF (s : CS) (port : Int) (bs : Bs) : Prop := port = 0 ∧ ((s = ⟨false, 0, 0⟩ ∧ bs = [97, 10, 98]) ∨ (s = ⟨false, 1, 3⟩ ∧ bs = [99]))
def cnE (s : CS) (port : Int) : Prop := port = 0 ∧ s = ⟨false, 1, 4⟩

theorem itoa_1 (w : World) : Calls Try.prog 99 #[.int .i64 1] w fun e w' => e = .returned (strv [49]) ∧ w' = w := by
  go_enter Try.func99, Try.ntmps99
  go_wp2_with (first
    | (go_at_call 104; go_in)
    | (go_at_call 108; go_in)
    | (go_at_call 115; go_in))
  go_ret
  exact ⟨rfl, rfl⟩
theorem itoa_4 (w : World) : Calls Try.prog 99 #[.int .i64 4] w fun e w' => e = .returned (strv [52]) ∧ w' = w := by
  go_enter Try.func99, Try.ntmps99
  go_wp2_with (first
    | (go_at_call 104; go_in)
    | (go_at_call 108; go_in)
    | (go_at_call 115; go_in))
  go_ret
  exact ⟨rfl, rfl⟩

set_option maxRecDepth 100000 in
theorem count_any (D : Nat → Prop) (b : Bs) (hb : 0 < b.length) (A : Option Addr) (c gs : Nat) (w : World) (h : Rd w D 1 A b.length (u8s b)) (hs : w.cell? ⟨gs, 0, none⟩ = some (.int .u8 10)) (n : Nat) (hn : Lib.countByte (Lib.bytesOf (b.map fun x => (x.toNat : Int))) ((10 : Int).toNat.toUInt8) = n) :
    Calls Try.prog 101 #[.slice A b.length c, .slice (some ⟨gs, 0, none⟩) 1 1] w fun e w' => e = .returned (.int .i64 n) ∧ w' = w := by
  obtain ⟨g0, o0, rfl, hg0, _, hc⟩ := h.2 hb
  have hx : ∀ i, i < b.length → w.cell? ⟨g0, o0 + i, none⟩ = some (.int .u8 ((b.map fun x => (x.toNat : Int)).getD i 0)) := fun i hi => by
    refine hc i _ ?_
    unfold u8s
    rw [List.getElem?_map, List.getElem?_eq_getElem hi, List.getD_eq_getElem?_getD, List.getElem?_map, List.getElem?_eq_getElem hi]
    rfl
  have hr := Lib.run_countSlice (P := Try.prog) w g0 o0 b.length c (b.map fun x => (x.toNat : Int)) (by simp) hx 10
  rw [hn] at hr
  have hb1 : ((1 : Int) == 0) = false := rfl
  replace hr := Lib.hid hr
  clear hc hx hn
  go_enter Try.func101, Try.ntmps101
  go_wp2
  rw [run_callFunc_extern Try.func106 (by kernel_rfl) (by kernel_rfl) (by kernel_rfl) (e := Extern.BytealgCount.count) (by kernel_rfl), hr.out]
  simp only [Result.andThen]
  rw [Oper.upon_value]
  go_wp2
  go_ret
  exact ⟨rfl, rfl⟩
section
variable {g B : Nat}
theorem cn_cells {s : CS} {w : World} (h : Blk w g 71 (cnC s)) : w.cell? ⟨g, 0, none⟩ = some (.int .i64 0) ∧ w.cell? ⟨g, 1, none⟩ = some (.bool false) ∧ w.cell? ⟨g, 2, none⟩ = some (.bool s.over) ∧ w.cell? ⟨g, 3, none⟩ = some (.int .i64 (s.lines : Int)) ∧ w.cell? ⟨g, 4, none⟩ = some (.int .i64 (s.all : Int)) ∧ ∀ i, w.frozen? ⟨g, i, none⟩ = false :=
  ⟨(h.cell 0).trans rfl, (h.cell 1).trans rfl, (h.cell 2).trans rfl, (h.cell 3).trans rfl, (h.cell 4).trans rfl, fun i => h.frozen i⟩

set_option maxHeartbeats 1000000 in
set_option maxRecDepth 100000 in
theorem cn_feed (s : CS) (F : Nat → Prop) (w : World) (port : Int) (A : Option Addr) (c : Nat) (bs : Bs) (ha : cnF s port bs) (h : CnInv g B s F w) (hr : Rd w (fun j => ¬ F j) 1 A bs.length (u8s bs)) :
    Calls Try.prog 92 #[.pointer (some ⟨g, 0, none⟩), .int .i64 port, .slice A bs.length c] w (MAns countM (CnInv g B) w F (countM.feed s port bs)) := by
  obtain ⟨hF, hB, hb⟩ := h
  have hgl := hb.lt
  obtain ⟨rfl, ⟨rfl, rfl⟩ | ⟨rfl, rfl⟩⟩ := ha
  · obtain ⟨k0, k1, k2, k3, k4, kf⟩ := cn_cells hb
    have hct := fun (W : World) (gs : Nat) (hW : Chg (fun _ => False) w W) (hs : W.cell? ⟨gs, 0, none⟩ = some (.int .u8 10)) => count_any (fun j => ¬ F j) [97, 10, 98] (by decide) A c gs W (hr.chg hW (fun _ _ _ h => h)) hs 1 rfl
    replace hct := Lib.hid hct
    replace hb := Lib.hid hb
    replace hF := Lib.hid hF
    clear hr
    go_enter Try.func92, Try.ntmps92
    go_wp2_with (first
      | (go_at_call 100; go_in)
      | (go_at_call 97; go_in))
    have hs10 : (w.alloc (.cells #[.int .u8 10] 5)).cell? ⟨w.heap.size, 0, none⟩ = some (.int .u8 10) := ((Blk.new w 5 #[.int .u8 10]).cell 0).trans rfl
    have hgw : g ≠ w.heap.size := by omega
    have hca := hct.out (w.alloc (.cells #[.int .u8 10] 5)) w.heap.size ((Chg.refl _ _).alloc _) hs10
    have hcb := hct.out (w.alloc (.cells #[.int .u8 10] 5)).drew w.heap.size ((Chg.refl _ _).alloc _).drew hs10
    have j3 : (w.alloc (.cells #[.int .u8 10] 5)).cell? ⟨g, 3, none⟩ = some (.int .i64 0) := ((hb.out.alloc _).cell 3).trans rfl
    have jf : (w.alloc (.cells #[.int .u8 10] 5)).frozen? ⟨g, 3, none⟩ = false := (hb.out.alloc _).frozen 3
    go_region_with (go_at_call 101; first | (with_reducible refine Calls.mono hca ?_; rintro e1 w1 ⟨rfl, rfl⟩) | (with_reducible refine Calls.mono hcb ?_; rintro e1 w1 ⟨rfl, rfl⟩))
    all_goals
      clear hca hcb j3 jf
      go_wp2
      go_ret2
      refine ⟨_, F, rfl, ⟨hF.out, hB, ?_⟩, fun _ hk => .inl hk, ?_, OutsAt.nil _ _ _ _⟩
      · exact (((hb.out.set 3 _).set 4 _).alloc _).drew
      · exact ((((Chg.refl F w).setCell (p := ⟨g, 3, none⟩) (.inl ((hF.out g).2 rfl)) _).setCell (p := ⟨g, 4, none⟩) (.inl ((hF.out g).2 rfl)) _).alloc _).drew
  · obtain ⟨k0, k1, k2, k3, k4, kf⟩ := cn_cells hb
    have hct := fun (W : World) (gs : Nat) (hW : Chg (fun _ => False) w W) (hs : W.cell? ⟨gs, 0, none⟩ = some (.int .u8 10)) => count_any (fun j => ¬ F j) [99] (by decide) A c gs W (hr.chg hW (fun _ _ _ h => h)) hs 0 rfl
    replace hct := Lib.hid hct
    replace hb := Lib.hid hb
    replace hF := Lib.hid hF
    clear hr
    go_enter Try.func92, Try.ntmps92
    go_wp2_with (first
      | (go_at_call 100; go_in)
      | (go_at_call 97; go_in))
    have hs10 : (w.alloc (.cells #[.int .u8 10] 5)).cell? ⟨w.heap.size, 0, none⟩ = some (.int .u8 10) := ((Blk.new w 5 #[.int .u8 10]).cell 0).trans rfl
    have hgw : g ≠ w.heap.size := by omega
    have hca := hct.out (w.alloc (.cells #[.int .u8 10] 5)) w.heap.size ((Chg.refl _ _).alloc _) hs10
    have hcb := hct.out (w.alloc (.cells #[.int .u8 10] 5)).drew w.heap.size ((Chg.refl _ _).alloc _).drew hs10
    have j3 : (w.alloc (.cells #[.int .u8 10] 5)).cell? ⟨g, 3, none⟩ = some (.int .i64 1) := ((hb.out.alloc _).cell 3).trans rfl
    have jf : (w.alloc (.cells #[.int .u8 10] 5)).frozen? ⟨g, 3, none⟩ = false := (hb.out.alloc _).frozen 3
    go_region_with (go_at_call 101; first | (with_reducible refine Calls.mono hca ?_; rintro e1 w1 ⟨rfl, rfl⟩) | (with_reducible refine Calls.mono hcb ?_; rintro e1 w1 ⟨rfl, rfl⟩))
    all_goals
      clear hca hcb j3 jf
      go_wp2
      go_ret2
      refine ⟨_, F, rfl, ⟨hF.out, hB, ?_⟩, fun _ hk => .inl hk, ?_, OutsAt.nil _ _ _ _⟩
      · exact (((hb.out.set 3 _).set 4 _).alloc _).drew
      · exact ((((Chg.refl F w).setCell (p := ⟨g, 3, none⟩) (.inl ((hF.out g).2 rfl)) _).setCell (p := ⟨g, 4, none⟩) (.inl ((hF.out g).2 rfl)) _).alloc _).drew

theorem cn_stop (ov : Bool) (w : World) (h2 : w.cell? ⟨g, 2, none⟩ = some (.bool ov)) (hf : w.frozen? ⟨g, 2, none⟩ = false) :
    Calls Try.prog 96 #[.pointer (some ⟨g, 0, none⟩)] w fun e w' => e = .returned (.tuple #[]) ∧ w' = w.setCell ⟨g, 2, none⟩ (.bool true) := by
  go_enter Try.func96, Try.ntmps96
  go_wp2
  go_end0
  exact ⟨rfl, rfl⟩

set_option maxHeartbeats 1000000 in
set_option maxRecDepth 100000 in
theorem cn_end (s : CS) (F : Nat → Prop) (w : World) (port : Int) (ha : cnE s port) (h : CnInv g B s F w) :
    Calls Try.prog 91 #[.pointer (some ⟨g, 0, none⟩), .int .i64 port] w (MAns countM (CnInv g B) w F (countM.fin s port)) := by
  obtain ⟨hF, hB, hb⟩ := h
  have hgl := hb.lt
  obtain ⟨rfl, rfl⟩ := ha
  obtain ⟨k0, k1, k2, k3, k4, kf⟩ := cn_cells hb
  have kf2 := kf 2
  generalize hW0 : w.setCell ⟨g, 2, none⟩ (.bool true) = W0
  have hb2 : Blk W0 g 71 (cnC ⟨true, 1, 4⟩) := by rw [← hW0]; exact hb.set 2 (.bool true)
  have hc2 : Chg F w W0 := by rw [← hW0]; exact (Chg.refl F w).setCell (p := ⟨g, 2, none⟩) (.inl ((hF g).2 rfl)) _
  have hS : ∀ W, Chg (fun _ => False) W0 W → W.cell? ⟨g, 3, none⟩ = some (.int .i64 1) ∧ W.cell? ⟨g, 4, none⟩ = some (.int .i64 4) ∧ Chg (fun _ => False) W0 W := fun W hW => ⟨((hb2.chg hW (fun h => h)).cell 3).trans rfl, ((hb2.chg hW (fun h => h)).cell 4).trans rfl, hW⟩
  have c0 := Chg.refl (fun _ => False) W0
  have hS0 := hS W0 c0
  have hrd := rd_new W0 9 (strv [49, 32, 52])
  have hTell : ∀ W, Chg (fun _ => False) W0 W → Rd W (fun _ => True) 1 (some ⟨W0.heap.size, 0, none⟩) 1 [strv [49, 32, 52]] → Calls Try.prog 98 #[.int .i64 0, .slice (some ⟨W0.heap.size, 0, none⟩) 1 1] W fun e w2 => ∃ v2, e = .returned v2 ∧ OutsAt w2 (fun k => W0.heap.size ≤ k) v2 (tellS 0 [[49, 32, 52]]) ∧ Chg (fun _ => False) W0 w2 := fun W hW hr =>
    (tell_any _ 0 (some ⟨W0.heap.size, 0, none⟩) 1 [[49, 32, 52]] W hr (by simp) (by simp [joinS])).mono fun e2 w2 h => by
      obtain ⟨v2, rfl, ho2, hb2⟩ := h
      exact ⟨v2, rfl, ho2.mono (fun k hk _ => Nat.le_trans hW.size hk), hW.trans (Chg.of_below (S := fun _ => False) hb2) (fun _ h _ => h)⟩
  have hT1 := hTell _ (c0.alloc _) hrd
  have hT2 := hTell _ (c0.alloc _).drew hrd
  have i1 := fun W => itoa_1 W
  have i4 := fun W => itoa_4 W
  replace hb := Lib.hid hb
  replace hb2 := Lib.hid hb2
  replace hc2 := Lib.hid hc2
  replace hS := Lib.hid hS
  replace hF := Lib.hid hF
  replace hT1 := Lib.hid hT1
  replace hT2 := Lib.hid hT2
  replace i1 := Lib.hid i1
  replace i4 := Lib.hid i4
  clear hTell hrd
  go_enter Try.func91, Try.ntmps91
  go_wp2_with (first
    | (go_at_call 97; go_in)
    | (go_at_call 96
       refine (cn_stop false w k2 kf2).mono ?_
       rintro e1 w1 ⟨rfl, rfl⟩
       rw [hW0]))
  have c1 : ∀ W : World, (Op.stringOp .add ⟨([49] : Bs).toArray⟩ ⟨#[32]⟩).run Try.prog W = .ok (strv [49, 32]) W := fun W => by rw [show (⟨#[32]⟩ : ByteArray) = ⟨([32] : Bs).toArray⟩ from rfl, run_string_add_sum W _ _ (by simp [ByteArray.size]), strv_append]; rfl
  have c2 : ∀ W : World, (Op.stringOp .add ⟨([49, 32] : Bs).toArray⟩ ⟨([52] : Bs).toArray⟩).run Try.prog W = .ok (strv [49, 32, 52]) W := fun W => by rw [run_string_add_sum W _ _ (by simp [ByteArray.size]), strv_append]; rfl
  go_region_held3 (fun W => W.cell? ⟨g, 3, none⟩ = some (.int .i64 1) ∧ W.cell? ⟨g, 4, none⟩ = some (.int .i64 4) ∧ Chg (fun _ => False) W0 W)
    (first
      | with_reducible exact hS0
      | with_reducible exact hS.out _ c0.drew
      | with_reducible exact hS.out _ (c0.alloc _)
      | with_reducible exact hS.out _ (c0.alloc _).drew
      | with_reducible exact hS.out _ (c0.drew.alloc _)
      | with_reducible exact hS.out _ dX)
    (first
      | (go_at_call 99
         with_reducible refine Calls.mono (i1.out _) ?_
         rintro e2 w2 ⟨rfl, rfl⟩)
      | (go_at_call 99
         with_reducible refine Calls.mono (i4.out _) ?_
         rintro e3 w3 ⟨rfl, rfl⟩)
      | (go_at_call 98
         first
           | with_reducible refine Calls.mono hT1.out ?_
           | with_reducible refine Calls.mono hT2.out ?_
         rintro e4 w4 ⟨v2, rfl, ho2, dX⟩))
  all_goals
    go_wp2
    go_ret2
    have hs2 := hc2.out.size
    exact ⟨v2, F, rfl, ⟨hF.out, hB, hb2.out.chg dX (fun h => h)⟩, fun _ hk => .inl hk, hc2.out.trans dX (fun _ h _ => h.elim), ho2.mono (fun k hk _ => Nat.le_trans hs2 hk)⟩
end
end Go.Proofs.Ytkgmbomfkdkofaa
