/- PasteMeans. -/
import Derived.Test.YtamhebjejgcbjaaPasteAwake
import Derived.Test.YtamhebjejgcbjaaPasteMn
import Derived.Deep.RegionHeld3
import Derived.Deep.DrawnRows
import Derived.BigQuiet
import Derived.Outline
namespace Go.Proofs.Ytamhebjejgcbjaa.Paste
open Go Go.RowKit

set_option maxHeartbeats 4000000 in
set_option maxRecDepth 100000 in
theorem means_law (p : Prm) (ins : List Strm) (a : List Int) (v : Value) (A Aa : Option Addr) (ci ca : Nat) (w : World)
    (hn0 : -9223372036854775808 ≤ p.n) (hn1 : p.n ≤ 9223372036854775807) (hla : p.a.length ≤ maxLen) (hlb : p.b.length ≤ maxLen) (hv : PAt w (fun _ => True) v p)
    (hil : ins.length ≤ maxLen) (hins : StrmsAt w (fun _ => True) (.slice A ins.length ci) ins) (hbl : ∀ s ∈ ins, s.bs.length ≤ maxLen)
    (hal : a.length ≤ maxLen) (ha : Rd w (fun _ => True) 1 Aa a.length (i64s a)) (hE : E w.heap.size w) :
    Calls Try.prog 9 #[v, .slice A ins.length ci, .slice Aa a.length ca] w (TruePost w) := by
  have hEE : ∀ W, Chg (fun _ => False) w W → E w.heap.size W := fun W hW => E_on (hW.below (Nat.le_refl _) (fun _ h => h.elim)) hE
  have haw := fun (W : World) (hW : Chg (fun _ => False) w W) => awake_any w.heap.size W hW.size (hEE W hW)
  have hvv := fun (W : World) (hW : Chg (fun _ => False) w W) => hv.chg hW (fun _ _ _ h => h)
  have hv0 := hv
  obtain ⟨A1, c1, B1, d1, rfl, _, _⟩ := hv0
  have hhv := fun (W : World) (hW : Chg (fun _ => False) w W) (C : Option Addr) (cc : Nat) (hr : Rd W (fun _ => True) 1 C 1 [.slice Aa a.length ca]) =>
    heavy_any (fun _ => True) p.kind p.n A1 B1 p.a.length c1 p.b.length d1 A C ci cc ins [(Aa, a.length, ca)] W hla hlb hil (hins.chg hW (fun _ _ _ h => h)) hbl hr (by simp) (by
      intro c hc
      simp at hc
      subst hc
      exact hal)
  have hst : Blk (w.alloc (.cells #[.int .i64 p.kind, .int .i64 p.n, .slice A1 p.a.length c1, .slice B1 p.b.length d1] 24)) w.heap.size 24 #[.int .i64 p.kind, .int .i64 p.n, .slice A1 p.a.length c1, .slice B1 p.b.length d1] := Blk.new _ _ _
  generalize hh : heavyB p.a.length p.b.length ins [(Aa, a.length, ca)] = hβ at *
  replace haw := Lib.hid haw
  replace hhv := Lib.hid hhv
  cases hβ
  · have hsz := heavyB_false hh
    have hp : p.Fine := ⟨hn0, hn1, by omega, by omega⟩
    have hfit := fun (W : World) (hW : Chg (fun _ => False) w W) => fit_any (fun _ => True) p hp _ W (hvv W hW) A ins.length ci
    generalize hf : fitB p ins.length = fβ at *
    cases fβ
    · replace hfit := Lib.hid hfit
      clear hv hins hbl ha hE hEE hvv hh hf hsz hp
      go_enter Try.func9, Try.ntmps9
      go_wp2_with (first
        | (go_at_call 24
           refine (hhv.out _ (((Chg.refl _ _).alloc _).alloc _) _ _ (row_new _ 1 rfl (by simp))).mono ?_
           rintro e1 w1 ⟨rfl, hc1⟩
           have hb1 := (hst.alloc _).chg hc1 (fun h => h)
           have q0 : w1.cell? ⟨w.heap.size, 0, none⟩ = some (.int .i64 p.kind) := (hb1.cell 0).trans rfl
           have q1 : w1.cell? ⟨w.heap.size, 1, none⟩ = some (.int .i64 p.n) := (hb1.cell 1).trans rfl
           have q2 : w1.cell? ⟨w.heap.size, 2, none⟩ = some (.slice A1 p.a.length c1) := (hb1.cell 2).trans rfl
           have q3 : w1.cell? ⟨w.heap.size, 3, none⟩ = some (.slice B1 p.b.length d1) := (hb1.cell 3).trans rfl
           have k1 : Chg (fun _ => False) w w1 := (((Chg.refl _ _).alloc _).alloc _).trans hc1 (fun _ h _ => h))
        | (go_at_call 25
           refine (hfit.out _ k1).mono ?_
           rintro e2 w2 ⟨rfl, hc2⟩
           have hb2' := hb1.chg hc2 (fun h => h)
           have r0 : w2.cell? ⟨w.heap.size, 0, none⟩ = some (.int .i64 p.kind) := (hb2'.cell 0).trans rfl
           have r1 : w2.cell? ⟨w.heap.size, 1, none⟩ = some (.int .i64 p.n) := (hb2'.cell 1).trans rfl
           have r2 : w2.cell? ⟨w.heap.size, 2, none⟩ = some (.slice A1 p.a.length c1) := (hb2'.cell 2).trans rfl
           have r3 : w2.cell? ⟨w.heap.size, 3, none⟩ = some (.slice B1 p.b.length d1) := (hb2'.cell 3).trans rfl
           have k2 : Chg (fun _ => False) w w2 := k1.trans hc2 (fun _ h _ => h))
        | (go_at_call 26
           refine (haw.out _ k2).mono ?_
           rintro e9 w9 ⟨rfl, hc9⟩))
      go_ret
      exact ⟨rfl, k2.trans hc9 (fun _ h _ => h)⟩
    · have hI := fitB_true hf
      have hd1 := drive_ok p ins hI (fun s hs => by have := hsz.2.2.2.1 s hs; omega) a
      have hnew := fun (W : World) (hW : Chg (fun _ => False) w W) (u : Value) (D : Nat → Prop) (hu : PAt W D u p) => new_any D p hI.1 u W hu w.heap.size hW.size (hEE W hW)
      have hil2 := fun (W : World) (hW : Chg (fun _ => False) w W) => (hins.mono (D' := fun k => k < w.heap.size) (fun k _ hk => hk)).chg hW (fun _ _ _ h => h)
      have ha2 := fun (W : World) (hW : Chg (fun _ => False) w W) => (ha.mono (D' := fun k => k < w.heap.size) (fun k _ hk => hk)).chg hW (fun _ _ _ h => h)
      have hcla : a.length ≤ 100000 := by have := hsz.2.2.2.2 (Aa, a.length, ca) (by simp); dsimp only at this; omega
      have hbl3 : ∀ x ∈ ins, x.bs.length ≤ 1000000 := fun x hx => by have := hsz.2.2.2.1 x hx; omega
      have hnil := nil_no
      have hcp := fun (W : World) (hW : Chg (fun _ => False) w W) => copy_params_any (fun _ => True) p hp _ W (hvv W hW)
      have hl10 : ∀ s ∈ ins, s.bs.length ≤ 10000 := fun s hs => by have := hsz.2.2.2.1 s hs; omega
      have hmn := fun (W : World) (hW : Chg (fun _ => False) w W) => means_any (fun _ => True) p ins hI hl10 _ A ci W (hvv W hW) (hins.chg hW (fun _ _ _ h => h))
      have hso := same_ok p ins hI hl10
      have hml := means_len p ins hI
      have hsm := fun (held : Int) (taken : Nat → Nat) (C : Option Addr) (cc : Nat) (W : World) (hW : Chg (fun _ => False) w W) (hw : StrmsAt W (fun _ => True) (.slice C (means p ins).length cc) (means p ins)) =>
        same_any (fun _ => True) (den p ins).outs (den p ins).need (den p ins).err held taken ins (means p ins) A C ci cc W (hins.chg hW (fun _ _ _ h => h)) hw hml hso.1 hso.2
      replace hcp := Lib.hid hcp
      replace hmn := Lib.hid hmn
      replace hsm := Lib.hid hsm
      clear hl10 hso hml
      replace hfit := Lib.hid hfit
      replace hd1 := Lib.hid hd1
      replace hnew := Lib.hid hnew
      replace hil2 := Lib.hid hil2
      replace ha2 := Lib.hid ha2
      replace hcla := Lib.hid hcla
      replace hbl3 := Lib.hid hbl3
      replace hvv := Lib.hid hvv
      clear hv hins hbl ha hE hEE hh hf hsz hp hI
      go_enter Try.func9, Try.ntmps9
      go_wp2_with (first
        | (go_at_call 24
           refine (hhv.out _ (((Chg.refl _ _).alloc _).alloc _) _ _ (row_new _ 1 rfl (by simp))).mono ?_
           rintro e1 w1 ⟨rfl, hc1⟩
           have hb1 := (hst.alloc _).chg hc1 (fun h => h)
           have q0 : w1.cell? ⟨w.heap.size, 0, none⟩ = some (.int .i64 p.kind) := (hb1.cell 0).trans rfl
           have q1 : w1.cell? ⟨w.heap.size, 1, none⟩ = some (.int .i64 p.n) := (hb1.cell 1).trans rfl
           have q2 : w1.cell? ⟨w.heap.size, 2, none⟩ = some (.slice A1 p.a.length c1) := (hb1.cell 2).trans rfl
           have q3 : w1.cell? ⟨w.heap.size, 3, none⟩ = some (.slice B1 p.b.length d1) := (hb1.cell 3).trans rfl
           have k1 : Chg (fun _ => False) w w1 := (((Chg.refl _ _).alloc _).alloc _).trans hc1 (fun _ h _ => h))
        | (go_at_call 25
           refine (hfit.out _ k1).mono ?_
           rintro e2 w2 ⟨rfl, hc2⟩
           have hb2' := hb1.chg hc2 (fun h => h)
           have r0 : w2.cell? ⟨w.heap.size, 0, none⟩ = some (.int .i64 p.kind) := (hb2'.cell 0).trans rfl
           have r1 : w2.cell? ⟨w.heap.size, 1, none⟩ = some (.int .i64 p.n) := (hb2'.cell 1).trans rfl
           have r2 : w2.cell? ⟨w.heap.size, 2, none⟩ = some (.slice A1 p.a.length c1) := (hb2'.cell 2).trans rfl
           have r3 : w2.cell? ⟨w.heap.size, 3, none⟩ = some (.slice B1 p.b.length d1) := (hb2'.cell 3).trans rfl
           have k2 : Chg (fun _ => False) w w2 := k1.trans hc2 (fun _ h _ => h))
        | (go_at_call 21
           refine (hcp.out w2 k2).mono ?_
           intro e3 w3 hc3
           obtain ⟨v3, rfl, hp3, hb3⟩ := hc3
           have k3 : Chg (fun _ => False) w w3 := k2.trans (Chg.of_below (S := fun _ => False) hb3) (fun _ h _ => h)
           have hb3' := hb2'.chg (Chg.of_below (S := fun _ => False) hb3) (fun h => h))
        | (go_at_call 27
           refine (hnew.out w3 k3 _ _ hp3).mono ?_
           rintro e4 w4 ⟨m1, F1, rfl, hr1, hF1, hc4⟩
           have hb4' := hb3'.chg hc4 (fun h => h)
           have k4 : Chg (fun _ => False) w w4 := k3.trans hc4 (fun _ h _ => h))
        | (go_at_call 28
           refine (drive_ready hr1 ins a _ _ hd1.out _ _ _ _ (fun k => k < w.heap.size) (hil2.out w4 k4) (ha2.out w4 k4) ?_ hcla.out hbl3.out).mono ?_
           rotate_left 1
           rintro e5 w5 ⟨dd1, F3, rfl, hh1, hh01, hc5, hr3, hF3⟩
           have hF1w : ∀ k, F1 k → w.heap.size ≤ k ∧ k ≠ w.heap.size := fun k hk => by have := hF1 k hk; have := k3.size; have := hb3'.lt; exact ⟨by omega, by omega⟩
           have k5 : Chg (fun _ => False) w w5 := k4.trans hc5 (fun k hk hlt => by have := (hF1w k hk).1; omega)
           have hb5' := hb4'.chg hc5 (fun h => (hF1w _ h).2 rfl)
           clear hh1 hh01 hr3 hF3)
        | (refine wpList_store_got rfl (.tmp 9) (.tmp 37) rfl w5.heap.size _ _ _ _ _ _ rfl rfl _ (Blk.new w5 _ _) rfl ?_
           intro wq hGq hc6
           have k56 : Chg (fun _ => False) w5 wq := ((Chg.refl _ _).alloc _).trans hc6 (fun k hk hlt => by omega)
           have kq : Chg (fun _ => False) w wq := k5.trans k56 (fun _ h _ => h)
           have hPq := hb5'.chg k56 (fun h => h)))
      · generalize hgg : w5.heap.size = gg at *
        generalize hgp : w.heap.size = gp at *
        have hS1q : ∀ W, Chg (fun _ => False) wq W → W.cell? ⟨gg, 0, none⟩ = some (strv ((den p ins).outs 0)) ∧ W.cell? ⟨gg, 1, none⟩ = some (strv ((den p ins).outs 1)) ∧ W.cell? ⟨gg, 2, none⟩ = some (strv ((den p ins).outs 2)) ∧ W.cell? ⟨gg, 3, none⟩ = some (strv ((den p ins).outs 3)) ∧ W.cell? ⟨gg, 4, none⟩ = some (.int .i64 (den p ins).need) ∧ W.cell? ⟨gg, 5, none⟩ = some (.int .i64 (den p ins).err) ∧ W.cell? ⟨gg, 6, none⟩ = some (.int .i64 dd1.held) ∧ W.cell? ⟨gg, 7, none⟩ = some (.int .i64 (dd1.taken 0)) ∧ W.cell? ⟨gg, 8, none⟩ = some (.int .i64 (dd1.taken 1)) ∧ W.cell? ⟨gg, 9, none⟩ = some (.int .i64 (dd1.taken 2)) ∧ W.cell? ⟨gg, 10, none⟩ = some (.int .i64 (dd1.taken 3)) ∧ W.cell? ⟨gg, 11, none⟩ = some (.bool false) ∧ W.cell? ⟨gp, 0, none⟩ = some (.int .i64 p.kind) ∧ W.cell? ⟨gp, 1, none⟩ = some (.int .i64 p.n) ∧ W.cell? ⟨gp, 2, none⟩ = some (.slice A1 p.a.length c1) ∧ W.cell? ⟨gp, 3, none⟩ = some (.slice B1 p.b.length d1) ∧ Chg (fun _ => False) wq W := fun W hW0 => by
          have hGq := hGq.chg hW0 (fun h => h)
          have hPq := hPq.chg hW0 (fun h => h)
          have hW := hW0
          exact ⟨(hGq.cell 0).trans rfl, (hGq.cell 1).trans rfl, (hGq.cell 2).trans rfl, (hGq.cell 3).trans rfl, (hGq.cell 4).trans rfl, (hGq.cell 5).trans rfl, (hGq.cell 6).trans rfl, (hGq.cell 7).trans rfl, (hGq.cell 8).trans rfl, (hGq.cell 9).trans rfl, (hGq.cell 10).trans rfl, (hGq.cell 11).trans rfl, (hPq.cell 0).trans rfl, (hPq.cell 1).trans rfl, (hPq.cell 2).trans rfl, (hPq.cell 3).trans rfl, hW⟩
        have c0 := Chg.refl (fun _ => False) wq
        have hSq := hS1q wq c0
        have hmnq := fun (W : World) (hW : Chg (fun _ => False) wq W) => hmn.out W (kq.trans hW (fun _ h _ => h))
        have hawq := fun (W : World) (hW : Chg (fun _ => False) wq W) => haw.out W (kq.trans hW (fun _ h _ => h))
        have hsmq := fun (C : Option Addr) (cc : Nat) (W : World) (hW : Chg (fun _ => False) wq W) (hw : StrmsAt W (fun _ => True) (.slice C (means p ins).length cc) (means p ins)) => hsm.out dd1.held dd1.taken C cc W (kq.trans hW (fun _ h _ => h)) hw
        replace hmnq := Lib.hid hmnq
        replace hawq := Lib.hid hawq
        replace hsmq := Lib.hid hsmq
        clear hGq hPq hb1 hb2' hb3' hb4' hb5' hst
        go_region_held3 (fun W => W.cell? ⟨gg, 0, none⟩ = some (strv ((den p ins).outs 0)) ∧ W.cell? ⟨gg, 1, none⟩ = some (strv ((den p ins).outs 1)) ∧ W.cell? ⟨gg, 2, none⟩ = some (strv ((den p ins).outs 2)) ∧ W.cell? ⟨gg, 3, none⟩ = some (strv ((den p ins).outs 3)) ∧ W.cell? ⟨gg, 4, none⟩ = some (.int .i64 (den p ins).need) ∧ W.cell? ⟨gg, 5, none⟩ = some (.int .i64 (den p ins).err) ∧ W.cell? ⟨gg, 6, none⟩ = some (.int .i64 dd1.held) ∧ W.cell? ⟨gg, 7, none⟩ = some (.int .i64 (dd1.taken 0)) ∧ W.cell? ⟨gg, 8, none⟩ = some (.int .i64 (dd1.taken 1)) ∧ W.cell? ⟨gg, 9, none⟩ = some (.int .i64 (dd1.taken 2)) ∧ W.cell? ⟨gg, 10, none⟩ = some (.int .i64 (dd1.taken 3)) ∧ W.cell? ⟨gg, 11, none⟩ = some (.bool false) ∧ W.cell? ⟨gp, 0, none⟩ = some (.int .i64 p.kind) ∧ W.cell? ⟨gp, 1, none⟩ = some (.int .i64 p.n) ∧ W.cell? ⟨gp, 2, none⟩ = some (.slice A1 p.a.length c1) ∧ W.cell? ⟨gp, 3, none⟩ = some (.slice B1 p.b.length d1) ∧ Chg (fun _ => False) wq W)
          (first
            | exact hSq
            | with_reducible exact hS1q _ c0.drew
            | with_reducible exact hS1q _ dX
            | with_reducible exact hS1q _ dY
            | with_reducible exact hS1q _ dZ)
          (first
            | (go_at_call 35
               go_split_ands
               refine (hmnq.out _ (by first | assumption | exact Chg.drew (by assumption))).mono ?_
               intro e7 w7 ho7
               obtain ⟨v7, rfl, hs7, hb7⟩ := ho7
               obtain ⟨C7, c7, its7, rfl, h71, h72, h73⟩ := hs7
               have dX : Chg (fun _ => False) wq w7 := Chg.trans (by first | assumption | exact Chg.drew (by assumption)) (Chg.of_below (S := fun _ => False) hb7) (fun _ h _ => h)
               have hs7 := Lib.hid (show StrmsAt w7 _ (.slice C7 (means p ins).length c7) (means p ins) from ⟨C7, c7, its7, rfl, h71, h72, h73⟩)
               clear h71 h72 h73)
            | (go_at_call 34
               go_split_ands
               refine (hsmq.out C7 c7 w7 dX (hs7.out.mono (fun _ _ _ => trivial))).mono ?_
               intro e8 w8 ho8
               obtain ⟨rfl, hc8⟩ := ho8
               have dY : Chg (fun _ => False) wq w8 := dX.trans hc8 (fun _ h _ => h))
            | (go_at_call 26
               go_split_ands
               refine (hawq.out w8 dY).mono ?_
               intro e9 w9 ho9
               obtain ⟨rfl, hc9⟩ := ho9
               have dZ : Chg (fun _ => False) wq w9 := dY.trans hc9 (fun _ h _ => h)))
        go_wp2
        go_ret
        exact ⟨rfl, kq.trans dZ (fun _ h _ => h)⟩
      · exact fun k hk hF => by have := hF1 k hF; have := k3.size; omega
  · clear hv hins hbl ha hE hEE hvv hh
    go_enter Try.func9, Try.ntmps9
    go_wp2_with (first
      | (go_at_call 24
         refine (hhv.out _ (((Chg.refl _ _).alloc _).alloc _) _ _ (row_new _ 1 rfl (by simp))).mono ?_
         rintro e1 w1 ⟨rfl, hc1⟩
         have hb1 := (hst.alloc _).chg hc1 (fun h => h)
         have q0 : w1.cell? ⟨w.heap.size, 0, none⟩ = some (.int .i64 p.kind) := (hb1.cell 0).trans rfl
         have q1 : w1.cell? ⟨w.heap.size, 1, none⟩ = some (.int .i64 p.n) := (hb1.cell 1).trans rfl
         have q2 : w1.cell? ⟨w.heap.size, 2, none⟩ = some (.slice A1 p.a.length c1) := (hb1.cell 2).trans rfl
         have q3 : w1.cell? ⟨w.heap.size, 3, none⟩ = some (.slice B1 p.b.length d1) := (hb1.cell 3).trans rfl
         have k1 : Chg (fun _ => False) w w1 := (((Chg.refl _ _).alloc _).alloc _).trans hc1 (fun _ h _ => h))
      | (go_at_call 26
         refine (haw.out _ k1).mono ?_
         rintro e9 w9 ⟨rfl, hc9⟩))
    go_ret
    exact ⟨rfl, k1.trans hc9 (fun _ h _ => h)⟩
end Go.Proofs.Ytamhebjejgcbjaa.Paste
