/- JoinHolds. -/
import Derived.Test.YtamhebjejgcbjaaJoinAwake
namespace Go.Proofs.Ytamhebjejgcbjaa.Join
open Go Go.RowKit

set_option maxHeartbeats 4000000 in
set_option maxRecDepth 100000 in
theorem holds_law (p : Prm) (ins : List Strm) (a : List Int) (v : Value) (A Aa : Option Addr) (ci ca : Nat) (w : World)
    (hn0 : -9223372036854775808 ≤ p.n) (hn1 : p.n ≤ 9223372036854775807) (hla : p.a.length ≤ maxLen) (hlb : p.b.length ≤ maxLen) (hv : PAt w (fun _ => True) v p)
    (hil : ins.length ≤ maxLen) (hins : StrmsAt w (fun _ => True) (.slice A ins.length ci) ins) (hbl : ∀ s ∈ ins, s.bs.length ≤ maxLen)
    (hal : a.length ≤ maxLen) (ha : Rd w (fun _ => True) 1 Aa a.length (i64s a)) (hE : E w.heap.size w) :
    Calls Try.prog 13 #[v, .slice A ins.length ci, .slice Aa a.length ca] w (TruePost w) := by
  have hEE : ∀ W, Chg (fun _ => False) w W → E w.heap.size W := fun W hW => E_on (hW.below (Nat.le_refl _) (fun _ h => h.elim)) hE
  have haw := fun (W : World) (hW : Chg (fun _ => False) w W) => awake_any w.heap.size W hW.size (hEE W hW)
  have hvv := fun (W : World) (hW : Chg (fun _ => False) w W) => hv.chg hW (fun _ _ _ h => h)
  have hv0 := hv
  obtain ⟨A1, c1, B1, d1, rfl, _, _⟩ := hv0
  have hhv := fun (W : World) (hW : Chg (fun _ => False) w W) (C : Option Addr) (cc : Nat) (hr : Rd W (fun _ => True) 1 C 1 [.slice Aa a.length ca]) =>
    heavy_any (fun _ => True) p.kind p.n A1 B1 p.a.length c1 p.b.length d1 A C ci cc ins [(Aa, a.length, ca)] W hla hlb hil (hins.chg hW (fun _ _ _ h => h)) hbl hr (by simp) (by
      intro c hc
      simp at hc
      subst hc
      exact hal)
  have hst : Blk (w.alloc (.cells #[.int .i64 p.kind, .int .i64 p.n, .slice A1 p.a.length c1, .slice B1 p.b.length d1] 24)) w.heap.size 24 #[.int .i64 p.kind, .int .i64 p.n, .slice A1 p.a.length c1, .slice B1 p.b.length d1] := Blk.new _ _ _
  generalize hh : heavyB p.a.length p.b.length ins [(Aa, a.length, ca)] = hβ at *
  replace haw := Lib.hid haw
  replace hhv := Lib.hid hhv
  cases hβ
  · have hsz := heavyB_false hh
    have hp : p.Fine := ⟨hn0, hn1, by omega, by omega⟩
    have hfit := fun (W : World) (hW : Chg (fun _ => False) w W) => fit_any (fun _ => True) p hp _ W (hvv W hW) A ins.length ci
    generalize hf : fitB p ins.length = fβ at *
    cases fβ
    · replace hfit := Lib.hid hfit
      clear hv hins hbl ha hE hEE hvv hh hf hsz hp
      go_enter Try.func13, Try.ntmps13
      go_wp2_with (first
        | (go_at_call 37
           refine (hhv.out _ (((Chg.refl _ _).alloc _).alloc _) _ _ (row_new _ 1 rfl (by simp))).mono ?_
           rintro e1 w1 ⟨rfl, hc1⟩
           have hb1 := (hst.alloc _).chg hc1 (fun h => h)
           have q0 : w1.cell? ⟨w.heap.size, 0, none⟩ = some (.int .i64 p.kind) := (hb1.cell 0).trans rfl
           have q1 : w1.cell? ⟨w.heap.size, 1, none⟩ = some (.int .i64 p.n) := (hb1.cell 1).trans rfl
           have q2 : w1.cell? ⟨w.heap.size, 2, none⟩ = some (.slice A1 p.a.length c1) := (hb1.cell 2).trans rfl
           have q3 : w1.cell? ⟨w.heap.size, 3, none⟩ = some (.slice B1 p.b.length d1) := (hb1.cell 3).trans rfl
           have k1 : Chg (fun _ => False) w w1 := (((Chg.refl _ _).alloc _).alloc _).trans hc1 (fun _ h _ => h))
        | (go_at_call 40
           refine (hfit.out _ k1).mono ?_
           rintro e2 w2 ⟨rfl, hc2⟩
           have hb2' := hb1.chg hc2 (fun h => h)
           have r0 : w2.cell? ⟨w.heap.size, 0, none⟩ = some (.int .i64 p.kind) := (hb2'.cell 0).trans rfl
           have r1 : w2.cell? ⟨w.heap.size, 1, none⟩ = some (.int .i64 p.n) := (hb2'.cell 1).trans rfl
           have r2 : w2.cell? ⟨w.heap.size, 2, none⟩ = some (.slice A1 p.a.length c1) := (hb2'.cell 2).trans rfl
           have r3 : w2.cell? ⟨w.heap.size, 3, none⟩ = some (.slice B1 p.b.length d1) := (hb2'.cell 3).trans rfl
           have k2 : Chg (fun _ => False) w w2 := k1.trans hc2 (fun _ h _ => h))
        | (go_at_call 38
           refine (haw.out _ k2).mono ?_
           rintro e9 w9 ⟨rfl, hc9⟩))
      go_ret
      exact ⟨rfl, k2.trans hc9 (fun _ h _ => h)⟩
    · have hI := fitB_true hf
      have hd1 := drive_ok p ins hI (fun s hs => by have := hsz.2.2.2.1 s hs; omega) a
      have hnew := fun (W : World) (hW : Chg (fun _ => False) w W) (u : Value) (D : Nat → Prop) (hu : PAt W D u p) => new_any D p hI.1 u W hu w.heap.size hW.size (hEE W hW)
      have hil2 := fun (W : World) (hW : Chg (fun _ => False) w W) => (hins.mono (D' := fun k => k < w.heap.size) (fun k _ hk => hk)).chg hW (fun _ _ _ h => h)
      have ha2 := fun (W : World) (hW : Chg (fun _ => False) w W) => (ha.mono (D' := fun k => k < w.heap.size) (fun k _ hk => hk)).chg hW (fun _ _ _ h => h)
      have hcla : a.length ≤ 100000 := by have := hsz.2.2.2.2 (Aa, a.length, ca) (by simp); dsimp only at this; omega
      have hbl3 : ∀ x ∈ ins, x.bs.length ≤ 1000000 := fun x hx => by have := hsz.2.2.2.1 x hx; omega
      have hnil := nil_no
      have hbd := fun (W : World) (hW : Chg (fun _ => False) w W) => bound_ok (fun _ => True) p hp hI.1.1 (refRow_of hI.1.1) _ W (hvv W hW)
      have hle := bound_le p hI.1
      replace hbd := Lib.hid hbd
      replace hle := Lib.hid hle
      replace hfit := Lib.hid hfit
      replace hd1 := Lib.hid hd1
      replace hnew := Lib.hid hnew
      replace hil2 := Lib.hid hil2
      replace ha2 := Lib.hid ha2
      replace hcla := Lib.hid hcla
      replace hbl3 := Lib.hid hbl3
      replace hvv := Lib.hid hvv
      clear hv hins hbl ha hE hEE hh hf hsz hp hI
      go_enter Try.func13, Try.ntmps13
      go_wp2_with (first
        | (go_at_call 37
           refine (hhv.out _ (((Chg.refl _ _).alloc _).alloc _) _ _ (row_new _ 1 rfl (by simp))).mono ?_
           rintro e1 w1 ⟨rfl, hc1⟩
           have hb1 := (hst.alloc _).chg hc1 (fun h => h)
           have q0 : w1.cell? ⟨w.heap.size, 0, none⟩ = some (.int .i64 p.kind) := (hb1.cell 0).trans rfl
           have q1 : w1.cell? ⟨w.heap.size, 1, none⟩ = some (.int .i64 p.n) := (hb1.cell 1).trans rfl
           have q2 : w1.cell? ⟨w.heap.size, 2, none⟩ = some (.slice A1 p.a.length c1) := (hb1.cell 2).trans rfl
           have q3 : w1.cell? ⟨w.heap.size, 3, none⟩ = some (.slice B1 p.b.length d1) := (hb1.cell 3).trans rfl
           have k1 : Chg (fun _ => False) w w1 := (((Chg.refl _ _).alloc _).alloc _).trans hc1 (fun _ h _ => h))
        | (go_at_call 40
           refine (hfit.out _ k1).mono ?_
           rintro e2 w2 ⟨rfl, hc2⟩
           have hb2' := hb1.chg hc2 (fun h => h)
           have r0 : w2.cell? ⟨w.heap.size, 0, none⟩ = some (.int .i64 p.kind) := (hb2'.cell 0).trans rfl
           have r1 : w2.cell? ⟨w.heap.size, 1, none⟩ = some (.int .i64 p.n) := (hb2'.cell 1).trans rfl
           have r2 : w2.cell? ⟨w.heap.size, 2, none⟩ = some (.slice A1 p.a.length c1) := (hb2'.cell 2).trans rfl
           have r3 : w2.cell? ⟨w.heap.size, 3, none⟩ = some (.slice B1 p.b.length d1) := (hb2'.cell 3).trans rfl
           have k2 : Chg (fun _ => False) w w2 := k1.trans hc2 (fun _ h _ => h))
        | (go_at_call 39
           refine (hnew.out w2 k2 _ _ (hvv.out w2 k2)).mono ?_
           rintro e3 w3 ⟨m1, F1, rfl, hr1, hF1, hc3⟩
           have hb3' := hb2'.chg hc3 (fun h => h)
           have s0 : w3.cell? ⟨w.heap.size, 0, none⟩ = some (.int .i64 p.kind) := (hb3'.cell 0).trans rfl
           have s1 : w3.cell? ⟨w.heap.size, 1, none⟩ = some (.int .i64 p.n) := (hb3'.cell 1).trans rfl
           have s2 : w3.cell? ⟨w.heap.size, 2, none⟩ = some (.slice A1 p.a.length c1) := (hb3'.cell 2).trans rfl
           have s3 : w3.cell? ⟨w.heap.size, 3, none⟩ = some (.slice B1 p.b.length d1) := (hb3'.cell 3).trans rfl
           have k3 : Chg (fun _ => False) w w3 := k2.trans hc3 (fun _ h _ => h))
        | (go_at_call 33
           refine (hbd.out _ k3).mono ?_
           rintro e4 w4 ⟨rfl, hc4⟩
           have k4 : Chg (fun _ => False) w w4 := k3.trans hc4 (fun _ h _ => h))
        | (go_at_call 28
           refine (drive_ready (hr1.chg hc4 (fun _ _ h => h) (fun _ h => h.elim)) ins a _ _ hd1.out _ _ _ _ (fun k => k < w.heap.size) (hil2.out w4 k4) (ha2.out w4 k4) ?_ hcla.out hbl3.out).mono ?_
           rotate_left 1
           rintro e5 w5 ⟨dd1, F3, rfl, hh1, hh01, hc5, hr3, hF3⟩
           have hF1w : ∀ k, F1 k → w.heap.size ≤ k := fun k hk => by have := hF1 k hk; have := k2.size; omega
           have k5 : Chg (fun _ => False) w w5 := k4.trans hc5 (fun k hk hlt => by have := hF1w k hk; omega)
           have hlt3 := hr3.inside.2.1
           obtain ⟨fH, rH, q, hq, mH, eH, hHd⟩ := hr3.heldM
           replace hHd := Lib.hid hHd
           have t2 : 0 ≤ q := by rw [hq]; exact hh01
           clear hq hh01
           have t1 : dd1.held ≤ refHolds p := Int.le_trans hh1 hle.out)
        | (refine wpList_store_got rfl (.tmp 11) (.tmp 43) rfl w5.heap.size _ _ _ _ _ _ rfl rfl _ (Blk.new w5 _ _) rfl ?_
           intro w6 hG6 hc6
           have k56 : Chg (fun _ => False) w5 w6 := ((Chg.refl _ _).alloc _).trans hc6 (fun k hk hlt => by omega)
           have k6 : Chg (fun _ => False) w w6 := k5.trans k56 (fun _ h _ => h)
           have g3 : w6.cell? ⟨w5.heap.size, 6, none⟩ = some (.int .i64 dd1.held) := (hG6.cell 6).trans rfl)
        | (refine (hHd.out w6 k56).mono ?_
           rintro e7 w7 ⟨rfl, hc7⟩
           have k7 : Chg (fun _ => False) w w7 := k6.trans hc7 (fun _ h _ => h))
        | (go_at_call 38
           refine (haw.out _ k7).mono ?_
           rintro e9 w9 ⟨rfl, hc9⟩))
      · go_ret
        exact ⟨rfl, k7.trans hc9 (fun _ h _ => h)⟩
      · exact fun k hk hF => by have := hF1 k hF; have := k2.size; omega
  · clear hv hins hbl ha hE hEE hvv hh
    go_enter Try.func13, Try.ntmps13
    go_wp2_with (first
      | (go_at_call 37
         refine (hhv.out _ (((Chg.refl _ _).alloc _).alloc _) _ _ (row_new _ 1 rfl (by simp))).mono ?_
         rintro e1 w1 ⟨rfl, hc1⟩
         have hb1 := (hst.alloc _).chg hc1 (fun h => h)
         have q0 : w1.cell? ⟨w.heap.size, 0, none⟩ = some (.int .i64 p.kind) := (hb1.cell 0).trans rfl
         have q1 : w1.cell? ⟨w.heap.size, 1, none⟩ = some (.int .i64 p.n) := (hb1.cell 1).trans rfl
         have q2 : w1.cell? ⟨w.heap.size, 2, none⟩ = some (.slice A1 p.a.length c1) := (hb1.cell 2).trans rfl
         have q3 : w1.cell? ⟨w.heap.size, 3, none⟩ = some (.slice B1 p.b.length d1) := (hb1.cell 3).trans rfl
         have k1 : Chg (fun _ => False) w w1 := (((Chg.refl _ _).alloc _).alloc _).trans hc1 (fun _ h _ => h))
      | (go_at_call 38
         refine (haw.out _ k1).mono ?_
         rintro e9 w9 ⟨rfl, hc9⟩))
    go_ret
    exact ⟨rfl, k1.trans hc9 (fun _ h _ => h)⟩
end Go.Proofs.Ytamhebjejgcbjaa.Join
