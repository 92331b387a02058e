/- JoinChunks: of any input, any two ways to cut it. -/
import Derived.Test.YtamhebjejgcbjaaJoinAwake
import Derived.Laws.StructEq
namespace Go.Proofs.Ytamhebjejgcbjaa.Join
open Go Go.RowKit

theorem info_got' : (Try.prog.info? 42).map (·.size) = some 12 := by kernel_rfl

theorem eq_outs (a b c d : Bs) (w : World) : (Op.equalIn 10000 39 (.agg #[strv a, strv b, strv c, strv d]) (.agg #[strv a, strv b, strv c, strv d])).run Try.prog w = .ok true w := by
  have u3 := Try.underlying9
  have a3 := Try.isAgg9
  have z3 := Try.sizeOf9
  rw [show (10000 : Nat) = 9999 + 1 from rfl, Op.equalIn]
  simp only [Sem.run_bind, run_underlying Try.underlying39, Result.andThen_ok]
  simp only [Std.Legacy.Range.forIn_eq_forIn_range', Std.Legacy.Range.size, Nat.sub_zero, Nat.add_sub_cancel, Nat.div_one, List.range'_succ, List.range'_zero, List.forIn_cons, List.forIn_nil]
  go_simp

theorem true_of_bool {w : World} {e : Ending} {w' : World} (h : TruePost w e w') : TruePost w e w' := h

set_option maxHeartbeats 4000000 in
set_option maxRecDepth 100000 in
theorem chunks_any (p : Prm) (ins : List Strm) (a b : List Int) (v : Value) (A Aa Ab : Option Addr) (ci ca cb : Nat) (w : World)
    (hn0 : -9223372036854775808 ≤ p.n) (hn1 : p.n ≤ 9223372036854775807) (hla : p.a.length ≤ maxLen) (hlb : p.b.length ≤ maxLen) (hv : PAt w (fun _ => True) v p)
    (hil : ins.length ≤ maxLen) (hins : StrmsAt w (fun _ => True) (.slice A ins.length ci) ins) (hbl : ∀ s ∈ ins, s.bs.length ≤ maxLen)
    (hal : a.length ≤ maxLen) (ha : Rd w (fun _ => True) 1 Aa a.length (i64s a)) (hbl2 : b.length ≤ maxLen) (hb : Rd w (fun _ => True) 1 Ab b.length (i64s b)) (hE : E w.heap.size w) :
    Calls Try.prog 15 #[v, .slice A ins.length ci, .slice Aa a.length ca, .slice Ab b.length cb] w (TruePost w) := by
  have hEE : ∀ W, Chg (fun _ => False) w W → E w.heap.size W := fun W hW => E_on (hW.below (Nat.le_refl _) (fun _ h => h.elim)) hE
  have haw := fun (W : World) (hW : Chg (fun _ => False) w W) => awake_any w.heap.size W hW.size (hEE W hW)
  have hvv := fun (W : World) (hW : Chg (fun _ => False) w W) => hv.chg hW (fun _ _ _ h => h)
  have hv0 := hv
  obtain ⟨A1, c1, B1, d1, rfl, _, _⟩ := hv0
  have hhv := fun (W : World) (hW : Chg (fun _ => False) w W) (C : Option Addr) (cc : Nat) (hr : Rd W (fun _ => True) 1 C 2 [.slice Aa a.length ca, .slice Ab b.length cb]) =>
    heavy_any (fun _ => True) p.kind p.n A1 B1 p.a.length c1 p.b.length d1 A C ci cc ins [(Aa, a.length, ca), (Ab, b.length, cb)] W hla hlb hil (hins.chg hW (fun _ _ _ h => h)) hbl hr (by simp) (by
      intro c hc
      simp at hc
      rcases hc with rfl | rfl
      · exact hal
      · exact hbl2)
  have hst : Blk (w.alloc (.cells #[.int .i64 p.kind, .int .i64 p.n, .slice A1 p.a.length c1, .slice B1 p.b.length d1] 24)) w.heap.size 24 #[.int .i64 p.kind, .int .i64 p.n, .slice A1 p.a.length c1, .slice B1 p.b.length d1] := Blk.new _ _ _
  generalize hh : heavyB p.a.length p.b.length ins [(Aa, a.length, ca), (Ab, b.length, cb)] = hβ at *
  replace haw := Lib.hid haw
  replace hhv := Lib.hid hhv
  cases hβ
  · have hsz := heavyB_false hh
    have hp : p.Fine := ⟨hn0, hn1, by omega, by omega⟩
    have hfit := fun (W : World) (hW : Chg (fun _ => False) w W) => fit_any (fun _ => True) p hp _ W (hvv W hW) A ins.length ci
    generalize hf : fitB p ins.length = fβ at *
    cases fβ
    · have hfit := Lib.hid hfit
      clear hv hins hbl ha hb hE hEE hvv hh hf hsz hp
      go_enter Try.func15, Try.ntmps15
      go_wp2_with (first
        | (go_at_call 37
           refine (hhv.out _ (((Chg.refl _ _).alloc _).alloc _) _ _ (row_new _ 2 rfl (by simp))).mono ?_
           rintro e1 w1 ⟨rfl, hc1⟩
           have hb1 := (hst.alloc _).chg hc1 (fun h => h)
           have q0 : w1.cell? ⟨w.heap.size, 0, none⟩ = some (.int .i64 p.kind) := (hb1.cell 0).trans rfl
           have q1 : w1.cell? ⟨w.heap.size, 1, none⟩ = some (.int .i64 p.n) := (hb1.cell 1).trans rfl
           have q2 : w1.cell? ⟨w.heap.size, 2, none⟩ = some (.slice A1 p.a.length c1) := (hb1.cell 2).trans rfl
           have q3 : w1.cell? ⟨w.heap.size, 3, none⟩ = some (.slice B1 p.b.length d1) := (hb1.cell 3).trans rfl
           have k1 : Chg (fun _ => False) w w1 := (((Chg.refl _ _).alloc _).alloc _).trans hc1 (fun _ h _ => h))
        | (go_at_call 40
           refine (hfit.out _ k1).mono ?_
           rintro e2 w2 ⟨rfl, hc2⟩
           have k2 : Chg (fun _ => False) w w2 := k1.trans hc2 (fun _ h _ => h))
        | (go_at_call 38
           refine (haw.out _ k2).mono ?_
           rintro e3 w3 ⟨rfl, hc3⟩))
      go_ret
      exact ⟨rfl, k2.trans hc3 (fun _ h _ => h)⟩
    · have hI := fitB_true hf
      have hd1 := drive_ok p ins hI (fun s hs => by have := hsz.2.2.2.1 s hs; omega) a
      have hd2 := drive_ok p ins hI (fun s hs => by have := hsz.2.2.2.1 s hs; omega) b
      have hnew := fun (W : World) (hW : Chg (fun _ => False) w W) => new_any (fun _ => True) p hI.1 _ W (hvv W hW) w.heap.size hW.size (hEE W hW)
      have hil2 := fun (W : World) (hW : Chg (fun _ => False) w W) => (hins.mono (D' := fun k => k < w.heap.size) (fun k _ hk => hk)).chg hW (fun _ _ _ h => h)
      have ha2 := fun (W : World) (hW : Chg (fun _ => False) w W) => (ha.mono (D' := fun k => k < w.heap.size) (fun k _ hk => hk)).chg hW (fun _ _ _ h => h)
      have hb2 := fun (W : World) (hW : Chg (fun _ => False) w W) => (hb.mono (D' := fun k => k < w.heap.size) (fun k _ hk => hk)).chg hW (fun _ _ _ h => h)
      have hcla : a.length ≤ 100000 := by have := hsz.2.2.2.2 (Aa, a.length, ca) (by simp); dsimp only at this; omega
      have hclb : b.length ≤ 100000 := by have := hsz.2.2.2.2 (Ab, b.length, cb) (by simp); dsimp only at this; omega
      have hbl3 : ∀ x ∈ ins, x.bs.length ≤ 1000000 := fun x hx => by have := hsz.2.2.2.1 x hx; omega
      have hnil := nil_no
      have heq := eq_outs
      replace hfit := Lib.hid hfit
      replace hd1 := Lib.hid hd1
      replace hd2 := Lib.hid hd2
      replace hnew := Lib.hid hnew
      replace hil2 := Lib.hid hil2
      replace ha2 := Lib.hid ha2
      replace hb2 := Lib.hid hb2
      replace hcla := Lib.hid hcla
      replace hclb := Lib.hid hclb
      replace hbl3 := Lib.hid hbl3
      clear hv hins hbl ha hb hE hEE hvv hh hf hsz hp hI
      have tn := Lib.hid trivial
      have td := Lib.hid trivial
      go_enter Try.func15, Try.ntmps15
      go_wp2_with (first
        | (go_at_call 37
           refine (hhv.out _ (((Chg.refl _ _).alloc _).alloc _) _ _ (row_new _ 2 rfl (by simp))).mono ?_
           rintro e1 w1 ⟨rfl, hc1⟩
           have hb1 := (hst.alloc _).chg hc1 (fun h => h)
           have q0 : w1.cell? ⟨w.heap.size, 0, none⟩ = some (.int .i64 p.kind) := (hb1.cell 0).trans rfl
           have q1 : w1.cell? ⟨w.heap.size, 1, none⟩ = some (.int .i64 p.n) := (hb1.cell 1).trans rfl
           have q2 : w1.cell? ⟨w.heap.size, 2, none⟩ = some (.slice A1 p.a.length c1) := (hb1.cell 2).trans rfl
           have q3 : w1.cell? ⟨w.heap.size, 3, none⟩ = some (.slice B1 p.b.length d1) := (hb1.cell 3).trans rfl
           have k1 : Chg (fun _ => False) w w1 := (((Chg.refl _ _).alloc _).alloc _).trans hc1 (fun _ h _ => h))
        | (go_at_call 40
           refine (hfit.out _ k1).mono ?_
           rintro e2 w2 ⟨rfl, hc2⟩
           have hb2' := hb1.chg hc2 (fun h => h)
           have r0 : w2.cell? ⟨w.heap.size, 0, none⟩ = some (.int .i64 p.kind) := (hb2'.cell 0).trans rfl
           have r1 : w2.cell? ⟨w.heap.size, 1, none⟩ = some (.int .i64 p.n) := (hb2'.cell 1).trans rfl
           have r2 : w2.cell? ⟨w.heap.size, 2, none⟩ = some (.slice A1 p.a.length c1) := (hb2'.cell 2).trans rfl
           have r3 : w2.cell? ⟨w.heap.size, 3, none⟩ = some (.slice B1 p.b.length d1) := (hb2'.cell 3).trans rfl
           have k2 : Chg (fun _ => False) w w2 := k1.trans hc2 (fun _ h _ => h))
        | (go_at_call 39
           clear tn
           refine (hnew.out w2 k2).mono ?_
           rintro e3 w3 ⟨m1, F1, rfl, hr1, hF1, hc3⟩
           have hb3' := hb2'.chg hc3 (fun h => h)
           have s0 : w3.cell? ⟨w.heap.size, 0, none⟩ = some (.int .i64 p.kind) := (hb3'.cell 0).trans rfl
           have s1 : w3.cell? ⟨w.heap.size, 1, none⟩ = some (.int .i64 p.n) := (hb3'.cell 1).trans rfl
           have s2 : w3.cell? ⟨w.heap.size, 2, none⟩ = some (.slice A1 p.a.length c1) := (hb3'.cell 2).trans rfl
           have s3 : w3.cell? ⟨w.heap.size, 3, none⟩ = some (.slice B1 p.b.length d1) := (hb3'.cell 3).trans rfl
           have k3 : Chg (fun _ => False) w w3 := k2.trans hc3 (fun _ h _ => h))
        | (go_at_call 39
           refine (hnew.out w3 k3).mono ?_
           rintro e4 w4 ⟨m2, F2, rfl, hr2, hF2, hc4⟩
           have k4 : Chg (fun _ => False) w w4 := k3.trans hc4 (fun _ h _ => h))
        | (go_at_call 28
           clear td
           refine (drive_ready (hr1.chg hc4 (fun _ _ h => h) (fun _ h => h.elim)) ins a _ _ hd1.out _ _ _ _ (fun k => k < w.heap.size) (hil2.out w4 k4) (ha2.out w4 k4) ?_ hcla.out hbl3.out).mono ?_
           rotate_left 1
           rintro e5 w5 ⟨dd1, F3, rfl, hh1, hh01, hc5, hr3, hF3⟩
           have hF1w : ∀ k, F1 k → w.heap.size ≤ k := fun k hk => by have := hF1 k hk; have := k2.size; omega
           have k5 : Chg (fun _ => False) w w5 := k4.trans hc5 (fun k hk hlt => by have := hF1w k hk; omega))
        | (go_at_call 28
           refine (drive_ready (hr2.chg hc5 (fun k hk hk1 => by have := hF2 k hk; have := (hr1.inside.2.1 k hk1).2; omega) (fun k hk => hF1w k hk)) ins b _ _ hd2.out _ _ _ _ (fun k => k < w.heap.size) (hil2.out w5 k5) (hb2.out w5 k5) ?_ hclb.out hbl3.out).mono ?_
           rotate_left 1
           rintro e6 w6 ⟨dd2, F4, rfl, hh2, hh02, hc6, hr4, hF4⟩
           have hF2w : ∀ k, F2 k → w.heap.size ≤ k := fun k hk => by have := hF2 k hk; have := k3.size; omega
           have k6 : Chg (fun _ => False) w w6 := k5.trans hc6 (fun k hk hlt => by have := hF2w k hk; omega))
        | (refine wpList_store_got rfl (.tmp 13) (.tmp 55) rfl w6.heap.size _ _ _ _ _ _ rfl rfl _ ((Blk.new w6 _ _).alloc _) rfl ?_
           intro w7 hG7 hc7
           have k7 : Chg (fun _ => False) w w7 := ((k6.alloc _).alloc _).trans hc7 (fun k hk hlt => by have := k6.size; omega))
        | (refine wpList_store_got rfl (.tmp 14) (.tmp 59) rfl (w6.heap.size + 1) _ _ _ _ _ _ rfl rfl _ ((blk_new' _ _ (by simp)).chg hc7 (fun h => by omega)) rfl ?_
           intro w8 hG8 hc8
           have k8 : Chg (fun _ => False) w w8 := k7.trans hc8 (fun k hk hlt => by have := k6.size; omega)
           have hG7' := hG7.chg hc8 (fun h => by omega)
           have g0 : w8.cell? ⟨w6.heap.size, 0, none⟩ = some (strv ((den p ins).outs 0)) := (hG7'.cell 0).trans rfl
           have g1 : w8.cell? ⟨w6.heap.size, 1, none⟩ = some (strv ((den p ins).outs 1)) := (hG7'.cell 1).trans rfl
           have g2 : w8.cell? ⟨w6.heap.size, 2, none⟩ = some (strv ((den p ins).outs 2)) := (hG7'.cell 2).trans rfl
           have g3 : w8.cell? ⟨w6.heap.size, 3, none⟩ = some (strv ((den p ins).outs 3)) := (hG7'.cell 3).trans rfl
           have g4 : w8.cell? ⟨w6.heap.size, 4, none⟩ = some (.int .i64 ((den p ins).need)) := (hG7'.cell 4).trans rfl
           have g5 : w8.cell? ⟨w6.heap.size, 5, none⟩ = some (.int .i64 ((den p ins).err)) := (hG7'.cell 5).trans rfl
           have g11 : w8.cell? ⟨w6.heap.size, 11, none⟩ = some (.bool false) := (hG7'.cell 11).trans rfl
           have h0 : w8.cell? ⟨w6.heap.size + 1, 0, none⟩ = some (strv ((den p ins).outs 0)) := (hG8.cell 0).trans rfl
           have h1 : w8.cell? ⟨w6.heap.size + 1, 1, none⟩ = some (strv ((den p ins).outs 1)) := (hG8.cell 1).trans rfl
           have h2 : w8.cell? ⟨w6.heap.size + 1, 2, none⟩ = some (strv ((den p ins).outs 2)) := (hG8.cell 2).trans rfl
           have h3 : w8.cell? ⟨w6.heap.size + 1, 3, none⟩ = some (strv ((den p ins).outs 3)) := (hG8.cell 3).trans rfl
           have h4 : w8.cell? ⟨w6.heap.size + 1, 4, none⟩ = some (.int .i64 ((den p ins).need)) := (hG8.cell 4).trans rfl
           have h5 : w8.cell? ⟨w6.heap.size + 1, 5, none⟩ = some (.int .i64 ((den p ins).err)) := (hG8.cell 5).trans rfl
           have h11 : w8.cell? ⟨w6.heap.size + 1, 11, none⟩ = some (.bool false) := (hG8.cell 11).trans rfl)
        | (go_at_call 38
           refine (haw.out _ k8).mono ?_
           rintro e9 w9 ⟨rfl, hc9⟩))
      · go_ret
        exact ⟨rfl, k8.trans hc9 (fun _ h _ => h)⟩
      · exact fun k hk hF => by have := hF2 k hF; have := k3.size; omega
      · exact fun k hk hF => by have := hF1 k hF; have := k2.size; omega
  · clear hv hins hbl ha hb hE hEE hvv hh
    go_enter Try.func15, Try.ntmps15
    go_wp2_with (first
      | (go_at_call 37
         refine (hhv.out _ (((Chg.refl _ _).alloc _).alloc _) _ _ (row_new _ 2 rfl (by simp))).mono ?_
         rintro e1 w1 ⟨rfl, hc1⟩
         have k1 : Chg (fun _ => False) w w1 := (((Chg.refl _ _).alloc _).alloc _).trans hc1 (fun _ h _ => h))
      | (go_at_call 38
         refine (haw.out _ k1).mono ?_
         rintro e3 w3 ⟨rfl, hc3⟩))
    go_ret
    exact ⟨rfl, k1.trans hc3 (fun _ h _ => h)⟩
end Go.Proofs.Ytamhebjejgcbjaa.Join
