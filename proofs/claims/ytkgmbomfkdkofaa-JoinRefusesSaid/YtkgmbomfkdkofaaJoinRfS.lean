/- JoinRefuses: calls that are not due change nothing: the function returns true for every input, and its arguments read as before. No conditions. -/
import Derived.Test.YtkgmbomfkdkofaaJoinK
import Derived.Test.YtkgmbomfkdkofaaPoke0
import Derived.Test.YtkgmbomfkdkofaaJoinRfM
import Derived.Test.YtkgmbomfkdkofaaJoinRfC
import Derived.Deep.RegionHeld3
import Derived.Deep.DrawnRows
import Derived.BigQuiet
import Derived.Outline
import Derived.Test.YtkgmbomfkdkofaaStrm
import Derived.ProofKit
import Derived.OpenShut
import Derived.Deep.Slices
import Derived.Deep.Strs
import Derived.Lib.SmallJoins
import Derived.Carry
import Derived.Test.YtkgmbomfkdkofaaRows
import Derived.WalkKit
/- join refuses what is not due. -/
namespace Go.Proofs.Ytkgmbomfkdkofaa.Join
open Go Go.RowKit
theorem refuse_join : Refuse joinM (fun _ => True) where
  feedR _ _ _ _ := trivial
  finR _ _ _ := trivial
  moreR _ _ := trivial
  feed s port bs _ hn := by
    show joFeed s port bs = _
    dsimp only at hn ⊢
    unfold joFeed
    by_cases ho : s.a.over = true
    · rw [if_pos ho, if_pos ho]; rfl
    · rw [if_neg ho] at hn ⊢
      rw [if_neg ho]
      by_cases hm : s.more = true
      · rw [if_pos (.inl hm), if_pos hm, wantOf_not (by decide)]
      · rw [if_neg hm] at hn ⊢
        rw [wantOf_not (by omega)]
        by_cases hp : port ≠ s.at_
        · rw [if_pos (.inr hp)]
        · rw [if_neg (fun h => h.elim hm hp), if_pos (hn.resolve_left hp)]
  fin s port _ hn := by
    show joFin s port = _
    dsimp only at hn ⊢
    unfold joFin
    by_cases ho : s.a.over = true
    · rw [if_pos ho, if_pos ho]; rfl
    · rw [if_neg ho] at hn ⊢
      rw [if_neg ho]
      by_cases hm : s.more = true
      · rw [if_pos (.inl hm), if_pos hm, wantOf_not (by decide)]
      · rw [if_neg hm] at hn ⊢
        rw [wantOf_not (by omega), if_pos (.inr hn)]
  more s _ hn := by
    show joMore s = _
    dsimp only at hn ⊢
    unfold joMore
    by_cases ho : s.a.over = true
    · rw [if_pos ho, if_pos ho]; rfl
    · rw [if_neg ho] at hn ⊢
      rw [if_neg ho]
      by_cases hm : s.more = true
      · rw [if_pos hm] at hn
        exact absurd rfl hn
      · rw [if_neg hm, if_pos (by simpa using hm), wantOf_not (by omega)]

def RR (_ : M.σ) : Prop := True
theorem rr : Refuse M RR := refuse_join
theorem rr0 (p : Prm) : RR (s0 p) := trivial
end Go.Proofs.Ytkgmbomfkdkofaa.Join

/- JoinRefuses. -/
namespace Go.Proofs.Ytkgmbomfkdkofaa.Join
open Go Go.RowKit

set_option maxHeartbeats 4000000 in
set_option maxRecDepth 100000 in
theorem refuses_law (p : Prm) (ins : List Strm) (a : List Int) (port : Int) (b : Bs) (v : Value) (A Aa Ab : Option Addr) (ci ca cb : Nat) (w : World)
    (hn0 : -9223372036854775808 ≤ p.n) (hn1 : p.n ≤ 9223372036854775807) (hla : p.a.length ≤ maxLen) (hlb : p.b.length ≤ maxLen) (hv : PAt w (fun _ => True) v p)
    (hil : ins.length ≤ maxLen) (hins : StrmsAt w (fun _ => True) (.slice A ins.length ci) ins) (hbl : ∀ s ∈ ins, s.bs.length ≤ maxLen)
    (hal : a.length ≤ maxLen) (ha : Rd w (fun _ => True) 1 Aa a.length (i64s a))
    (_ : -9223372036854775808 ≤ port ∧ port ≤ 9223372036854775807) (_ : b.length ≤ cb) (_ : cb ≤ maxLen) (hrb : Rd w (fun _ => True) 1 Ab b.length (u8s b)) (hE : E w.heap.size w) :
    Calls Try.prog 6 #[v, .slice A ins.length ci, .slice Aa a.length ca, .int .i64 port, .slice Ab b.length cb] w (TruePost w) := by
  have hEE : ∀ W, Chg (fun _ => False) w W → E w.heap.size W := fun W hW => E_on (hW.below (Nat.le_refl _) (fun _ h => h.elim)) hE
  have haw := fun (W : World) (hW : Chg (fun _ => False) w W) => awake_any w.heap.size W hW.size (hEE W hW)
  have hvv := fun (W : World) (hW : Chg (fun _ => False) w W) => hv.chg hW (fun _ _ _ h => h)
  have hv0 := hv
  obtain ⟨A1, c1, B1, d1, rfl, _, _⟩ := hv0
  have hhv := fun (W : World) (hW : Chg (fun _ => False) w W) (C : Option Addr) (cc : Nat) (hr : Rd W (fun _ => True) 1 C 1 [.slice Aa a.length ca]) =>
    heavy_any (fun _ => True) p.kind p.n A1 B1 p.a.length c1 p.b.length d1 A C ci cc ins [(Aa, a.length, ca)] W hla hlb hil (hins.chg hW (fun _ _ _ h => h)) hbl hr (by simp) (by
      intro c hc
      simp at hc
      subst hc
      exact hal)
  have hst : Blk (w.alloc (.cells #[.int .i64 p.kind, .int .i64 p.n, .slice A1 p.a.length c1, .slice B1 p.b.length d1] 24)) w.heap.size 24 #[.int .i64 p.kind, .int .i64 p.n, .slice A1 p.a.length c1, .slice B1 p.b.length d1] := Blk.new _ _ _
  generalize hh : heavyB p.a.length p.b.length ins [(Aa, a.length, ca)] = hβ at *
  replace haw := Lib.hid haw
  replace hhv := Lib.hid hhv
  cases hβ
  · have hsz := heavyB_false hh
    have hp : p.Fine := ⟨hn0, hn1, by omega, by omega⟩
    have hfit := fun (W : World) (hW : Chg (fun _ => False) w W) => fit_any (fun _ => True) p hp _ W (hvv W hW) A ins.length ci
    generalize hf : fitB p ins.length = fβ at *
    cases fβ
    · replace hfit := Lib.hid hfit
      clear hv hins hbl ha hE hEE hvv hh hf hsz hp hrb
      go_enter Try.func6, Try.ntmps6
      go_wp2_with (first
        | (go_at_call 14
           refine (hhv.out _ (((Chg.refl _ _).alloc _).alloc _) _ _ (row_new _ 1 rfl (by simp))).mono ?_
           rintro e1 w1 ⟨rfl, hc1⟩
           have hb1 := (hst.alloc _).chg hc1 (fun h => h)
           have q0 : w1.cell? ⟨w.heap.size, 0, none⟩ = some (.int .i64 p.kind) := (hb1.cell 0).trans rfl
           have q1 : w1.cell? ⟨w.heap.size, 1, none⟩ = some (.int .i64 p.n) := (hb1.cell 1).trans rfl
           have q2 : w1.cell? ⟨w.heap.size, 2, none⟩ = some (.slice A1 p.a.length c1) := (hb1.cell 2).trans rfl
           have q3 : w1.cell? ⟨w.heap.size, 3, none⟩ = some (.slice B1 p.b.length d1) := (hb1.cell 3).trans rfl
           have k1 : Chg (fun _ => False) w w1 := (((Chg.refl _ _).alloc _).alloc _).trans hc1 (fun _ h _ => h))
        | (go_at_call 17
           refine (hfit.out _ k1).mono ?_
           rintro e2 w2 ⟨rfl, hc2⟩
           have hb2' := hb1.chg hc2 (fun h => h)
           have r0 : w2.cell? ⟨w.heap.size, 0, none⟩ = some (.int .i64 p.kind) := (hb2'.cell 0).trans rfl
           have r1 : w2.cell? ⟨w.heap.size, 1, none⟩ = some (.int .i64 p.n) := (hb2'.cell 1).trans rfl
           have r2 : w2.cell? ⟨w.heap.size, 2, none⟩ = some (.slice A1 p.a.length c1) := (hb2'.cell 2).trans rfl
           have r3 : w2.cell? ⟨w.heap.size, 3, none⟩ = some (.slice B1 p.b.length d1) := (hb2'.cell 3).trans rfl
           have k2 : Chg (fun _ => False) w w2 := k1.trans hc2 (fun _ h _ => h))
        | (go_at_call 15
           refine (haw.out _ k2).mono ?_
           rintro e9 w9 ⟨rfl, hc9⟩))
      go_ret
      exact ⟨rfl, k2.trans hc9 (fun _ h _ => h)⟩
    · by_cases hbl4 : b.length > 1000
      · have hbl5 : (1000 : Int) < (b.length : Int) := by omega
        replace hfit := Lib.hid hfit
        clear hv hins hbl ha hE hEE hvv hh hf hsz hp hrb
        go_enter Try.func6, Try.ntmps6
        go_wp2_with (first
          | (go_at_call 14
             refine (hhv.out _ (((Chg.refl _ _).alloc _).alloc _) _ _ (row_new _ 1 rfl (by simp))).mono ?_
             rintro e1 w1 ⟨rfl, hc1⟩
             have hb1 := (hst.alloc _).chg hc1 (fun h => h)
             have q0 : w1.cell? ⟨w.heap.size, 0, none⟩ = some (.int .i64 p.kind) := (hb1.cell 0).trans rfl
             have q1 : w1.cell? ⟨w.heap.size, 1, none⟩ = some (.int .i64 p.n) := (hb1.cell 1).trans rfl
             have q2 : w1.cell? ⟨w.heap.size, 2, none⟩ = some (.slice A1 p.a.length c1) := (hb1.cell 2).trans rfl
             have q3 : w1.cell? ⟨w.heap.size, 3, none⟩ = some (.slice B1 p.b.length d1) := (hb1.cell 3).trans rfl
             have k1 : Chg (fun _ => False) w w1 := (((Chg.refl _ _).alloc _).alloc _).trans hc1 (fun _ h _ => h))
          | (go_at_call 17
             refine (hfit.out _ k1).mono ?_
             rintro e2 w2 ⟨rfl, hc2⟩
             have hb2' := hb1.chg hc2 (fun h => h)
             have r0 : w2.cell? ⟨w.heap.size, 0, none⟩ = some (.int .i64 p.kind) := (hb2'.cell 0).trans rfl
             have r1 : w2.cell? ⟨w.heap.size, 1, none⟩ = some (.int .i64 p.n) := (hb2'.cell 1).trans rfl
             have r2 : w2.cell? ⟨w.heap.size, 2, none⟩ = some (.slice A1 p.a.length c1) := (hb2'.cell 2).trans rfl
             have r3 : w2.cell? ⟨w.heap.size, 3, none⟩ = some (.slice B1 p.b.length d1) := (hb2'.cell 3).trans rfl
             have k2 : Chg (fun _ => False) w w2 := k1.trans hc2 (fun _ h _ => h))
          | (go_at_call 15
             refine (haw.out _ k2).mono ?_
             rintro e9 w9 ⟨rfl, hc9⟩))
        go_ret
        exact ⟨rfl, k2.trans hc9 (fun _ h _ => h)⟩
      · have hbl5 : ¬ (1000 : Int) < (b.length : Int) := by omega
        have hbl6 := Lib.hid (show b.length ≤ 1000 by omega)
        have hI := fitB_true hf
        have hd1 := drive_ok p ins hI (fun s hs => by have := hsz.2.2.2.1 s hs; omega) a
        have hnew := fun (W : World) (hW : Chg (fun _ => False) w W) (u : Value) (D : Nat → Prop) (hu : PAt W D u p) => new_any D p hI.1 u W hu w.heap.size hW.size (hEE W hW)
        have hil2 := fun (W : World) (hW : Chg (fun _ => False) w W) => (hins.mono (D' := fun k => k < w.heap.size) (fun k _ hk => hk)).chg hW (fun _ _ _ h => h)
        have ha2 := fun (W : World) (hW : Chg (fun _ => False) w W) => (ha.mono (D' := fun k => k < w.heap.size) (fun k _ hk => hk)).chg hW (fun _ _ _ h => h)
        have hcla : a.length ≤ 100000 := by have := hsz.2.2.2.2 (Aa, a.length, ca) (by simp); dsimp only at this; omega
        have hbl3 : ∀ x ∈ ins, x.bs.length ≤ 1000000 := fun x hx => by have := hsz.2.2.2.1 x hx; omega
        have hnil := nil_no
        have hrb2 := fun (W : World) (hW : Chg (fun _ => False) w W) => (hrb.mono (D' := fun k => k < w.heap.size) (fun k _ hk => hk)).chg hW (fun _ _ _ h => h)
        have hl10 : ∀ s ∈ ins, s.bs.length ≤ 4000 := fun s hs => by have := hsz.2.2.2.1 s hs; omega
        have hmn := fun (W : World) (hW : Chg (fun _ => False) w W) => means_any (fun _ => True) p ins hI hl10 _ A ci W (hvv W hW) (hins.chg hW (fun _ _ _ h => h))
        have hso := same_ok p ins hI hl10
        have hml := means_len p ins hI
        have hsm := fun (held : Int) (taken : Nat → Nat) (C : Option Addr) (cc : Nat) (W : World) (hW : Chg (fun _ => False) w W) (hw : StrmsAt W (fun _ => True) (.slice C (means p ins).length cc) (means p ins)) =>
          same_any (fun _ => True) (den p ins).outs (den p ins).need (den p ins).err held taken ins (means p ins) A C ci cc W (hins.chg hW (fun _ _ _ h => h)) hw hml hso.1 hso.2
        replace hrb2 := Lib.hid hrb2
        replace hmn := Lib.hid hmn
        replace hsm := Lib.hid hsm
        clear hl10 hso hml
        replace hfit := Lib.hid hfit
        replace hd1 := Lib.hid hd1
        replace hnew := Lib.hid hnew
        replace hil2 := Lib.hid hil2
        replace ha2 := Lib.hid ha2
        replace hcla := Lib.hid hcla
        replace hbl3 := Lib.hid hbl3
        replace hvv := Lib.hid hvv
        clear hv hins hbl ha hE hEE hh hf hsz hp hI hrb hbl4
        go_enter Try.func6, Try.ntmps6
        go_wp2_with (first
          | (go_at_call 14
             refine (hhv.out _ (((Chg.refl _ _).alloc _).alloc _) _ _ (row_new _ 1 rfl (by simp))).mono ?_
             rintro e1 w1 ⟨rfl, hc1⟩
             have hb1 := (hst.alloc _).chg hc1 (fun h => h)
             have q0 : w1.cell? ⟨w.heap.size, 0, none⟩ = some (.int .i64 p.kind) := (hb1.cell 0).trans rfl
             have q1 : w1.cell? ⟨w.heap.size, 1, none⟩ = some (.int .i64 p.n) := (hb1.cell 1).trans rfl
             have q2 : w1.cell? ⟨w.heap.size, 2, none⟩ = some (.slice A1 p.a.length c1) := (hb1.cell 2).trans rfl
             have q3 : w1.cell? ⟨w.heap.size, 3, none⟩ = some (.slice B1 p.b.length d1) := (hb1.cell 3).trans rfl
             have k1 : Chg (fun _ => False) w w1 := (((Chg.refl _ _).alloc _).alloc _).trans hc1 (fun _ h _ => h))
          | (go_at_call 17
             refine (hfit.out _ k1).mono ?_
             rintro e2 w2 ⟨rfl, hc2⟩
             have hb2' := hb1.chg hc2 (fun h => h)
             have r0 : w2.cell? ⟨w.heap.size, 0, none⟩ = some (.int .i64 p.kind) := (hb2'.cell 0).trans rfl
             have r1 : w2.cell? ⟨w.heap.size, 1, none⟩ = some (.int .i64 p.n) := (hb2'.cell 1).trans rfl
             have r2 : w2.cell? ⟨w.heap.size, 2, none⟩ = some (.slice A1 p.a.length c1) := (hb2'.cell 2).trans rfl
             have r3 : w2.cell? ⟨w.heap.size, 3, none⟩ = some (.slice B1 p.b.length d1) := (hb2'.cell 3).trans rfl
             have k2 : Chg (fun _ => False) w w2 := k1.trans hc2 (fun _ h _ => h))
          | (go_at_call 16
             refine (hnew.out w2 k2 _ _ (hvv.out w2 k2)).mono ?_
             rintro e4 w4 ⟨m1, F1, rfl, hr1, hF1, hc4⟩
             have hb4' := hb2'.chg hc4 (fun h => h)
             have k4 : Chg (fun _ => False) w w4 := k2.trans hc4 (fun _ h _ => h)
             have hF1w : ∀ k, F1 k → w.heap.size ≤ k ∧ k ≠ w.heap.size := fun k hk => by have := hF1 k hk; have := k2.size; have := hb2'.lt; exact ⟨by omega, by omega⟩
             have hp4 := pready_new hr1 (rr0 p) port Ab b cb (hrb2.out w4 k4)
             have k45 := fun (o : Obj) => k4.alloc o
             have hX4 := k4.size
             have hb4l := hb4'.lt
             have hF4w : ∀ k, (F1 k ∨ k = w4.heap.size) → w.heap.size ≤ k ∧ k ≠ w.heap.size := fun k hk => by
               rcases hk with hk | hk
               · exact hF1w k hk
               · exact ⟨by omega, by omega⟩)
          | (go_at_call 18
             refine (pready_drive rr hbl6.out hp4 ins a _ _ hd1.out _ _ _ _ (fun k => k < w.heap.size) (hil2.out _ (k45 _)) (ha2.out _ (k45 _)) ?_ hcla.out hbl3.out).mono ?_
             rotate_left 1
             rintro e5 w5 ⟨dd1, F3, rfl, hc5, hp5, hF3⟩
             have k5 : Chg (fun _ => False) w w5 := (k45 _).trans hc5 (fun k hk hlt => by have := (hF4w k hk).1; omega)
             have hb5' := (hb4'.alloc _).chg hc5 (fun h => (hF4w _ h).2 rfl)
             have hF3w : ∀ k, F3 k → w.heap.size ≤ k ∧ k ≠ w.heap.size := fun k hk => by
               rcases hF3 k hk with h | h
               · exact hF4w k h
               · simp at h
                 exact ⟨by omega, by omega⟩
             have hF3i := hp5.inside.2)
          | (refine wpList_store_got rfl (.tmp 14) (.tmp 52) rfl w5.heap.size _ _ _ _ _ _ rfl rfl _ (Blk.new w5 _ _) rfl ?_
             intro wg hGg hcg
             have k5g : Chg (fun k => k = w5.heap.size) w5 wg := ((Chg.refl _ _).alloc _).trans hcg (fun k hk hlt => hk)
             have k5g' : Chg (fun _ => False) w5 wg := ((Chg.refl _ _).alloc _).trans hcg (fun k hk hlt => by omega)
             have kg : Chg (fun _ => False) w wg := k5.trans k5g' (fun _ h _ => h)
             have hPg := hb5'.chg k5g' (fun h => h)
             have hpg := hp5.chg k5g (fun k hk e => by have := (hF3i k hk).2; omega) (fun k hk => by have := k5.size; omega))
          | (go_at_call 21
             refine (pready_poke rr hbl6.out hpg).mono ?_
             rintro e6 wq ⟨rfl, hc6, hXq⟩
             have kq : Chg (fun _ => False) w wq := kg.trans hc6 (fun k hk hlt => by have := (hF3w k hk).1; omega)
             have hGq := hGg.chg hc6 (fun h => by have := (hF3i _ h).2; omega)
             have hPq := hPg.chg hc6 (fun h => (hF3w _ h).2 rfl)))
        · generalize hgg : w5.heap.size = gg at *
          generalize hgp : w.heap.size = gp at *
          generalize hgx : w4.heap.size = xx at *
          have hS1q : ∀ W, Chg (fun _ => False) wq W → W.cell? ⟨gg, 0, none⟩ = some (strv ((den p ins).outs 0)) ∧ W.cell? ⟨gg, 1, none⟩ = some (strv ((den p ins).outs 1)) ∧ W.cell? ⟨gg, 2, none⟩ = some (strv ((den p ins).outs 2)) ∧ W.cell? ⟨gg, 3, none⟩ = some (strv ((den p ins).outs 3)) ∧ W.cell? ⟨gg, 4, none⟩ = some (.int .i64 (den p ins).need) ∧ W.cell? ⟨gg, 5, none⟩ = some (.int .i64 (den p ins).err) ∧ W.cell? ⟨gg, 6, none⟩ = some (.int .i64 dd1.held) ∧ W.cell? ⟨gg, 7, none⟩ = some (.int .i64 (dd1.taken 0)) ∧ W.cell? ⟨gg, 8, none⟩ = some (.int .i64 (dd1.taken 1)) ∧ W.cell? ⟨gg, 9, none⟩ = some (.int .i64 (dd1.taken 2)) ∧ W.cell? ⟨gg, 10, none⟩ = some (.int .i64 (dd1.taken 3)) ∧ W.cell? ⟨gg, 11, none⟩ = some (.bool false) ∧ W.cell? ⟨gp, 0, none⟩ = some (.int .i64 p.kind) ∧ W.cell? ⟨gp, 1, none⟩ = some (.int .i64 p.n) ∧ W.cell? ⟨gp, 2, none⟩ = some (.slice A1 p.a.length c1) ∧ W.cell? ⟨gp, 3, none⟩ = some (.slice B1 p.b.length d1) ∧ W.cell? ⟨xx, 3, none⟩ = some (.bool false) ∧ Chg (fun _ => False) wq W := fun W hW => by
            have hGq := hGq.chg hW (fun h => h)
            have hPq := hPq.chg hW (fun h => h)
            have hXq := hXq.chg hW (fun h => h)
            exact ⟨(hGq.cell 0).trans rfl, (hGq.cell 1).trans rfl, (hGq.cell 2).trans rfl, (hGq.cell 3).trans rfl, (hGq.cell 4).trans rfl, (hGq.cell 5).trans rfl, (hGq.cell 6).trans rfl, (hGq.cell 7).trans rfl, (hGq.cell 8).trans rfl, (hGq.cell 9).trans rfl, (hGq.cell 10).trans rfl, (hGq.cell 11).trans rfl, (hPq.cell 0).trans rfl, (hPq.cell 1).trans rfl, (hPq.cell 2).trans rfl, (hPq.cell 3).trans rfl, (hXq.cell 3).trans rfl, hW⟩
          have c0 := Chg.refl (fun _ => False) wq
          have hSq := hS1q wq c0
          have hmnq := fun (W : World) (hW : Chg (fun _ => False) wq W) => hmn.out W (kq.trans hW (fun _ h _ => h))
          have hawq := fun (W : World) (hW : Chg (fun _ => False) wq W) => haw.out W (kq.trans hW (fun _ h _ => h))
          have hsmq := fun (C : Option Addr) (cc : Nat) (W : World) (hW : Chg (fun _ => False) wq W) (hw : StrmsAt W (fun _ => True) (.slice C (means p ins).length cc) (means p ins)) => hsm.out dd1.held dd1.taken C cc W (kq.trans hW (fun _ h _ => h)) hw
          replace hmnq := Lib.hid hmnq
          replace hawq := Lib.hid hawq
          replace hsmq := Lib.hid hsmq
          clear hGq hPq hXq hb1 hb2' hb4' hb5' hst hGg hPg hp4 hp5 hpg hr1 hc5 hc6 hcg
          go_region_held3 (fun W => W.cell? ⟨gg, 0, none⟩ = some (strv ((den p ins).outs 0)) ∧ W.cell? ⟨gg, 1, none⟩ = some (strv ((den p ins).outs 1)) ∧ W.cell? ⟨gg, 2, none⟩ = some (strv ((den p ins).outs 2)) ∧ W.cell? ⟨gg, 3, none⟩ = some (strv ((den p ins).outs 3)) ∧ W.cell? ⟨gg, 4, none⟩ = some (.int .i64 (den p ins).need) ∧ W.cell? ⟨gg, 5, none⟩ = some (.int .i64 (den p ins).err) ∧ W.cell? ⟨gg, 6, none⟩ = some (.int .i64 dd1.held) ∧ W.cell? ⟨gg, 7, none⟩ = some (.int .i64 (dd1.taken 0)) ∧ W.cell? ⟨gg, 8, none⟩ = some (.int .i64 (dd1.taken 1)) ∧ W.cell? ⟨gg, 9, none⟩ = some (.int .i64 (dd1.taken 2)) ∧ W.cell? ⟨gg, 10, none⟩ = some (.int .i64 (dd1.taken 3)) ∧ W.cell? ⟨gg, 11, none⟩ = some (.bool false) ∧ W.cell? ⟨gp, 0, none⟩ = some (.int .i64 p.kind) ∧ W.cell? ⟨gp, 1, none⟩ = some (.int .i64 p.n) ∧ W.cell? ⟨gp, 2, none⟩ = some (.slice A1 p.a.length c1) ∧ W.cell? ⟨gp, 3, none⟩ = some (.slice B1 p.b.length d1) ∧ W.cell? ⟨xx, 3, none⟩ = some (.bool false) ∧ Chg (fun _ => False) wq W)
            (first
              | exact hSq
              | with_reducible exact hS1q _ c0.drew
              | with_reducible exact hS1q _ dX
              | with_reducible exact hS1q _ dY
              | with_reducible exact hS1q _ dZ)
            (first
              | (go_at_call 20
                 go_split_ands
                 refine (hmnq.out _ (by first | assumption | exact Chg.drew (by assumption))).mono ?_
                 intro e7 w7 ho7
                 obtain ⟨v7, rfl, hs7, hb7⟩ := ho7
                 obtain ⟨C7, c7, its7, rfl, h71, h72, h73⟩ := hs7
                 have dX : Chg (fun _ => False) wq w7 := Chg.trans (by first | assumption | exact Chg.drew (by assumption)) (Chg.of_below (S := fun _ => False) hb7) (fun _ h _ => h)
                 have hs7 := Lib.hid (show StrmsAt w7 _ (.slice C7 (means p ins).length c7) (means p ins) from ⟨C7, c7, its7, rfl, h71, h72, h73⟩)
                 clear h71 h72 h73)
              | (go_at_call 19
                 go_split_ands
                 refine (hsmq.out C7 c7 w7 dX (hs7.out.mono (fun _ _ _ => trivial))).mono ?_
                 intro e8 w8 ho8
                 obtain ⟨rfl, hc8⟩ := ho8
                 have dY : Chg (fun _ => False) wq w8 := dX.trans hc8 (fun _ h _ => h))
              | (go_at_call 15
                 go_split_ands
                 refine (hawq.out w8 dY).mono ?_
                 intro e9 w9 ho9
                 obtain ⟨rfl, hc9⟩ := ho9
                 have dZ : Chg (fun _ => False) wq w9 := dY.trans hc9 (fun _ h _ => h)))
          go_wp2
          go_ret
          exact ⟨rfl, kq.trans dZ (fun _ h _ => h)⟩
        · exact fun k hk hF => by have := (hF4w k hF).1; omega
  · clear hv hins hbl ha hE hEE hvv hh hrb
    go_enter Try.func6, Try.ntmps6
    go_wp2_with (first
      | (go_at_call 14
         refine (hhv.out _ (((Chg.refl _ _).alloc _).alloc _) _ _ (row_new _ 1 rfl (by simp))).mono ?_
         rintro e1 w1 ⟨rfl, hc1⟩
         have hb1 := (hst.alloc _).chg hc1 (fun h => h)
         have q0 : w1.cell? ⟨w.heap.size, 0, none⟩ = some (.int .i64 p.kind) := (hb1.cell 0).trans rfl
         have q1 : w1.cell? ⟨w.heap.size, 1, none⟩ = some (.int .i64 p.n) := (hb1.cell 1).trans rfl
         have q2 : w1.cell? ⟨w.heap.size, 2, none⟩ = some (.slice A1 p.a.length c1) := (hb1.cell 2).trans rfl
         have q3 : w1.cell? ⟨w.heap.size, 3, none⟩ = some (.slice B1 p.b.length d1) := (hb1.cell 3).trans rfl
         have k1 : Chg (fun _ => False) w w1 := (((Chg.refl _ _).alloc _).alloc _).trans hc1 (fun _ h _ => h))
      | (go_at_call 15
         refine (haw.out _ k1).mono ?_
         rintro e9 w9 ⟨rfl, hc9⟩))
    go_ret
    exact ⟨rfl, k1.trans hc9 (fun _ h _ => h)⟩
end Go.Proofs.Ytkgmbomfkdkofaa.Join

/- Arguments, opened: what the values of a law's parameters are. -/
namespace Go.Proofs.Ytkgmbomfkdkofaa
open Go Go.ChangeShapes Go.WideShapes Go.ChangeAt Go.RowKit Go.Deep

/-- Anywhere. -/
abbrev Any' : Nat → Prop := fun _ => True

theorem list_of {α : Type} (f : α → Value) (p : α → Prop) (V : Nat → Value) : ∀ (n : Nat), (∀ i, i < n → ∃ b, V i = f b ∧ p b) → ∃ l : List α, l.length = n ∧ (List.range n).map V = l.map f ∧ ∀ b ∈ l, p b := by
  intro n
  induction n with
  | zero => intro _; exact ⟨[], rfl, rfl, fun _ h => by cases h⟩
  | succ n ih =>
    intro h
    obtain ⟨l, hl, he, hp⟩ := ih (fun i hi => h i (by omega))
    obtain ⟨b, hb, hpb⟩ := h n (by omega)
    refine ⟨l ++ [b], by simp [hl], by rw [List.range_succ, List.map_append, he]; simp [hb], fun x hx => ?_⟩
    rcases List.mem_append.1 hx with hx | hx
    · exact hp x hx
    · simp at hx; subst hx; exact hpb

theorem cell_spot {w : World} {a : Addr} {v : Value} (h : w.cell? a = some v) : a.block < w.heap.size ∧ a.spot = none := by
  unfold World.cell? at h
  split at h
  · rename_i hh
    refine ⟨(Array.getElem?_eq_some_iff.1 hh).1, ?_⟩
    split at h
    · cases h
    · rename_i hs; simpa using hs
  · cases h

section
variable {H : Type} {enc : TypeId × Value → H} {w : World} {spare : Nat → Bool} {held : Bool} {fuel : Nat}

theorem open_rd {P : Program} {t e : TypeId} {v : Value} {x : DataW H × List MemPlace} (ht : P.underlying t = some (.slice e)) (hc : P.cellsOf e = 1) (h : DataW.trod enc P w 0 spare held fuel t [v] = some x) :
    ∃ (A : Option Addr) (n c : Nat) (V : Nat → Value), v = .slice A n c ∧ n ≤ c ∧ c ≤ maxLen ∧ Rd w Any' 1 A n ((List.range n).map V) ∧ ∀ i, i < n → ∃ k y, DataW.trod enc P w 0 spare held k e [V i] = some y := by
  rcases open_slice1 ht hc h with ⟨h0, _⟩ | ⟨a, len, cap, m, n, V, D, Pl, h0, _, hl, hm, hmm, _, hV⟩
  · simp at h0
    subst h0
    exact ⟨none, 0, 0, fun _ => .nilFunc, rfl, Nat.le_refl _, Nat.zero_le _, Rd.nil _ _ _ _, fun i hi => by omega⟩
  · simp at h0
    subst h0
    have hlm : len ≤ m := by rw [hmm]; split <;> omega
    refine ⟨some a, len, cap, V, rfl, hl, hm, ⟨by simp, fun hn => ?_⟩, fun i hi => ⟨n, _, (hV i (by omega)).2⟩⟩
    have h1 := cell_spot (hV 0 (by omega)).1
    obtain ⟨b, o, sp⟩ := a
    have hs : sp = none := by simpa [Addr.add] using h1.2
    subst hs
    refine ⟨b, o, rfl, by simpa [Addr.add] using h1.1, trivial, fun j u hu => ?_⟩
    have hj : j < len := by
      have := (List.getElem?_eq_some_iff.1 hu).1
      simpa using this
    simp [List.getElem?_map, List.getElem?_range hj] at hu
    subst hu
    have := (hV j (by omega)).1
    rw [add_flat] at this
    exact this

theorem open_bs {v : Value} {x : DataW H × List MemPlace} (h : DataW.trod enc Try.prog w 0 spare held fuel 22 [v] = some x) :
    ∃ (A : Option Addr) (c : Nat) (bs : Bs), v = .slice A bs.length c ∧ bs.length ≤ c ∧ c ≤ maxLen ∧ Rd w Any' 1 A bs.length (u8s bs) := by
  obtain ⟨A, n, c, V, rfl, h1, h2, h3, h4⟩ := open_rd Try.underlying22 (by kernel_rfl) h
  obtain ⟨l, hl, he, _⟩ := list_of (fun x : UInt8 => Value.int .u8 x.toNat) (fun _ => True) V n (fun i hi => by
    obtain ⟨k, y, hy⟩ := h4 i hi
    obtain ⟨z, hz, _, hw⟩ := DataW.trod_int Try.underlying5 hy
    simp at hz
    have hb := bounds_u8 hw
    refine ⟨UInt8.ofNat z.toNat, ?_, trivial⟩
    rw [hz]
    congr 1
    have : (UInt8.ofNat z.toNat).toNat = z.toNat := by rw [UInt8.toNat_ofNat']; omega
    rw [this]; omega)
  rw [he] at h3
  subst hl
  exact ⟨A, c, l, rfl, h1, h2, h3⟩

theorem open_is {v : Value} {x : DataW H × List MemPlace} (h : DataW.trod enc Try.prog w 0 spare held fuel 37 [v] = some x) :
    ∃ (A : Option Addr) (c : Nat) (l : List Int), v = .slice A l.length c ∧ l.length ≤ c ∧ c ≤ maxLen ∧ Rd w Any' 1 A l.length (i64s l) := by
  obtain ⟨A, n, c, V, rfl, h1, h2, h3, h4⟩ := open_rd Try.underlying37 (by kernel_rfl) h
  obtain ⟨l, hl, he, _⟩ := list_of (fun x : Int => Value.int .i64 x) (fun _ => True) V n (fun i hi => by
    obtain ⟨k, y, hy⟩ := h4 i hi
    obtain ⟨z, hz, _, hw⟩ := DataW.trod_int Try.underlying3 hy
    simp at hz
    exact ⟨z, hz, trivial⟩)
  rw [he] at h3
  subst hl
  exact ⟨A, c, l, rfl, h1, h2, h3⟩

theorem cells_bs : Try.prog.cellsOf 22 = 1 := by kernel_rfl
theorem cells_bool : Try.prog.cellsOf 4 = 1 := by kernel_rfl
theorem cells_fault : Try.prog.cellsOf 62 = 3 := by kernel_rfl
theorem cells_errno : Try.prog.cellsOf 27 = 1 := by kernel_rfl
theorem cells_prm : Try.prog.cellsOf 24 = 4 := by kernel_rfl
theorem cells_int : Try.prog.cellsOf 3 = 1 := by kernel_rfl

theorem flat5_inv (its : List (Strm × Value)) (j : Nat) (u : Value) (h : (its.flatMap strmC)[j]? = some u) : ∃ (m : Nat) (hm : m < its.length) (i : Nat), i < 5 ∧ j = m * 5 + i ∧ (strmC its[m])[i]? = some u := by
  have hl : (its.flatMap strmC).length = its.length * 5 := by
    clear h
    induction its with
    | nil => rfl
    | cons t r ih => rw [List.flatMap_cons, List.length_append, ih, List.length_cons]; show 5 + _ = _; omega
  have hj := (List.getElem?_eq_some_iff.1 h).1
  have hm : j / 5 < its.length := by omega
  have e : j = j / 5 * 5 + j % 5 := by omega
  refine ⟨j / 5, hm, j % 5, by omega, e, ?_⟩
  rw [e, flat5 its _ hm _ (by omega)] at h
  exact h

theorem list5 {l : List Value} (h : l.length = 5) : ∃ a b c d e, l = [a, b, c, d, e] := by
  match l, h with
  | [a, b, c, d, e], _ => exact ⟨a, b, c, d, e, rfl⟩

/-- One stream's cells. -/
theorem open_strm {cs : List Value} {x : DataW H × List MemPlace} (h : DataW.trod enc Try.prog w 0 spare held fuel 64 cs = some x) :
    ∃ (t : Strm × Value), cs = strmC t ∧ BsAt w Any' t.2 t.1.bs ∧ CapOk t.2 ∧ t.1.bs.length ≤ maxLen := by
  obtain ⟨y0, y1, y2, n, _, hl, h0, h1, h2⟩ := trod_struct3 Try.underlying64 h
  have hl5 : cs.length = 5 := hl.trans (by kernel_rfl)
  obtain ⟨a, b, c, d, e, rfl⟩ := list5 hl5
  dsimp only at h0 h1 h2
  rw [cells_bs] at h0
  rw [cells_bool] at h1
  rw [cells_fault] at h2
  dsimp only [List.drop, List.take] at h0 h1 h2
  obtain ⟨A, cp, bs, rfl, hb1, hb2, hr⟩ := open_bs h0
  obtain ⟨z, hz, _⟩ := DataW.trod_bool Try.underlying4 h1
  simp at hz
  subst hz
  obtain ⟨z0, z1, z2, n2, _, _, g0, g1, g2⟩ := trod_struct3 Try.underlying62 h2
  dsimp only at g0 g1 g2
  rw [cells_errno] at g0
  rw [cells_int] at g1
  rw [cells_int] at g2
  dsimp only [List.drop, List.take] at g0 g1 g2
  obtain ⟨c', hc, _⟩ := DataW.trod_int Try.underlying27 g0
  obtain ⟨d', hd, _⟩ := DataW.trod_int Try.underlying3 g1
  obtain ⟨e', he, _⟩ := DataW.trod_int Try.underlying3 g2
  simp at hc hd he
  subst hc hd he
  have hle : bs.length ≤ maxLen := Nat.le_trans hb1 hb2
  exact ⟨(⟨bs, z, c', d', e'⟩, .slice A bs.length cp), rfl, ⟨A, cp, rfl, hr⟩, fun A' n' c' e => by cases e; exact hb1, hle⟩

theorem open_strms {v : Value} {x : DataW H × List MemPlace} (h : DataW.trod enc Try.prog w 0 spare held fuel 36 [v] = some x) :
    ∃ (A : Option Addr) (c : Nat) (l : List Strm), v = .slice A l.length c ∧ l.length ≤ c ∧ c ≤ maxLen ∧ StrmsAt w Any' (.slice A l.length c) l ∧ ∀ s ∈ l, s.bs.length ≤ maxLen := by
  rcases open_slice Try.underlying36 h with ⟨h0, _⟩ | ⟨a, len, cap, m, n, D, Pl, h0, _, hl, hm, hmm, _, hx⟩
  · simp at h0
    subst h0
    exact ⟨none, 0, [], rfl, Nat.le_refl _, Nat.zero_le _, ⟨none, 0, [], rfl, rfl, Rd.nil _ _ _ _, fun _ h => by cases h⟩, fun _ h => by cases h⟩
  · simp at h0
    subst h0
    have hlm : len ≤ m := by rw [hmm]; split <;> omega
    have hc5 : Try.prog.cellsOf 64 = 5 := by kernel_rfl
    rw [hc5] at hx
    have key : ∀ i, i < len → ∃ t : Strm × Value, (BsAt w Any' t.2 t.1.bs ∧ CapOk t.2 ∧ t.1.bs.length ≤ maxLen) ∧ ∀ k u, (strmC t)[k]? = some u → w.cell? ((a.add (i * 5)).add k) = some u := fun i hi => by
      obtain ⟨cs', h1, h2⟩ := hx i (by omega)
      obtain ⟨t, rfl, hb, hcp, hln⟩ := open_strm h2
      obtain ⟨_, hlen, hcell⟩ := World.cells?_some h1
      refine ⟨t, ⟨hb, hcp, hln⟩, fun k u hu => ?_⟩
      have hk : k < 5 := (List.getElem?_eq_some_iff.1 hu).1
      rw [hcell k hk]; exact hu
    have mk : ∀ n, n ≤ len → ∃ its : List (Strm × Value), its.length = n ∧ (∀ t ∈ its, BsAt w Any' t.2 t.1.bs ∧ CapOk t.2 ∧ t.1.bs.length ≤ maxLen) ∧ ∀ i (hi : i < its.length) k u, (strmC its[i])[k]? = some u → w.cell? ((a.add (i * 5)).add k) = some u := by
      intro n
      induction n with
      | zero => intro _; exact ⟨[], rfl, fun _ h => (by cases h), fun i hi => (by simp at hi)⟩
      | succ n ih =>
        intro hn
        obtain ⟨its, hl1, hp, hc⟩ := ih (by omega)
        obtain ⟨t, hpt, hct⟩ := key n (by omega)
        refine ⟨its ++ [t], by simp [hl1], fun y hy => ?_, fun i hi k u hu => ?_⟩
        · rcases List.mem_append.1 hy with hy | hy
          · exact hp y hy
          · simp at hy; subst hy; exact hpt
        · by_cases hin : i < its.length
          · rw [List.getElem_append_left hin] at hu
            exact hc i hin k u hu
          · have : i = n := by simp at hi; omega
            subst this
            rw [List.getElem_append_right (by omega)] at hu
            simp [hl1] at hu
            exact hct k u hu
    obtain ⟨its, hil, hip, hic⟩ := mk len (Nat.le_refl _)
    have hln : (its.map (fun t => t.1)).length = len := by simp [hil]
    refine ⟨some a, cap, its.map (fun t => t.1), by rw [hln], by rw [hln]; exact hl, hm, ⟨some a, cap, its, rfl, rfl, ⟨?_, fun hn => ?_⟩, fun t ht => ⟨(hip t ht).1, (hip t ht).2.1⟩⟩, fun s hs => ?_⟩
    · rw [hln, ← hil]
      clear hip hic hil hln
      induction its with
      | nil => rfl
      | cons t r ih => rw [List.flatMap_cons, List.length_append, ih, List.length_cons]; show 5 + _ = _; omega
    · rw [hln] at hn
      have h1 := cell_spot (hic 0 (by omega) 0 _ rfl)
      obtain ⟨b, o, sp⟩ := a
      have hs : sp = none := by simpa [Addr.add] using h1.2
      subst hs
      refine ⟨b, o, rfl, by simpa [Addr.add] using h1.1, trivial, fun j u hu => ?_⟩
      obtain ⟨k, hk, i, hi5, rfl, hu2⟩ := flat5_inv its j u hu
      have := hic k hk i u hu2
      rw [add_flat, add_flat, Nat.add_assoc] at this
      exact this
    · obtain ⟨t, ht, rfl⟩ := List.mem_map.1 hs
      exact (hip t ht).2.2

set_option maxRecDepth 100000 in
/-- A stage's parameters. -/
theorem open_prm {r : Reach} {b0 : Nat} {v : Value} {d : DataW H} {ps : List MemPlace} (hv : Value.okWide Try.prog w r b0 24 v) (h : DataW.Trod enc Try.prog w 0 spare held 24 v d ps) :
    ∃ p : Prm, PAt w Any' v p ∧ -9223372036854775808 ≤ p.n ∧ p.n ≤ 9223372036854775807 ∧ p.a.length ≤ maxLen ∧ p.b.length ≤ maxLen := by
  obtain ⟨cs, rfl, hsz⟩ := okWide_struct Try.underlying24 hv
  have hsz : cs.size = 4 := hsz.trans cells_prm
  obtain ⟨c0, c1, c2, c3, rfl⟩ := Go.Joins.array4 hsz
  obtain ⟨fuel, h⟩ := h
  have ec : (Value.agg #[c0, c1, c2, c3]).cells.toList = [c0, c1, c2, c3] := rfl
  rw [ec] at h
  obtain ⟨y0, y1, y2, y3, n, _, _, h0, h1, h2, h3⟩ := Go.Joins.trod_struct4 Try.underlying24 h
  dsimp only at h0 h1 h2 h3
  rw [cells_int] at h0
  rw [cells_int] at h1
  rw [cells_bs] at h2
  rw [cells_bs] at h3
  dsimp only [List.drop, List.take, List.toArray] at h0 h1 h2 h3
  obtain ⟨k, hk, _⟩ := DataW.trod_int Try.underlying3 h0
  obtain ⟨m, hm, _, hw⟩ := DataW.trod_int Try.underlying3 h1
  simp at hk hm
  subst hk hm
  obtain ⟨A, ca, a, rfl, ha1, ha2, hA⟩ := open_bs h2
  obtain ⟨B, cb, b, rfl, hb1, hb2, hB⟩ := open_bs h3
  have hn := bounds_i64 hw
  exact ⟨⟨k, m, a, b⟩, ⟨A, ca, B, cb, rfl, hA, hB⟩, hn.1, hn.2, Nat.le_trans ha1 ha2, Nat.le_trans hb1 hb2⟩

/-- A slice's value is its one cell. -/
theorem slice_cells {P : Program} {r : Reach} {b0 : Nat} {t e : TypeId} {v : Value} (ht : P.underlying t = some (.slice e)) (hv : Value.okWide P w r b0 t v) : v.cells.toList = [v] := by
  simp only [Value.okWide, ht, Cell.okWide, Cell.ok] at hv
  cases v <;> first | rfl | (simp at hv)
end

/-- Arguments read on as they did. -/
theorem trodAll_stays {H : Type} {enc : TypeId × Value → H} {P : Program} (hl : laidOutB P = true) {W W' : World} {sp' : Nat → Bool} : ∀ {ts : List TypeId} {vs : List Value} {ds : List (DataW H)} {ps : List MemPlace},
    (ts.all fun t => P.readableRec t && decide (t < P.types.size)) = true → DataW.TrodAll enc P W 0 (fun _ => true) true ts vs ds ps → (∀ p ∈ ps, W.sameAt W' p) → (∀ p ∈ ps, sp' p.block = true) → DataW.TrodAll enc P W' 0 sp' true ts vs ds ps := by
  intro ts
  induction ts with
  | nil =>
    intro vs ds ps _ h _ _
    obtain ⟨rfl, rfl, rfl⟩ := trodAll_nil h
    exact rfl
  | cons t ts ih =>
    intro vs ds ps ht h hs hsp
    obtain ⟨v, vs1, d, ds1, a, b, rfl, rfl, rfl, h1, h2⟩ := trodAll_cons h
    simp only [List.all_cons, Bool.and_eq_true, decide_eq_true_eq] at ht
    exact ⟨a, b, Go.WideElems.Trod_stays hl ht.1.1 ht.1.2 h1 (fun p hp => hs p (by simp [hp])) (fun p hp => hsp p (by simp [hp])), ih ht.2 h2 (fun p hp => hs p (by simp [hp])) (fun p hp => hsp p (by simp [hp])), rfl⟩

/-- What a law's row asks behind the call, where below the heap's old size all is as it was. -/
theorem post_of_below {H : Type} {enc : TypeId × Value → H} {P : Program} {f : Func} {s : ChangeSpec} {apart fresh handsOn again : Bool} {W W' : World} {args : Array Value} {v : Value} {ds : List (DataW H)} {before : List MemPlace}
    (hl : laidOutB P = true) (hW : DataW.Whole enc P f.params.toList [] apart W args.toList ds [] before) (hsv : s.vars = []) (hA : DataW.TrodAll enc P W 0 (fun _ => true) true f.params.toList args.toList ds before)
    (ht : (f.params.toList.all fun t => P.readableRec t && decide (t < P.types.size)) = true)
    (hres : ∀ (b : Nat) (sp : Nat → Bool) (hd : Bool), DataW.TrodAll enc P W' b sp hd f.resultTypes.toList (v.resultList f.resultTypes.size) (s.fn H (ds ++ [])).results [])
    (hargs : (s.fn H (ds ++ [])).args = ds) (hvars : (s.fn H (ds ++ [])).vars = []) (hb : Below W.heap.size W W')
    (hok : ∀ (j : Nat) (t : TypeId) (r : Value), f.resultTypes[j]? = some t → (v.resultList f.resultTypes.size)[j]? = some r → Value.okWide P W' .any 0 t r) :
    s.post enc P f apart fresh handsOn again W args v W' := by
  have hlt : ∀ p ∈ before, p.block < W.heap.size := fun p hp => hW.lt p hp
  have hold : ∀ p ∈ before, (fun b => decide (b < W.heap.size)) p.block = true := fun p hp => by simpa using hlt p hp
  have harg : ∀ sp : Nat → Bool, (∀ p ∈ before, sp p.block = true) → DataW.TrodAll enc P W' 0 sp true f.params.toList args.toList (s.fn H (ds ++ [])).args before := fun sp hsp => by
    rw [hargs]
    exact trodAll_stays hl ht hA (fun p hp => hb.same (hlt p hp)) hsp
  have hvar : ∀ sp : Nat → Bool, DataW.TrodVars enc P W' sp s.vars (s.fn H (ds ++ [])).vars [] := fun sp => by
    rw [hvars, hsv]; exact rfl
  refine ⟨ds, [], before, [], before, [], by rw [hsv]; exact hW, hres _ _ _, harg _ hold, hvar _, World.keptBut_mono (fun p hp => ⟨hp, by simpa using hp⟩) (hb.frame _), fun _ => ?_⟩
  obtain ⟨_, _, _, _, _, hz, hn⟩ := hW
  refine ⟨hok, _, _, ([] ++ before) ++ [], ⟨[] ++ before, [], trodAll_append (harg _ (fun _ _ => rfl)) (hres _ _ _), hvar _, rfl, ?_, ?_⟩, ?_⟩
  · intro b off hp
    have hp' : MemPlace.cell b off ∈ before := by simpa using hp
    rw [hb.frozen (p := ⟨b, off, none⟩) (hlt _ hp')]
    exact hz b off hp'
  · intro ha
    simpa using hn ha
  · intro p hp _
    simpa using hp
end Go.Proofs.Ytkgmbomfkdkofaa

/- JoinRefuses: calls that are not due change nothing: the function returns true for every input, and its arguments read as before. No conditions. -/
namespace Go.Proofs.Ytkgmbomfkdkofaa.JoinRefuses
open Go Go.ChangeShapes Go.WideShapes Go.ChangeAt Go.RowKit

theorem own : ownKnob Try.prog.godebug = none := by kernel_rfl

set_option maxRecDepth 100000 in
theorem contract (H : Type) (enc : TypeId × Value → H) (W : World) (base : Nat) (args : Array Value) (ds gs : List (DataW H)) (before : List MemPlace)
    (hval : ∀ (j : Nat) t v, Try.f6.params[j]? = some t → args[j]? = some v → Value.okWide Try.prog W .any base t v)
    (hW : DataW.Whole enc Try.prog Try.f6.params.toList Rows.joinRefusesSpec.vars false W args.toList ds gs before) :
    Calls Try.prog 6 args W fun e W' => ∃ v, e = .returned v ∧ Rows.joinRefusesSpec.post enc Try.prog Try.f6 false true false false W args v W' := by
  have hW' := hW
  obtain ⟨p, q, hA0, hV, rfl, hfz, hnd⟩ := hW
  have hA : DataW.TrodAll enc Try.prog W 0 (fun _ => true) true Try.f6.params.toList args.toList ds p := hA0
  have hA9 := hA
  rw [Try.params6] at hA hval
  obtain ⟨v0, vs0, d0, ds0, p0, q0, hargs, rfl, rfl, h0, tt0⟩ := trodAll_cons hA
  obtain ⟨v1, vs1, d1, ds1, p1, q1, rfl, rfl, rfl, h1, tt1⟩ := trodAll_cons tt0
  obtain ⟨v2, vs2, d2, ds2, p2, q2, rfl, rfl, rfl, h2, tt2⟩ := trodAll_cons tt1
  obtain ⟨v3, vs3, d3, ds3, p3, q3, rfl, rfl, rfl, h3, tt3⟩ := trodAll_cons tt2
  obtain ⟨v4, vs4, d4, ds4, p4, q4, rfl, rfl, rfl, h4, tt4⟩ := trodAll_cons tt3
  obtain ⟨rfl, rfl, rfl⟩ := trodAll_nil tt4
  obtain rfl : args = #[v0, v1, v2, v3, v4] := by cases args; simp_all
  obtain ⟨rfl, rfl⟩ := trodVars_none hV
  have hW9 := hW'
  rw [List.append_nil] at hW9
  obtain ⟨P0, hp0, na0, nb0, la0, lb0⟩ := open_prm (hval 0 24 v0 rfl rfl) h0
  have e1 := slice_cells Try.underlying36 (hval 1 36 v1 rfl rfl)
  obtain ⟨f1, h1⟩ := h1
  rw [e1] at h1
  obtain ⟨A1, c1, l1, rfl, lc1, lm1, r1, b1⟩ := open_strms h1
  have e2 := slice_cells Try.underlying37 (hval 2 37 v2 rfl rfl)
  obtain ⟨f2, h2⟩ := h2
  rw [e2] at h2
  obtain ⟨A2, c2, l2, rfl, lc2, lm2, r2⟩ := open_is h2
  obtain ⟨n3, rfl, rfl, rfl, wf3⟩ := open_int Try.underlying3 (hval 3 3 v3 rfl rfl) h3
  have nn3 := bounds_i64 wf3
  have e4 := slice_cells Try.underlying22 (hval 4 22 v4 rfl rfl)
  obtain ⟨f4, h4⟩ := h4
  rw [e4] at h4
  obtain ⟨A4, c4, l4, rfl, lc4, lm4, r4⟩ := open_bs h4
  have hE : Join.E W.heap.size W := trivial
  refine (Join.refuses_law P0 l1 l2 n3 l4 v0 A1 A2 A4 c1 c2 c4 W na0 nb0 la0 lb0 hp0 (Nat.le_trans lc1 lm1) r1 b1 (Nat.le_trans lc2 lm2) r2 nn3 lc4 lm4 r4 hE).mono fun e W' ⟨he, hc⟩ => ?_
  subst he
  exact ⟨_, rfl, post_of_below (by kernel_rfl) hW9 rfl hA9 (by kernel_rfl) (fun _ _ _ => trodAll_cons_mk (shut_bool Try.underlying4 _) trodAll_mk0) rfl rfl (hc.below (Nat.le_refl _) (fun _ h => h.elim)) (ok_one (by kernel_rfl) rfl (okWide_bool_mk Try.underlying4 _))⟩

set_option maxRecDepth 100000 in
theorem lifted (os : Os) (started : os.Started) (H : Type) (enc : TypeId × Value → H) :
    ReturnsInHanded {} Try.checked os 6 .any (Rows.joinRefusesSpec.pre6 enc Try.prog Try.f6 Rows.joinRefusesRow.domain false) (Rows.joinRefusesSpec.post enc Try.prog Try.f6 false true false false) := by
  refine returnsInHanded_of_change (C := Try.checked) (s := Rows.joinRefusesSpec) own started (by kernel_rfl) Try.func6
    (ChangeSpec.witness6 (enc := enc) (C := Try.checked) (s := Rows.joinRefusesSpec) false ⟨#[], #[.agg #[.int .i64 0, .int .i64 0, .slice none 0 0, .slice none 0 0], .slice none 0 0, .slice none 0 0, .int .i64 0, .slice none 0 0], []⟩ 8 (by kernel_rfl) (by kernel_rfl) (by kernel_rfl) (by kernel_rfl)) ?_
  intro W base args ds gs before hval hW _ _
  exact contract H enc W base args ds gs before hval hW

end Go.Proofs.Ytkgmbomfkdkofaa.JoinRefuses
namespace Go.Proofs.Ytkgmbomfkdkofaa
open Go Go.ChangeShapes Go.WideShapes Go.ChangeAt Go.RowKit
theorem joinRefuses_said : Rows.JoinRefusesSaid :=
  OpenClaim.holds_of_wide 6 Try.f6 rfl rfl rfl rfl rfl rfl rfl ⟨rfl, rfl, rfl, rfl, rfl⟩ rfl rfl rfl rfl rfl (by kernel_rfl) Try.func6 (by kernel_rfl)
    (of_decide_eq_true (by kernel_rfl)) (by unfold Func.isWrapper; first | (rw [if_pos (by decide +kernel)]; kernel_rfl) | (rw [if_neg (by decide +kernel)]; exact ⟨rfl, rfl⟩))
    (fun os started H enc _ => JoinRefuses.lifted os started H enc)
end Go.Proofs.Ytkgmbomfkdkofaa
