/- CountMakes. -/
import Derived.Test.YtkgmbomfkdkofaaCountAwake
import Derived.Test.YtkgmbomfkdkofaaCountNewBad
import Derived.Test.YtkgmbomfkdkofaaPrmSame
import Derived.Test.YtkgmbomfkdkofaaRef4B
import Derived.BigQuiet
import Derived.Outline
namespace Go.Proofs.Ytkgmbomfkdkofaa.Count
open Go Go.RowKit

theorem nil_yes (w : World) : (binOp .eql 31 .nilIface .nilIface).run Try.prog w = .ok (.bool true) w := by kernel_rfl

/-- Parameters are stored into a box of their own. -/
theorem wpList_store_prm {ops : Array Oper} {rest : List Oper} {o : Oper} {a : Act} {w : World} {Q : Exit → Act → World → Prop} (hgd : o.guard = none) (x y : Operand) (ho : o.op = .store 24 x y)
    (g : Nat) (c0 c1 : Int) (A B : Option Addr) (la ca lb cb : Nat) (hx : a.eval x = .pointer (some ⟨g, 0, none⟩)) (hy : a.eval y = .agg #[.int .i64 c0, .int .i64 c1, .slice A la ca, .slice B lb cb])
    (old : Array Value) (hg : Blk w g 24 old) (hold : old.size = 4)
    (h : ∀ w', Blk w' g 24 #[.int .i64 c0, .int .i64 c1, .slice A la ca, .slice B lb cb] → Chg (fun k => k = g) w w' → wpList Try.prog ops Q rest (a.put o.dst undef) w') : wpList Try.prog ops Q (o :: rest) a w :=
  wpList_store_row hgd _ x y ho g _ hx hy _ old hg info_params hold (by simp [Value.oneCell']) (h _ (blk_setRow hg) (chg_setRow (Chg.refl (fun k => k = g) _) (.inl rfl) _))

theorem want_zero {p : Prm} (h : wantOf 9 p = 0) : fitP p := by
  unfold wantOf at h
  by_cases h0 : refCheck p = 0
  · rw [if_pos h0] at h
    by_cases h1 : p.kind = 9
    · exact ⟨h0, h1⟩
    · rw [if_neg h1] at h; cases h
  · rw [if_neg h0] at h; exact absurd h h0
theorem want_not {p : Prm} (h : wantOf 9 p ≠ 0) : (refCheck p ≠ 0 ∧ wantOf 9 p = refCheck p) ∨ (refCheck p = 0 ∧ p.kind ≠ 9 ∧ wantOf 9 p = 10) := by
  unfold wantOf at h ⊢
  by_cases h0 : refCheck p = 0
  · rw [if_pos h0] at h ⊢
    by_cases h1 : p.kind = 9
    · rw [if_pos h1] at h; exact absurd rfl h
    · exact .inr ⟨h0, h1, by rw [if_neg h1]⟩
  · exact .inl ⟨h0, by rw [if_neg h0]⟩

set_option maxHeartbeats 4000000 in
set_option maxRecDepth 100000 in
theorem makes_law (p : Prm) (v : Value) (w : World)
    (hn0 : -9223372036854775808 ≤ p.n) (hn1 : p.n ≤ 9223372036854775807) (hla : p.a.length ≤ maxLen) (hlb : p.b.length ≤ maxLen) (hv : PAt w (fun _ => True) v p) (hE : E w.heap.size w) :
    Calls Try.prog 3 #[v] w (TruePost w) := by
  have hEE : ∀ W, Chg (fun _ => False) w W → E w.heap.size W := fun W hW => E_on (hW.below (Nat.le_refl _) (fun _ h => h.elim)) hE
  have haw := fun (W : World) (hW : Chg (fun _ => False) w W) => awake_any w.heap.size W hW.size (hEE W hW)
  have hvv := fun (W : World) (hW : Chg (fun _ => False) w W) => hv.chg hW (fun _ _ _ h => h)
  have hv0 := hv
  obtain ⟨A1, c1, B1, d1, rfl, _, _⟩ := hv0
  have hhv : ∀ W : World, Calls Try.prog 8 #[.agg #[.int .i64 p.kind, .int .i64 p.n, .slice A1 p.a.length c1, .slice B1 p.b.length d1], .slice none 0 0, .slice none 0 0] W (BoolPost W (heavyB p.a.length p.b.length [] [])) := fun W =>
    heavy_any (fun _ => True) p.kind p.n A1 B1 p.a.length c1 p.b.length d1 none none 0 0 [] [] W hla hlb (by simp [maxLen]) ⟨none, 0, [], rfl, rfl, ⟨rfl, fun h => absurd h (Nat.lt_irrefl 0)⟩, fun _ h => by cases h⟩ (fun _ h => by cases h) ⟨rfl, fun h => absurd h (Nat.lt_irrefl 0)⟩ (by simp) (fun _ h => by cases h)
  have hst : Blk (w.alloc (.cells #[.int .i64 p.kind, .int .i64 p.n, .slice A1 p.a.length c1, .slice B1 p.b.length d1] 24)) w.heap.size 24 #[.int .i64 p.kind, .int .i64 p.n, .slice A1 p.a.length c1, .slice B1 p.b.length d1] := Blk.new _ _ _
  generalize hh : heavyB p.a.length p.b.length [] [] = hβ at *
  replace haw := Lib.hid haw
  replace hhv := Lib.hid hhv
  cases hβ
  · have hsz := heavyB_false hh
    have hp : p.Fine := ⟨hn0, hn1, by omega, by omega⟩
    have hcp := fun (W : World) (hW : Chg (fun _ => False) w W) => copy_params_any (fun _ => True) p hp _ W (hvv W hW)
    have hck := fun (W : World) (hW : Chg (fun _ => False) w W) => check_any (fun _ => True) p hp _ W (hvv W hW)
    have hsm := fun (D : Nat → Prop) (u : Value) (W : World) (hW : Chg (fun _ => False) w W) (hu : PAt W D u p) => prm_same D (fun _ => True) p u _ W hu (hvv W hW)
    replace hcp := Lib.hid hcp
    replace hsm := Lib.hid hsm
    replace hvv := Lib.hid hvv
    by_cases hq : wantOf 9 p = 0
    · have hI := want_zero hq
      have hkk : (p.kind != 9) = false := by rw [show p.kind = 9 from hI.2]; rfl
      rw [show refCheck p = 0 from hI.1] at hck
      have hnew := fun (W : World) (hW : Chg (fun _ => False) w W) (u : Value) (D : Nat → Prop) (hu : PAt W D u p) => new_any D p hI u W hu w.heap.size hW.size (hEE W hW)
      have hnil := nil_no
      replace hck := Lib.hid hck
      replace hnew := Lib.hid hnew
      clear hv hE hEE hh hsz hp hI hq
      go_enter Try.func3, Try.ntmps3
      go_wp2_with (first
        | (go_at_call 8
           refine (hhv.out _).mono ?_
           rintro e1 w1 ⟨rfl, hc1⟩
           have hb1 := hst.chg hc1 (fun h => h)
           have k1 : Chg (fun _ => False) w w1 := ((Chg.refl _ _).alloc _).trans hc1 (fun _ h _ => h)
           have q0 : w1.cell? ⟨w.heap.size, 0, none⟩ = some (.int .i64 p.kind) := (hb1.cell 0).trans rfl
           have q1 : w1.cell? ⟨w.heap.size, 1, none⟩ = some (.int .i64 p.n) := (hb1.cell 1).trans rfl
           have q2 : w1.cell? ⟨w.heap.size, 2, none⟩ = some (.slice A1 p.a.length c1) := (hb1.cell 2).trans rfl
           have q3 : w1.cell? ⟨w.heap.size, 3, none⟩ = some (.slice B1 p.b.length d1) := (hb1.cell 3).trans rfl)
        | (go_at_call 10
           refine (hck.out _ k1).mono ?_
           rintro e2 w2 ⟨rfl, hc2⟩
           have hb2' := hb1.chg hc2 (fun h => h)
           have k2 : Chg (fun _ => False) w w2 := k1.trans hc2 (fun _ h _ => h)
           have r0 : w2.cell? ⟨w.heap.size, 0, none⟩ = some (.int .i64 p.kind) := (hb2'.cell 0).trans rfl
           have r1 : w2.cell? ⟨w.heap.size, 1, none⟩ = some (.int .i64 p.n) := (hb2'.cell 1).trans rfl
           have r2 : w2.cell? ⟨w.heap.size, 2, none⟩ = some (.slice A1 p.a.length c1) := (hb2'.cell 2).trans rfl
           have r3 : w2.cell? ⟨w.heap.size, 3, none⟩ = some (.slice B1 p.b.length d1) := (hb2'.cell 3).trans rfl)
        | (go_at_call 11
           refine (hcp.out w2 k2).mono ?_
           intro e3 w3 hc3
           obtain ⟨v3, rfl, hp3, hb3⟩ := hc3
           have hp3' := hp3
           obtain ⟨A3, c3, B3, d3, rfl, _, _⟩ := hp3'
           have k3 : Chg (fun _ => False) w w3 := k2.trans (Chg.of_below (S := fun _ => False) hb3) (fun _ h _ => h)
           have hb3' := hb2'.chg (Chg.of_below (S := fun _ => False) hb3) (fun h => h))
        | (refine wpList_store_prm rfl (.tmp 4) (.tmp 20) rfl w3.heap.size _ _ _ _ _ _ _ _ rfl rfl _ (Blk.new w3 _ _) rfl ?_
           intro w4 hG4 hc4
           have k34 : Chg (fun _ => False) w3 w4 := ((Chg.refl _ _).alloc _).trans hc4 (fun k hk hlt => by omega)
           have k4 : Chg (fun _ => False) w w4 := k3.trans k34 (fun _ h _ => h)
           have hb4' := hb3'.chg k34 (fun h => h)
           have hp4 := Lib.hid (hp3.chg k34 (fun _ _ _ h => h))
           have s0 : w4.cell? ⟨w3.heap.size, 0, none⟩ = some (.int .i64 p.kind) := (hG4.cell 0).trans rfl
           have s1 : w4.cell? ⟨w3.heap.size, 1, none⟩ = some (.int .i64 p.n) := (hG4.cell 1).trans rfl
           have s2 : w4.cell? ⟨w3.heap.size, 2, none⟩ = some (.slice A3 p.a.length c3) := (hG4.cell 2).trans rfl
           have s3 : w4.cell? ⟨w3.heap.size, 3, none⟩ = some (.slice B3 p.b.length d3) := (hG4.cell 3).trans rfl)
        | (go_at_call 12
           refine (hnew.out w4 k4 _ _ hp4.out).mono ?_
           rintro e5 w5 ⟨m1, F1, rfl, hr1, hF1, hc5⟩
           have k5 : Chg (fun _ => False) w w5 := k4.trans hc5 (fun _ h _ => h)
           have hb5' := hb4'.chg hc5 (fun h => h)
           have hG5 := hG4.chg hc5 (fun h => h)
           have hp5 := Lib.hid (hp4.out.chg hc5 (fun _ _ _ h => h))
           have t0 : w5.cell? ⟨w3.heap.size, 0, none⟩ = some (.int .i64 p.kind) := (hG5.cell 0).trans rfl
           have t1 : w5.cell? ⟨w3.heap.size, 1, none⟩ = some (.int .i64 p.n) := (hG5.cell 1).trans rfl
           have t2 : w5.cell? ⟨w3.heap.size, 2, none⟩ = some (.slice A3 p.a.length c3) := (hG5.cell 2).trans rfl
           have t3 : w5.cell? ⟨w3.heap.size, 3, none⟩ = some (.slice B3 p.b.length d3) := (hG5.cell 3).trans rfl
           have u0 : w5.cell? ⟨w.heap.size, 0, none⟩ = some (.int .i64 p.kind) := (hb5'.cell 0).trans rfl
           have u1 : w5.cell? ⟨w.heap.size, 1, none⟩ = some (.int .i64 p.n) := (hb5'.cell 1).trans rfl
           have u2 : w5.cell? ⟨w.heap.size, 2, none⟩ = some (.slice A1 p.a.length c1) := (hb5'.cell 2).trans rfl
           have u3 : w5.cell? ⟨w.heap.size, 3, none⟩ = some (.slice B1 p.b.length d1) := (hb5'.cell 3).trans rfl)
        | (go_at_call 13
           refine (hsm.out _ _ w5 k5 hp5.out).mono ?_
           rintro e6 w6 ⟨rfl, hc6⟩
           have k6 : Chg (fun _ => False) w w6 := k5.trans hc6 (fun _ h _ => h))
        | (go_at_call 9
           refine (haw.out _ k6).mono ?_
           rintro e9 w9 ⟨rfl, hc9⟩))
      go_ret
      exact ⟨rfl, k6.trans hc9 (fun _ h _ => h)⟩
    · have hnew := fun (D : Nat → Prop) (u : Value) (W : World) (hu : PAt W D u p) => new_bad D p hp (by omega) hq u W hu
      have hny := nil_yes
      have hn := want_not hq
      clear hv hE hEE hh hsz hp hq
      generalize refCheck p = c at *
      generalize wantOf 9 p = r at *
      replace hck := Lib.hid hck
      replace hnew := Lib.hid hnew
      rcases hn with ⟨h0, rfl⟩ | ⟨rfl, h1, rfl⟩
      · have h0a : (r == 0) = false := by rw [beq_eq_false_iff_ne]; exact h0
        have h0b : (r != 0) = true := by rw [bne_iff_ne]; exact h0
        have h0c : (r != r) = false := by simp
        replace h0 := Lib.hid h0
        go_enter Try.func3, Try.ntmps3
        go_wp2_with (first
          | (go_at_call 8
             refine (hhv.out _).mono ?_
             rintro e1 w1 ⟨rfl, hc1⟩
             have hb1 := hst.chg hc1 (fun h => h)
             have k1 : Chg (fun _ => False) w w1 := ((Chg.refl _ _).alloc _).trans hc1 (fun _ h _ => h)
             have q0 : w1.cell? ⟨w.heap.size, 0, none⟩ = some (.int .i64 p.kind) := (hb1.cell 0).trans rfl
             have q1 : w1.cell? ⟨w.heap.size, 1, none⟩ = some (.int .i64 p.n) := (hb1.cell 1).trans rfl
             have q2 : w1.cell? ⟨w.heap.size, 2, none⟩ = some (.slice A1 p.a.length c1) := (hb1.cell 2).trans rfl
             have q3 : w1.cell? ⟨w.heap.size, 3, none⟩ = some (.slice B1 p.b.length d1) := (hb1.cell 3).trans rfl)
          | (go_at_call 10
             refine (hck.out _ k1).mono ?_
             rintro e2 w2 ⟨rfl, hc2⟩
             have hb2' := hb1.chg hc2 (fun h => h)
             have k2 : Chg (fun _ => False) w w2 := k1.trans hc2 (fun _ h _ => h)
             have r0 : w2.cell? ⟨w.heap.size, 0, none⟩ = some (.int .i64 p.kind) := (hb2'.cell 0).trans rfl
             have r1 : w2.cell? ⟨w.heap.size, 1, none⟩ = some (.int .i64 p.n) := (hb2'.cell 1).trans rfl
             have r2 : w2.cell? ⟨w.heap.size, 2, none⟩ = some (.slice A1 p.a.length c1) := (hb2'.cell 2).trans rfl
             have r3 : w2.cell? ⟨w.heap.size, 3, none⟩ = some (.slice B1 p.b.length d1) := (hb2'.cell 3).trans rfl)
          | (go_at_call 11
             refine (hcp.out w2 k2).mono ?_
             intro e3 w3 hc3
             obtain ⟨v3, rfl, hp3, hb3⟩ := hc3
             have hp3' := hp3
             obtain ⟨A3, c3, B3, d3, rfl, _, _⟩ := hp3'
             have k3 : Chg (fun _ => False) w w3 := k2.trans (Chg.of_below (S := fun _ => False) hb3) (fun _ h _ => h)
             have hb3' := hb2'.chg (Chg.of_below (S := fun _ => False) hb3) (fun h => h))
          | (refine wpList_store_prm rfl (.tmp 4) (.tmp 20) rfl w3.heap.size _ _ _ _ _ _ _ _ rfl rfl _ (Blk.new w3 _ _) rfl ?_
             intro w4 hG4 hc4
             have k34 : Chg (fun _ => False) w3 w4 := ((Chg.refl _ _).alloc _).trans hc4 (fun k hk hlt => by omega)
             have k4 : Chg (fun _ => False) w w4 := k3.trans k34 (fun _ h _ => h)
             have hb4' := hb3'.chg k34 (fun h => h)
             have hp4 := Lib.hid (hp3.chg k34 (fun _ _ _ h => h))
             have s0 : w4.cell? ⟨w3.heap.size, 0, none⟩ = some (.int .i64 p.kind) := (hG4.cell 0).trans rfl
             have s1 : w4.cell? ⟨w3.heap.size, 1, none⟩ = some (.int .i64 p.n) := (hG4.cell 1).trans rfl
             have s2 : w4.cell? ⟨w3.heap.size, 2, none⟩ = some (.slice A3 p.a.length c3) := (hG4.cell 2).trans rfl
             have s3 : w4.cell? ⟨w3.heap.size, 3, none⟩ = some (.slice B3 p.b.length d3) := (hG4.cell 3).trans rfl)
          | (go_at_call 12
             refine (hnew.out _ _ w4 hp4.out).mono ?_
             rintro e5 w5 ⟨rfl, hc5⟩
             have k5 : Chg (fun _ => False) w w5 := k4.trans hc5 (fun _ h _ => h)
             have hb5' := hb4'.chg hc5 (fun h => h)
             have hG5 := hG4.chg hc5 (fun h => h)
             have hp5 := Lib.hid (hp4.out.chg hc5 (fun _ _ _ h => h))
             have t0 : w5.cell? ⟨w3.heap.size, 0, none⟩ = some (.int .i64 p.kind) := (hG5.cell 0).trans rfl
             have t1 : w5.cell? ⟨w3.heap.size, 1, none⟩ = some (.int .i64 p.n) := (hG5.cell 1).trans rfl
             have t2 : w5.cell? ⟨w3.heap.size, 2, none⟩ = some (.slice A3 p.a.length c3) := (hG5.cell 2).trans rfl
             have t3 : w5.cell? ⟨w3.heap.size, 3, none⟩ = some (.slice B3 p.b.length d3) := (hG5.cell 3).trans rfl
             have u0 : w5.cell? ⟨w.heap.size, 0, none⟩ = some (.int .i64 p.kind) := (hb5'.cell 0).trans rfl
             have u1 : w5.cell? ⟨w.heap.size, 1, none⟩ = some (.int .i64 p.n) := (hb5'.cell 1).trans rfl
             have u2 : w5.cell? ⟨w.heap.size, 2, none⟩ = some (.slice A1 p.a.length c1) := (hb5'.cell 2).trans rfl
             have u3 : w5.cell? ⟨w.heap.size, 3, none⟩ = some (.slice B1 p.b.length d1) := (hb5'.cell 3).trans rfl)
          | (go_at_call 13
             refine (hsm.out _ _ w5 k5 hp5.out).mono ?_
             rintro e6 w6 ⟨rfl, hc6⟩
             have k6 : Chg (fun _ => False) w w6 := k5.trans hc6 (fun _ h _ => h))
          | (go_at_call 9
             refine (haw.out _ k6).mono ?_
             rintro e9 w9 ⟨rfl, hc9⟩))
        go_ret
        exact ⟨rfl, k6.trans hc9 (fun _ h _ => h)⟩
      · have h1a : (p.kind != 9) = true := by rw [bne_iff_ne]; exact h1
        replace h1 := Lib.hid h1
        go_enter Try.func3, Try.ntmps3
        go_wp2_with (first
          | (go_at_call 8
             refine (hhv.out _).mono ?_
             rintro e1 w1 ⟨rfl, hc1⟩
             have hb1 := hst.chg hc1 (fun h => h)
             have k1 : Chg (fun _ => False) w w1 := ((Chg.refl _ _).alloc _).trans hc1 (fun _ h _ => h)
             have q0 : w1.cell? ⟨w.heap.size, 0, none⟩ = some (.int .i64 p.kind) := (hb1.cell 0).trans rfl
             have q1 : w1.cell? ⟨w.heap.size, 1, none⟩ = some (.int .i64 p.n) := (hb1.cell 1).trans rfl
             have q2 : w1.cell? ⟨w.heap.size, 2, none⟩ = some (.slice A1 p.a.length c1) := (hb1.cell 2).trans rfl
             have q3 : w1.cell? ⟨w.heap.size, 3, none⟩ = some (.slice B1 p.b.length d1) := (hb1.cell 3).trans rfl)
          | (go_at_call 10
             refine (hck.out _ k1).mono ?_
             rintro e2 w2 ⟨rfl, hc2⟩
             have hb2' := hb1.chg hc2 (fun h => h)
             have k2 : Chg (fun _ => False) w w2 := k1.trans hc2 (fun _ h _ => h)
             have r0 : w2.cell? ⟨w.heap.size, 0, none⟩ = some (.int .i64 p.kind) := (hb2'.cell 0).trans rfl
             have r1 : w2.cell? ⟨w.heap.size, 1, none⟩ = some (.int .i64 p.n) := (hb2'.cell 1).trans rfl
             have r2 : w2.cell? ⟨w.heap.size, 2, none⟩ = some (.slice A1 p.a.length c1) := (hb2'.cell 2).trans rfl
             have r3 : w2.cell? ⟨w.heap.size, 3, none⟩ = some (.slice B1 p.b.length d1) := (hb2'.cell 3).trans rfl)
          | (go_at_call 11
             refine (hcp.out w2 k2).mono ?_
             intro e3 w3 hc3
             obtain ⟨v3, rfl, hp3, hb3⟩ := hc3
             have hp3' := hp3
             obtain ⟨A3, c3, B3, d3, rfl, _, _⟩ := hp3'
             have k3 : Chg (fun _ => False) w w3 := k2.trans (Chg.of_below (S := fun _ => False) hb3) (fun _ h _ => h)
             have hb3' := hb2'.chg (Chg.of_below (S := fun _ => False) hb3) (fun h => h))
          | (refine wpList_store_prm rfl (.tmp 4) (.tmp 20) rfl w3.heap.size _ _ _ _ _ _ _ _ rfl rfl _ (Blk.new w3 _ _) rfl ?_
             intro w4 hG4 hc4
             have k34 : Chg (fun _ => False) w3 w4 := ((Chg.refl _ _).alloc _).trans hc4 (fun k hk hlt => by omega)
             have k4 : Chg (fun _ => False) w w4 := k3.trans k34 (fun _ h _ => h)
             have hb4' := hb3'.chg k34 (fun h => h)
             have hp4 := Lib.hid (hp3.chg k34 (fun _ _ _ h => h))
             have s0 : w4.cell? ⟨w3.heap.size, 0, none⟩ = some (.int .i64 p.kind) := (hG4.cell 0).trans rfl
             have s1 : w4.cell? ⟨w3.heap.size, 1, none⟩ = some (.int .i64 p.n) := (hG4.cell 1).trans rfl
             have s2 : w4.cell? ⟨w3.heap.size, 2, none⟩ = some (.slice A3 p.a.length c3) := (hG4.cell 2).trans rfl
             have s3 : w4.cell? ⟨w3.heap.size, 3, none⟩ = some (.slice B3 p.b.length d3) := (hG4.cell 3).trans rfl)
          | (go_at_call 12
             refine (hnew.out _ _ w4 hp4.out).mono ?_
             rintro e5 w5 ⟨rfl, hc5⟩
             have k5 : Chg (fun _ => False) w w5 := k4.trans hc5 (fun _ h _ => h)
             have hb5' := hb4'.chg hc5 (fun h => h)
             have hG5 := hG4.chg hc5 (fun h => h)
             have hp5 := Lib.hid (hp4.out.chg hc5 (fun _ _ _ h => h))
             have t0 : w5.cell? ⟨w3.heap.size, 0, none⟩ = some (.int .i64 p.kind) := (hG5.cell 0).trans rfl
             have t1 : w5.cell? ⟨w3.heap.size, 1, none⟩ = some (.int .i64 p.n) := (hG5.cell 1).trans rfl
             have t2 : w5.cell? ⟨w3.heap.size, 2, none⟩ = some (.slice A3 p.a.length c3) := (hG5.cell 2).trans rfl
             have t3 : w5.cell? ⟨w3.heap.size, 3, none⟩ = some (.slice B3 p.b.length d3) := (hG5.cell 3).trans rfl
             have u0 : w5.cell? ⟨w.heap.size, 0, none⟩ = some (.int .i64 p.kind) := (hb5'.cell 0).trans rfl
             have u1 : w5.cell? ⟨w.heap.size, 1, none⟩ = some (.int .i64 p.n) := (hb5'.cell 1).trans rfl
             have u2 : w5.cell? ⟨w.heap.size, 2, none⟩ = some (.slice A1 p.a.length c1) := (hb5'.cell 2).trans rfl
             have u3 : w5.cell? ⟨w.heap.size, 3, none⟩ = some (.slice B1 p.b.length d1) := (hb5'.cell 3).trans rfl)
          | (go_at_call 13
             refine (hsm.out _ _ w5 k5 hp5.out).mono ?_
             rintro e6 w6 ⟨rfl, hc6⟩
             have k6 : Chg (fun _ => False) w w6 := k5.trans hc6 (fun _ h _ => h))
          | (go_at_call 9
             refine (haw.out _ k6).mono ?_
             rintro e9 w9 ⟨rfl, hc9⟩))
        go_ret
        exact ⟨rfl, k6.trans hc9 (fun _ h _ => h)⟩
  · clear hv hE hEE hvv hh
    go_enter Try.func3, Try.ntmps3
    go_wp2_with (first
      | (go_at_call 8
         refine (hhv.out _).mono ?_
         rintro e1 w1 ⟨rfl, hc1⟩
         have k1 : Chg (fun _ => False) w w1 := ((Chg.refl _ _).alloc _).trans hc1 (fun _ h _ => h))
      | (go_at_call 9
         refine (haw.out _ k1).mono ?_
         rintro e9 w9 ⟨rfl, hc9⟩))
    go_ret
    exact ⟨rfl, k1.trans hc9 (fun _ h _ => h)⟩
end Go.Proofs.Ytkgmbomfkdkofaa.Count
