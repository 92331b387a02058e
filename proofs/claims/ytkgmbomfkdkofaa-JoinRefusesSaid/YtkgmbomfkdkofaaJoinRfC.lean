/- Join's poked machine, as one that Drive drives. -/
import Derived.Test.YtkgmbomfkdkofaaJoinRfA
import Derived.Test.YtkgmbomfkdkofaaJoinRfB
/- Join's poked machine: what is poked when a piece is due. -/
namespace Go.Proofs.Ytkgmbomfkdkofaa.Join
open Go Go.RowKit
section
variable {M : Mach} {B : Nat} {T : TypeId} {mv : Value} {E : World → Prop} {inv : M.σ → (Nat → Prop) → World → Prop} {fN fH fF fE fM : FuncId} {rN rH rF rE rM : Value}

set_option maxHeartbeats 4000000 in
set_option maxRecDepth 100000 in
theorem poke_piece (HM : MachOk Try.prog M B T mv E inv fN fH fF fE fM rN rH rF rE rM) (R : M.σ → Prop) (RF : Refuse M R) (s : M.σ) (F : Nat → Prop) (w : World) (X : Nat) (port : Int) (b : Bs) (A : Option Addr) (c : Nat)
    (hi : inv s F w) (hE : E w) (hR : R s) (hb : Blk w X 49 #[.iface T mv, .int .i64 port, .slice A b.length c, .bool false]) (hB : B ≤ X) (hXF : ¬ F X) (hrd : Rd w (fun k => k < B) 1 A b.length (u8s b)) (hbl : b.length ≤ 1000)
    (hcase : M.need s = -2) :
    Calls Try.prog 21 #[.pointer (some ⟨X, 0, none⟩)] w (PokePost M E inv s X #[.iface T mv, .int .i64 port, .slice A b.length c, .bool false] F w) := by
  obtain ⟨j0, hj0, jz0, jz1, jz2⟩ := info_parts info_u8
  have hXl := hb.lt
  generalize hcs : (#[.iface T mv, .int .i64 port, .slice A b.length c, .bool false] : Array Value) = cs at *
  have p0 : PS M E inv s X cs F w F w := ⟨hi, hE, fun _ h => .inl h, Chg.refl _ _, hb⟩
  have hN : ∀ F' W, PS M E inv s X cs F w F' W → Calls Try.prog fN #[rN] W (NPost (.int .i64 (M.need s)) (PS M E inv s X cs F w F') W) := fun F' W h =>
    (HM.need s F' W h.inv h.env).mono fun e w' ⟨he, hc⟩ => ⟨he, h.quiet HM hc, hc⟩
  have hH : ∀ F' W, PS M E inv s X cs F w F' W → Calls Try.prog fH #[rH] W (NPost (.int .i64 (M.held s)) (PS M E inv s X cs F w F') W) := fun F' W h =>
    (HM.held s F' W h.inv h.env).mono fun e w' ⟨he, hc⟩ => ⟨he, h.quiet HM hc, hc⟩
  have hFd : (port ≠ M.need s ∨ b.length = 0 ∨ b.length > 32) → ∀ F' W AX cX, PS M E inv s X cs F w F' W → Rd W (fun j => ¬ F' j) 1 AX b.length (u8s b) → Calls Try.prog fF #[rF, .int .i64 port, .slice AX b.length cX] W (APost (wantOf (M.need s)) (PS M E inv s X cs F w) F' W) := fun hc F' W AX cX h hr => by
    refine (HM.feed s F' W port AX cX b h.inv h.env hr (by omega)).mono ?_
    rw [RF.feed s port b hR hc]
    rintro e w' ⟨v, F'', rfl, hi', hF', hch, ho⟩
    obtain ⟨A', c', rfl⟩ := outs_nil ho
    exact ⟨A', c', F'', rfl, h.step HM hi' hF' hch hXl hXF, hch⟩
  have hFn : port ≠ M.need s → ∀ F' W, PS M E inv s X cs F w F' W → Calls Try.prog fE #[rE, .int .i64 port] W (APost (wantOf (M.need s)) (PS M E inv s X cs F w) F' W) := fun hc F' W h => by
    refine (HM.fin s F' W port h.inv h.env).mono ?_
    rw [RF.fin s port hR hc]
    rintro e w' ⟨v, F'', rfl, hi', hF', hch, ho⟩
    obtain ⟨A', c', rfl⟩ := outs_nil ho
    exact ⟨A', c', F'', rfl, h.step HM hi' hF' hch hXl hXF, hch⟩
  have hMo : M.need s ≠ -2 → ∀ F' W, PS M E inv s X cs F w F' W → Calls Try.prog fM #[rM] W (APost (wantOf (M.need s)) (PS M E inv s X cs F w) F' W) := fun hc F' W h => by
    refine (HM.more s F' W h.inv h.env).mono ?_
    rw [RF.more s hR hc]
    rintro e w' ⟨v, F'', rfl, hi', hF', hch, ho⟩
    obtain ⟨A', c', rfl⟩ := outs_nil ho
    exact ⟨A', c', F'', rfl, h.step HM hi' hF' hch hXl hXF, hch⟩
  have hRf : ∀ F' W A' c', PS M E inv s X cs F w F' W → Calls Try.prog 37 #[.pointer (some ⟨X, 0, none⟩), .int .i64 (wantOf (M.need s)), .slice A' 0 c', .int .i64 (wantOf (M.need s))] W fun e w' => e = .returned (.tuple #[]) ∧ PS M E inv s X cs F w F' w' := fun F' W A' c' h => by
    have hb' := h.blk
    rw [← hcs] at hb'
    refine (refused_any X _ _ _ W hb' A' c' (wantOf (M.need s))).mono ?_
    rintro e w' ⟨he, hb2, hc2⟩
    rw [hcs] at hb2
    exact ⟨he, h.mark HM hb2 hc2 hXl hB hXF⟩
  have mN := HM.mN.row; have mH := HM.mH.row; have mF := HM.mF.row; have mE := HM.mE.row; have mM := HM.mM.row
  have eN := HM.mN.enters; have eH := HM.mH.enters; have eF := HM.mF.enters; have eE := HM.mE.enters; have eM := HM.mM.enters
  have hX : ∀ F' W, PS M E inv s X cs F w F' W → W.cell? ⟨X, 0, none⟩ = some (.iface T mv) ∧ W.cell? ⟨X, 1, none⟩ = some (.int .i64 port) ∧ W.cell? ⟨X, 2, none⟩ = some (.slice A b.length c) ∧ W.cell? ⟨X, 3, none⟩ = some (.bool false) ∧ W.frozen? ⟨X, 3, none⟩ = false := fun F' W h => by
    have hb' := h.blk
    rw [← hcs] at hb'
    exact ⟨(hb'.cell 0).trans rfl, (hb'.cell 1).trans rfl, (hb'.cell 2).trans rfl, (hb'.cell 3).trans rfl, hb'.frozen 3⟩
  obtain ⟨x0, x1, x2, x3, xf⟩ := hX F w p0
  generalize hn : M.need s = n at *
  generalize hh : M.held s = hd at *
  have hS : ∀ F' W, PS M E inv s X cs F w F' W → W.cell? ⟨X, 0, none⟩ = some (.iface T mv) ∧ W.cell? ⟨X, 1, none⟩ = some (.int .i64 port) ∧ W.cell? ⟨X, 2, none⟩ = some (.slice A b.length c) ∧ ∃ F', PS M E inv s X cs F w F' W := fun F' W h => by
    obtain ⟨a0, a1, a2, _⟩ := hX F' W h
    exact ⟨a0, a1, a2, F', h⟩
  have hfin : ∀ F' W, PS M E inv s X cs F w F' W → PokePost M E inv s X cs F w (.returned (.tuple #[])) (W.setCell ⟨X, 3, none⟩ (.bool false)) := fun F' W p => by
    have hb' := p.blk.set 3 (.bool false)
    have e3 : cs.setIfInBounds 3 (.bool false) = cs := by rw [← hcs]; rfl
    rw [e3] at hb'
    have q := p.mark HM hb' ((Chg.refl (fun j => j = X) W).setCell (p := ⟨X, 3, none⟩) (.inl rfl) _) hXl hB hXF
    exact ⟨rfl, F', q.inv, q.new, q.chg, q.blk, q.env⟩
  have tN := Lib.hid trivial
  have tH := Lib.hid trivial
  have tM := Lib.hid trivial
  have tN2 := Lib.hid trivial
  have tR := Lib.hid trivial
  have tR1 := Lib.hid trivial
  have tR2 := Lib.hid trivial
  replace hX := Lib.hid hX
  replace hS := Lib.hid hS
  replace hfin := Lib.hid hfin
  have hw : wantOf n = 1 := wantOf_not (by omega)
  have hnb : (n == -1) = false := by rw [hcase]; rfl
  have hnc : (n != -2) = false := by rw [hcase]; rfl
  clear hcase
  rw [hw] at hFd hFn hMo hRf
  replace hw := Lib.hid hw
  clear hMo
  replace hN := Lib.hid hN
  replace hH := Lib.hid hH
  replace hRf := Lib.hid hRf
  replace hn := Lib.hid hn
  replace hh := Lib.hid hh
  replace hcs := Lib.hid hcs
  clear hb hi hE
  by_cases hp : port = n
  · clear hFn
    have hpb : (port == n) = true := by simpa using hp
    have hpb2 : (port != n) = false := by simpa using hp
    by_cases h0 : b.length = 0
    · have hl0 : ((b.length : Int) == 0) = true := by rw [h0]; rfl
      replace hFd := Lib.hid (hFd (.inr (.inl h0)))
      clear hp h0
      go_enter Try.func21, Try.ntmps21
      go_wp2_with (first
        | (clear tN
           refine (hN.out F w p0).mono ?_
           rintro e1 w1 ⟨rfl, p1, hc1⟩
           obtain ⟨y0, y1, y2, y3, yf⟩ := hX.out F w1 p1)
        | (clear tH
           refine (hH.out F w1 p1).mono ?_
           rintro e2 w2 ⟨rfl, p2, hc2⟩
           obtain ⟨z0, z1, z2, z3, zf⟩ := hX.out F w2 p2
           clear y0 y1 y2 y3 yf))
      clear x0 x1 x2 x3 xf z0 z1 z2 z3 zf
      have hrA : ∀ W, Chg (fun _ => False) w2 W → Rd W (fun _ => True) 1 A b.length (u8s b) := fun W hW => ((hrd.chg (hc1.trans hc2 (fun _ h _ => h)) (fun _ _ _ h => h)).chg hW (fun _ _ _ h => h)).mono (fun _ _ _ => trivial)
      have hSq := hS.out F w2 p2
      have pd := p2.quiet HM ((Chg.refl (fun _ => False) w2).drew)
      have pe := p2.quiet HM (((Chg.refl (fun _ => False) w2).drew).alloc (.cells #[] 5))
      have hSd := hS.out F _ pd
      have hSe := hS.out F _ pe
      have ce := ((Chg.refl (fun _ => False) w2).drew).alloc (.cells #[] 5)
      have hFin : ∀ k, F k → k < w2.heap.size := fun k hk => ((HM.inside _ _ _ p2.inv).2 k hk).2
      go_region_held3 (fun W => W.cell? ⟨X, 0, none⟩ = some (.iface T mv) ∧ W.cell? ⟨X, 1, none⟩ = some (.int .i64 port) ∧ W.cell? ⟨X, 2, none⟩ = some (.slice A b.length c) ∧ ∃ F', PS M E inv s X cs F w F' W)
        (first
          | exact hSq
          | exact hSd
          | exact hSe
          | exact hS.out _ _ pX
          | exact hS.out _ _ pY)
        (first
          | (refine step_append_fresh _ (by rfl) (.tmp 54) (.tmp 58) 22 (by rfl) 5 j0 _ 1 1 Try.underlying22 hj0 jz0 jz1 jz2 (by rfl) (by omega) _ (by rfl) (fun _ => True) A b.length c (u8s b) (by rfl) (by exact hrA _ ce) (u8s_one _) (by simp only [maxLen]; omega) (by omega) ?_
             intro AX cX' wX hcX hrX hbX
             have cX := ce.trans (Chg.of_below (S := fun _ => False) hbX) (fun _ h _ => h)
             have pX := p2.quiet HM cX)
          | (refine (hFd.out F wX AX cX' pX (hrX.mono (fun k hk _ hf => by have := hFin k hf; simp at hk; omega))).mono ?_
             rintro e7 w7 ⟨A7, c7, F7, rfl, pY, hc7⟩))
      clear hSq hSd hSe pd pe ce cX hrX hbX hrA
      go_wp2_with (first
        | (go_at_call 37
           clear tR
           refine (hRf.out F7 w7 A7 c7 pY).mono ?_
           rintro e8 w8 ⟨rfl, p8⟩
           obtain ⟨y0, y1, y2, y3, yf⟩ := hX.out F7 w8 p8)
        | (clear tN2
           refine (hN.out F7 w8 p8).mono ?_
           rintro e13 w13 ⟨rfl, p13, hc13⟩
           clear y0 y1 y2 y3 yf
           obtain ⟨t0, t1, t2, t3, tf⟩ := hX.out F7 w13 p13)
        | (refine (hH.out F7 w13 p13).mono ?_
           rintro e14 w14 ⟨rfl, p14, hc14⟩
           clear t0 t1 t2 t3 tf
           obtain ⟨v0, v1, v2, v3, vf⟩ := hX.out F7 w14 p14))
      go_end0
      exact hfin.out F7 w14 p14
    · have hl0 : ((b.length : Int) == 0) = false := by rw [beq_eq_false_iff_ne]; omega
      by_cases h1 : b.length > 32
      · have hl1 : (32 : Int) < (b.length : Int) := by omega
        replace hFd := Lib.hid (hFd (.inr (.inr h1)))
        clear hp h0 h1
        go_enter Try.func21, Try.ntmps21
        go_wp2_with (first
          | (clear tN
             refine (hN.out F w p0).mono ?_
             rintro e1 w1 ⟨rfl, p1, hc1⟩
             obtain ⟨y0, y1, y2, y3, yf⟩ := hX.out F w1 p1)
          | (clear tH
             refine (hH.out F w1 p1).mono ?_
             rintro e2 w2 ⟨rfl, p2, hc2⟩
             obtain ⟨z0, z1, z2, z3, zf⟩ := hX.out F w2 p2
             clear y0 y1 y2 y3 yf))
        clear x0 x1 x2 x3 xf z0 z1 z2 z3 zf
        have hrA : ∀ W, Chg (fun _ => False) w2 W → Rd W (fun _ => True) 1 A b.length (u8s b) := fun W hW => ((hrd.chg (hc1.trans hc2 (fun _ h _ => h)) (fun _ _ _ h => h)).chg hW (fun _ _ _ h => h)).mono (fun _ _ _ => trivial)
        have hSq := hS.out F w2 p2
        have pd := p2.quiet HM ((Chg.refl (fun _ => False) w2).drew)
        have pe := p2.quiet HM (((Chg.refl (fun _ => False) w2).drew).alloc (.cells #[] 5))
        have hSd := hS.out F _ pd
        have hSe := hS.out F _ pe
        have ce := ((Chg.refl (fun _ => False) w2).drew).alloc (.cells #[] 5)
        have hFin : ∀ k, F k → k < w2.heap.size := fun k hk => ((HM.inside _ _ _ p2.inv).2 k hk).2
        go_region_held3 (fun W => W.cell? ⟨X, 0, none⟩ = some (.iface T mv) ∧ W.cell? ⟨X, 1, none⟩ = some (.int .i64 port) ∧ W.cell? ⟨X, 2, none⟩ = some (.slice A b.length c) ∧ ∃ F', PS M E inv s X cs F w F' W)
          (first
            | exact hSq
            | exact hSd
            | exact hSe
            | exact hS.out _ _ pX
            | exact hS.out _ _ pY)
          (first
            | (refine step_append_fresh _ (by rfl) (.tmp 54) (.tmp 58) 22 (by rfl) 5 j0 _ 1 1 Try.underlying22 hj0 jz0 jz1 jz2 (by rfl) (by omega) _ (by rfl) (fun _ => True) A b.length c (u8s b) (by rfl) (by exact hrA _ ce) (u8s_one _) (by simp only [maxLen]; omega) (by omega) ?_
               intro AX cX' wX hcX hrX hbX
               have cX := ce.trans (Chg.of_below (S := fun _ => False) hbX) (fun _ h _ => h)
               have pX := p2.quiet HM cX)
            | (refine (hFd.out F wX AX cX' pX (hrX.mono (fun k hk _ hf => by have := hFin k hf; simp at hk; omega))).mono ?_
               rintro e7 w7 ⟨A7, c7, F7, rfl, pY, hc7⟩))
        clear hSq hSd hSe pd pe ce cX hrX hbX hrA
        go_wp2_with (first
          | (go_at_call 37
             clear tR
             refine (hRf.out F7 w7 A7 c7 pY).mono ?_
             rintro e8 w8 ⟨rfl, p8⟩
             obtain ⟨y0, y1, y2, y3, yf⟩ := hX.out F7 w8 p8)
          | (clear tN2
             refine (hN.out F7 w8 p8).mono ?_
             rintro e13 w13 ⟨rfl, p13, hc13⟩
             clear y0 y1 y2 y3 yf
             obtain ⟨t0, t1, t2, t3, tf⟩ := hX.out F7 w13 p13)
          | (refine (hH.out F7 w13 p13).mono ?_
             rintro e14 w14 ⟨rfl, p14, hc14⟩
             clear t0 t1 t2 t3 tf
             obtain ⟨v0, v1, v2, v3, vf⟩ := hX.out F7 w14 p14))
        go_end0
        exact hfin.out F7 w14 p14
      · have hl1 : ¬ (32 : Int) < (b.length : Int) := by omega
        clear hp h0 h1 hFd
        go_enter Try.func21, Try.ntmps21
        go_wp2_with (first
          | (clear tN
             refine (hN.out F w p0).mono ?_
             rintro e1 w1 ⟨rfl, p1, hc1⟩
             obtain ⟨y0, y1, y2, y3, yf⟩ := hX.out F w1 p1)
          | (clear tH
             refine (hH.out F w1 p1).mono ?_
             rintro e2 w2 ⟨rfl, p2, hc2⟩
             obtain ⟨z0, z1, z2, z3, zf⟩ := hX.out F w2 p2
             clear y0 y1 y2 y3 yf)
          | (clear tN2
             refine (hN.out F w2 p2).mono ?_
             rintro e13 w13 ⟨rfl, p13, hc13⟩
             clear z0 z1 z2 z3 zf
             obtain ⟨t0, t1, t2, t3, tf⟩ := hX.out F w13 p13)
          | (refine (hH.out F w13 p13).mono ?_
             rintro e14 w14 ⟨rfl, p14, hc14⟩
             clear t0 t1 t2 t3 tf
             obtain ⟨v0, v1, v2, v3, vf⟩ := hX.out F w14 p14))
        go_end0
        exact hfin.out F w14 p14
  · have hpb : (port == n) = false := by simpa using hp
    have hpb2 : (port != n) = true := by simpa using hp
    replace hFd := Lib.hid (hFd (.inl hp))
    replace hFn := Lib.hid (hFn hp)
    clear hp
    go_enter Try.func21, Try.ntmps21
    go_wp2_with (first
      | (clear tN
         refine (hN.out F w p0).mono ?_
         rintro e1 w1 ⟨rfl, p1, hc1⟩
         obtain ⟨y0, y1, y2, y3, yf⟩ := hX.out F w1 p1)
      | (clear tH
         refine (hH.out F w1 p1).mono ?_
         rintro e2 w2 ⟨rfl, p2, hc2⟩
         obtain ⟨z0, z1, z2, z3, zf⟩ := hX.out F w2 p2
         clear y0 y1 y2 y3 yf))
    clear x0 x1 x2 x3 xf z0 z1 z2 z3 zf
    have hrA : ∀ W, Chg (fun _ => False) w2 W → Rd W (fun _ => True) 1 A b.length (u8s b) := fun W hW => ((hrd.chg (hc1.trans hc2 (fun _ h _ => h)) (fun _ _ _ h => h)).chg hW (fun _ _ _ h => h)).mono (fun _ _ _ => trivial)
    have hSq := hS.out F w2 p2
    have pd := p2.quiet HM ((Chg.refl (fun _ => False) w2).drew)
    have pe := p2.quiet HM (((Chg.refl (fun _ => False) w2).drew).alloc (.cells #[] 5))
    have hSd := hS.out F _ pd
    have hSe := hS.out F _ pe
    have ce := ((Chg.refl (fun _ => False) w2).drew).alloc (.cells #[] 5)
    have hFin : ∀ k, F k → k < w2.heap.size := fun k hk => ((HM.inside _ _ _ p2.inv).2 k hk).2
    go_region_held3 (fun W => W.cell? ⟨X, 0, none⟩ = some (.iface T mv) ∧ W.cell? ⟨X, 1, none⟩ = some (.int .i64 port) ∧ W.cell? ⟨X, 2, none⟩ = some (.slice A b.length c) ∧ ∃ F', PS M E inv s X cs F w F' W)
      (first
        | exact hSq
        | exact hSd
        | exact hSe
        | exact hS.out _ _ pX
        | exact hS.out _ _ pY)
      (first
        | (refine step_append_fresh _ (by rfl) (.tmp 54) (.tmp 58) 22 (by rfl) 5 j0 _ 1 1 Try.underlying22 hj0 jz0 jz1 jz2 (by rfl) (by omega) _ (by rfl) (fun _ => True) A b.length c (u8s b) (by rfl) (by exact hrA _ ce) (u8s_one _) (by simp only [maxLen]; omega) (by omega) ?_
           intro AX cX' wX hcX hrX hbX
           have cX := ce.trans (Chg.of_below (S := fun _ => False) hbX) (fun _ h _ => h)
           have pX := p2.quiet HM cX)
        | (refine (hFd.out F wX AX cX' pX (hrX.mono (fun k hk _ hf => by have := hFin k hf; simp at hk; omega))).mono ?_
           rintro e7 w7 ⟨A7, c7, F7, rfl, pY, hc7⟩))
    clear hSq hSd hSe pd pe ce cX hrX hbX hrA
    go_wp2_with (first
      | (go_at_call 37
         clear tR
         refine (hRf.out F7 w7 A7 c7 pY).mono ?_
         rintro e8 w8 ⟨rfl, p8⟩
         obtain ⟨y0, y1, y2, y3, yf⟩ := hX.out F7 w8 p8))
    clear y0 y1 y2 y3 yf
    have hS8 := hS.out F7 w8 p8
    have p8d := p8.quiet HM ((Chg.refl (fun _ => False) w8).drew)
    have hS8d := hS.out F7 _ p8d
    go_region_held3 (fun W => W.cell? ⟨X, 0, none⟩ = some (.iface T mv) ∧ W.cell? ⟨X, 1, none⟩ = some (.int .i64 port) ∧ W.cell? ⟨X, 2, none⟩ = some (.slice A b.length c) ∧ ∃ F', PS M E inv s X cs F w F' W)
      (first
        | exact hS8
        | exact hS8d
        | exact hS.out _ _ pZ)
      (first
        | (refine (hFn.out F7 _ p8d).mono ?_
           rintro e9 w9 ⟨A9, c9, F9, rfl, pZ, hc9⟩))
    clear hS8 hS8d p8d
    go_wp2_with (first
      | (go_at_call 37
         clear tR1
         refine (hRf.out F9 w9 A9 c9 pZ).mono ?_
         rintro e10 w10 ⟨rfl, p10⟩
         obtain ⟨y0, y1, y2, y3, yf⟩ := hX.out F9 w10 p10)
      | (clear tN2
         refine (hN.out F9 w10 p10).mono ?_
         rintro e13 w13 ⟨rfl, p13, hc13⟩
         clear y0 y1 y2 y3 yf
         obtain ⟨t0, t1, t2, t3, tf⟩ := hX.out F9 w13 p13)
      | (refine (hH.out F9 w13 p13).mono ?_
         rintro e14 w14 ⟨rfl, p14, hc14⟩
         clear t0 t1 t2 t3 tf
         obtain ⟨v0, v1, v2, v3, vf⟩ := hX.out F9 w14 p14))
    go_end0
    exact hfin.out F9 w14 p14
end
end Go.Proofs.Ytkgmbomfkdkofaa.Join

/- Join's poked machine: all that is not due. -/
namespace Go.Proofs.Ytkgmbomfkdkofaa.Join
open Go Go.RowKit
section
variable {M : Mach} {B : Nat} {T : TypeId} {mv : Value} {E : World → Prop} {inv : M.σ → (Nat → Prop) → World → Prop} {fN fH fF fE fM : FuncId} {rN rH rF rE rM : Value}

theorem poke_any (HM : MachOk Try.prog M B T mv E inv fN fH fF fE fM rN rH rF rE rM) (R : M.σ → Prop) (RF : Refuse M R) (s : M.σ) (F : Nat → Prop) (w : World) (X : Nat) (port : Int) (b : Bs) (A : Option Addr) (c : Nat)
    (hi : inv s F w) (hE : E w) (hR : R s) (hb : Blk w X 49 #[.iface T mv, .int .i64 port, .slice A b.length c, .bool false]) (hB : B ≤ X) (hXF : ¬ F X) (hrd : Rd w (fun k => k < B) 1 A b.length (u8s b)) (hbl : b.length ≤ 1000) :
    Calls Try.prog 21 #[.pointer (some ⟨X, 0, none⟩)] w (PokePost M E inv s X #[.iface T mv, .int .i64 port, .slice A b.length c, .bool false] F w) := by
  by_cases h1 : M.need s = -1
  · exact poke_ended HM R RF s F w X port b A c hi hE hR hb hB hXF hrd hbl h1
  · by_cases h2 : M.need s = -2
    · exact poke_piece HM R RF s F w X port b A c hi hE hR hb hB hXF hrd hbl h2
    · exact poke_wants HM R RF s F w X port b A c hi hE hR hb hB hXF hrd hbl h1 h2
end
end Go.Proofs.Ytkgmbomfkdkofaa.Join

/- Join's poked machine, as one that Drive drives. -/
namespace Go.Proofs.Ytkgmbomfkdkofaa.Join
open Go Go.RowKit

def PInv (M : Mach) (inv : M.σ → (Nat → Prop) → World → Prop) (R : M.σ → Prop) (B X : Nat) (cs : Array Value) (s : M.σ) (F : Nat → Prop) (w : World) : Prop :=
  ∃ Fm, inv s Fm w ∧ R s ∧ (∀ k, F k ↔ Fm k ∨ k = X) ∧ B ≤ X ∧ ¬ Fm X ∧ Blk w X 49 cs
def PEnv (E : World → Prop) (B : Nat) (A : Option Addr) (b : Bs) (w : World) : Prop := E w ∧ Rd w (fun k => k < B) 1 A b.length (u8s b)

theorem chg_of_belowB {B : Nat} {w w' : World} (h : Below B w w') : Chg (fun k => B ≤ k) w w' := ⟨h.os, h.tape, h.output, h.size, fun i _ hn => h.block i (by omega)⟩

section
variable {M : Mach} {B : Nat} {T : TypeId} {mv : Value} {E : World → Prop} {inv : M.σ → (Nat → Prop) → World → Prop} {fN fH fF fE fM : FuncId} {rN rH rF rE rM : Value}
variable {R : M.σ → Prop} {X : Nat} {port0 : Int} {b : Bs} {A : Option Addr} {c : Nat}

theorem poked_need (HM : MachOk Try.prog M B T mv E inv fN fH fF fE fM rN rH rF rE rM) (s : M.σ) (F : Nat → Prop) (w : World)
    (h : PInv M inv R B X #[.iface T mv, .int .i64 port0, .slice A b.length c, .bool false] s F w) (hE : PEnv E B A b w) :
    Calls Try.prog 90 #[.pointer (some ⟨X, 0, none⟩)] w fun e w' => e = .returned (.int .i64 (M.need s)) ∧ Chg (fun _ => False) w w' := by
  obtain ⟨Fm, hi, _, _, _, _, hb⟩ := h
  have x0 : w.cell? ⟨X, 0, none⟩ = some (.iface T mv) := (hb.cell 0).trans rfl
  have mN := HM.mN.row; have eN := HM.mN.enters
  have hN := HM.need s Fm w hi hE.1
  clear hb hi hE
  go_enter Try.func90, Try.ntmps90
  go_wp2_with (refine hN.mono ?_; rintro e1 w1 ⟨rfl, hc1⟩)
  go_ret
  exact ⟨rfl, hc1⟩

theorem poked_held (HM : MachOk Try.prog M B T mv E inv fN fH fF fE fM rN rH rF rE rM) (s : M.σ) (F : Nat → Prop) (w : World)
    (h : PInv M inv R B X #[.iface T mv, .int .i64 port0, .slice A b.length c, .bool false] s F w) (hE : PEnv E B A b w) :
    Calls Try.prog 88 #[.pointer (some ⟨X, 0, none⟩)] w fun e w' => e = .returned (.int .i64 (M.held s)) ∧ Chg (fun _ => False) w w' := by
  obtain ⟨Fm, hi, _, _, _, _, hb⟩ := h
  have x0 : w.cell? ⟨X, 0, none⟩ = some (.iface T mv) := (hb.cell 0).trans rfl
  have mH := HM.mH.row; have eH := HM.mH.enters
  have hN := HM.held s Fm w hi hE.1
  clear hb hi hE
  go_enter Try.func88, Try.ntmps88
  go_wp2_with (refine hN.mono ?_; rintro e1 w1 ⟨rfl, hc1⟩)
  go_ret
  exact ⟨rfl, hc1⟩

/-- What was answered after the poke, is what the poked machine answers. -/
theorem pinv_ans {s : M.σ} {a : Outs × Int × M.σ} {F Fm F1 : Nat → Prop} {w w1 : World} {cs : Array Value} {e : Ending} {w2 : World} (hR : R a.2.2) (hF : ∀ k, F k ↔ Fm k ∨ k = X) (hB : B ≤ X) (hXF : ¬ Fm X) (hX : X < w.heap.size)
    (hp : PokePost M E inv s X cs Fm w e w1) (hF1 : ∀ k, F1 k → Fm k ∨ w.heap.size ≤ k) {e2 : Ending} (h : MAns M inv w1 F1 a e2 w2) (hb1 : Blk w1 X 49 cs) :
    MAns M (PInv M inv R B X cs) w F a e2 w2 := by
  obtain ⟨_, _, _, _, hc1, _, _⟩ := hp
  obtain ⟨v, F2, he, hi2, hF2, hc2, ho⟩ := h
  have hs1 := hc1.size
  have hX1 : ¬ F1 X := fun h => by rcases hF1 X h with h | h; exact hXF h; omega
  have hX2 : ¬ F2 X := fun h => by rcases hF2 X h with h | h; exact hX1 h; omega
  refine ⟨v, fun k => F2 k ∨ k = X, he, ⟨F2, hi2, hR, fun _ => Iff.rfl, hB, hX2, hb1.chg hc2 hX1⟩, fun k hk => ?_, (hc1.mono (S' := F) (fun k hk _ => (hF k).2 hk)).trans hc2 (fun k hk hlt => ?_), ho.mono (fun k hk _ => by omega)⟩
  · rcases hk with hk | hk
    · rcases hF2 k hk with h | h
      · rcases hF1 k h with h | h
        · exact .inl ((hF k).2 (.inl h))
        · exact .inr h
      · exact .inr (by omega)
    · exact .inl ((hF k).2 (.inr hk))
  · rcases hF1 k hk with h | h
    · exact (hF k).2 (.inl h)
    · omega

theorem poked_feed (HM : MachOk Try.prog M B T mv E inv fN fH fF fE fM rN rH rF rE rM) (RF : Refuse M R) (hbl : b.length ≤ 1000) (s : M.σ) (F : Nat → Prop) (w : World) (port : Int) (A2 : Option Addr) (c2 : Nat) (bs : Bs)
    (h : PInv M inv R B X #[.iface T mv, .int .i64 port0, .slice A b.length c, .bool false] s F w) (hE : PEnv E B A b w) (hr : Rd w (fun j => ¬ F j) 1 A2 bs.length (u8s bs)) (hl : bs.length ≤ 100000) :
    Calls Try.prog 87 #[.pointer (some ⟨X, 0, none⟩), .int .i64 port, .slice A2 bs.length c2] w (MAns M (PInv M inv R B X #[.iface T mv, .int .i64 port0, .slice A b.length c, .bool false]) w F (M.feed s port bs)) := by
  obtain ⟨Fm, hi, hR, hF, hB, hXF, hb⟩ := h
  have hX := hb.lt
  have hk := poke_any HM R RF s Fm w X port0 b A c hi hE.1 hR hb hB hXF hE.2 hbl
  have mF := HM.mF.row; have eF := HM.mF.enters
  replace hF := Lib.hid hF
  clear hb hi hE
  go_enter Try.func87, Try.ntmps87
  go_wp2_with (first
    | (go_at_call 21
       refine hk.mono ?_
       intro e1 w1 hp
       have hp2 := Lib.hid hp
       obtain ⟨rfl, F1, hi1, hF1, hc1, hb1, hE1⟩ := hp
       have x0 : w1.cell? ⟨X, 0, none⟩ = some (.iface T mv) := (hb1.cell 0).trans rfl)
    | (refine (HM.feed s F1 w1 port A2 c2 bs hi1 hE1 (((hr.mono (D' := fun k => ¬ F k ∧ k < w.heap.size) (fun k hk hlt => ⟨hk, hlt⟩)).chg hc1 (fun k hk _ h => hk.1 ((hF.out k).2 h))).mono (fun k hk _ h1 => by
         rcases hF1 k h1 with h | h
         · exact hk.1 ((hF.out k).2 (.inl h))
         · omega)) hl).mono ?_
       intro e2 w2 hm
       have hm2 := Lib.hid hm
       obtain ⟨v, F2, rfl, _⟩ := hm))
  go_ret2
  exact pinv_ans (RF.feedR s port bs hR) hF.out hB hXF hX hp2.out hF1 hm2.out hb1

theorem poked_fin (HM : MachOk Try.prog M B T mv E inv fN fH fF fE fM rN rH rF rE rM) (RF : Refuse M R) (hbl : b.length ≤ 1000) (s : M.σ) (F : Nat → Prop) (w : World) (port : Int)
    (h : PInv M inv R B X #[.iface T mv, .int .i64 port0, .slice A b.length c, .bool false] s F w) (hE : PEnv E B A b w) :
    Calls Try.prog 86 #[.pointer (some ⟨X, 0, none⟩), .int .i64 port] w (MAns M (PInv M inv R B X #[.iface T mv, .int .i64 port0, .slice A b.length c, .bool false]) w F (M.fin s port)) := by
  obtain ⟨Fm, hi, hR, hF, hB, hXF, hb⟩ := h
  have hX := hb.lt
  have hk := poke_any HM R RF s Fm w X port0 b A c hi hE.1 hR hb hB hXF hE.2 hbl
  have mE := HM.mE.row; have eE := HM.mE.enters
  replace hF := Lib.hid hF
  clear hb hi hE
  go_enter Try.func86, Try.ntmps86
  go_wp2_with (first
    | (go_at_call 21
       refine hk.mono ?_
       intro e1 w1 hp
       have hp2 := Lib.hid hp
       obtain ⟨rfl, F1, hi1, hF1, hc1, hb1, hE1⟩ := hp
       have x0 : w1.cell? ⟨X, 0, none⟩ = some (.iface T mv) := (hb1.cell 0).trans rfl)
    | (refine (HM.fin s F1 w1 port hi1 hE1).mono ?_
       intro e2 w2 hm
       have hm2 := Lib.hid hm
       obtain ⟨v, F2, rfl, _⟩ := hm))
  go_ret2
  exact pinv_ans (RF.finR s port hR) hF.out hB hXF hX hp2.out hF1 hm2.out hb1

theorem poked_more (HM : MachOk Try.prog M B T mv E inv fN fH fF fE fM rN rH rF rE rM) (RF : Refuse M R) (hbl : b.length ≤ 1000) (s : M.σ) (F : Nat → Prop) (w : World)
    (h : PInv M inv R B X #[.iface T mv, .int .i64 port0, .slice A b.length c, .bool false] s F w) (hE : PEnv E B A b w) :
    Calls Try.prog 89 #[.pointer (some ⟨X, 0, none⟩)] w (MAns M (PInv M inv R B X #[.iface T mv, .int .i64 port0, .slice A b.length c, .bool false]) w F (M.more s)) := by
  obtain ⟨Fm, hi, hR, hF, hB, hXF, hb⟩ := h
  have hX := hb.lt
  have hk := poke_any HM R RF s Fm w X port0 b A c hi hE.1 hR hb hB hXF hE.2 hbl
  have mM := HM.mM.row; have eM := HM.mM.enters
  replace hF := Lib.hid hF
  clear hb hi hE
  go_enter Try.func89, Try.ntmps89
  go_wp2_with (first
    | (go_at_call 21
       refine hk.mono ?_
       intro e1 w1 hp
       have hp2 := Lib.hid hp
       obtain ⟨rfl, F1, hi1, hF1, hc1, hb1, hE1⟩ := hp
       have x0 : w1.cell? ⟨X, 0, none⟩ = some (.iface T mv) := (hb1.cell 0).trans rfl)
    | (refine (HM.more s F1 w1 hi1 hE1).mono ?_
       intro e2 w2 hm
       have hm2 := Lib.hid hm
       obtain ⟨v, F2, rfl, _⟩ := hm))
  go_ret2
  exact pinv_ans (RF.moreR s hR) hF.out hB hXF hX hp2.out hF1 hm2.out hb1

theorem poked_mach (HM : MachOk Try.prog M B T mv E inv fN fH fF fE fM rN rH rF rE rM) (RF : Refuse M R) (hbl : b.length ≤ 1000) :
    MachOk Try.prog M B 47 (.pointer (some ⟨X, 0, none⟩)) (PEnv E B A b) (PInv M inv R B X #[.iface T mv, .int .i64 port0, .slice A b.length c, .bool false])
      90 88 87 86 89
      (.pointer (some ⟨X, 0, none⟩)) (.pointer (some ⟨X, 0, none⟩)) (.pointer (some ⟨X, 0, none⟩)) (.pointer (some ⟨X, 0, none⟩)) (.pointer (some ⟨X, 0, none⟩)) where
  env w w' hw h := ⟨HM.env w w' hw h.1, h.2.chg (chg_of_belowB hw) (fun k hk _ h => by omega)⟩
  keep s F w w' S h hc hS := by
    obtain ⟨Fm, hi, hR, hF, hB, hXF, hb⟩ := h
    exact ⟨Fm, HM.keep s Fm w w' S hi hc (fun k hk => hS k ((hF k).2 (.inl hk))), hR, hF, hB, hXF, hb.chg hc (hS X ((hF X).2 (.inr rfl)))⟩
  inside s F w h := by
    obtain ⟨Fm, hi, hR, hF, hB, hXF, hb⟩ := h
    have hl := hb.lt
    refine ⟨by omega, fun k hk => ?_⟩
    rcases (hF k).1 hk with h | h
    · exact (HM.inside s Fm w hi).2 k h
    · omega
  mN := ⟨fun w => by kernel_rfl, fun args w => by kernel_rfl⟩
  mH := ⟨fun w => by kernel_rfl, fun args w => by kernel_rfl⟩
  mF := ⟨fun w => by kernel_rfl, fun args w => by kernel_rfl⟩
  mE := ⟨fun w => by kernel_rfl, fun args w => by kernel_rfl⟩
  mM := ⟨fun w => by kernel_rfl, fun args w => by kernel_rfl⟩
  need s F w h hE := poked_need HM s F w h hE
  held s F w h hE := poked_held HM s F w h hE
  feed s F w port A2 c2 bs h hE hr hl := poked_feed HM RF hbl s F w port A2 c2 bs h hE hr hl
  fin s F w port h hE := poked_fin HM RF hbl s F w port h hE
  more s F w h hE := poked_more HM RF hbl s F w h hE
  small s F w h := by
    obtain ⟨Fm, hi, _⟩ := h
    exact HM.small s Fm w hi
end

/-- A poked machine, in memory. -/
def PReady (M : Mach) (E : World → Prop) (R : M.σ → Prop) (B X : Nat) (v : Value) (port : Int) (A : Option Addr) (b : Bs) (c : Nat) (s : M.σ) (F : Nat → Prop) (w : World) : Prop :=
  ∃ T mv inv fN fH fF fE fM rN rH rF rE rM, v = .iface T mv ∧ MachOk Try.prog M B T mv E inv fN fH fF fE fM rN rH rF rE rM ∧ PInv M inv R B X #[v, .int .i64 port, .slice A b.length c, .bool false] s F w ∧ PEnv E B A b w

section
variable {M : Mach} {E : World → Prop} {R : M.σ → Prop} {B X : Nat} {v : Value} {port : Int} {A : Option Addr} {b : Bs} {c : Nat} {s : M.σ} {F : Nat → Prop} {w : World}

theorem pready_new (h : Ready M E B v s F w) (hR : R s) (port : Int) (A : Option Addr) (b : Bs) (c : Nat) (hr : Rd w (fun k => k < B) 1 A b.length (u8s b)) :
    PReady M E R B w.heap.size v port A b c s (fun k => F k ∨ k = w.heap.size) (w.alloc (.cells #[v, .int .i64 port, .slice A b.length c, .bool false] 49)) := by
  obtain ⟨T, mv, inv, fN, fH, fF, fE, fM, rN, rH, rF, rE, rM, rfl, HM, hi, hE⟩ := h
  have hin := HM.inside _ _ _ hi
  have hc := (Chg.refl (fun _ => False) w).alloc (.cells #[.iface T mv, .int .i64 port, .slice A b.length c, .bool false] 49)
  refine ⟨T, mv, inv, fN, fH, fF, fE, fM, rN, rH, rF, rE, rM, rfl, HM, ⟨F, HM.keep _ _ _ _ _ hi hc (fun _ _ h => h), hR, fun _ => Iff.rfl, hin.1, fun h => ?_, Blk.new _ _ _⟩, HM.env _ _ (hc.below hin.1 (fun _ h => h.elim)) hE, hr.chg hc (fun _ _ _ h => h)⟩
  have := (hin.2 _ h).2
  omega

/-- What Drive has come to, over a poked machine. -/
def PDriven (M : Mach) (E : World → Prop) (R : M.σ → Prop) (B X : Nat) (v : Value) (port : Int) (A : Option Addr) (b : Bs) (c : Nat) (den : Den) (F : Nat → Prop) (w : World) (e : Ending) (w' : World) : Prop :=
  ∃ (d : DS M.σ) (F' : Nat → Prop), e = .returned (.agg (gotC den.outs den.need den.err d.held d.taken false)) ∧ Chg F w w' ∧ PReady M E R B X v port A b c d.st F' w' ∧ ∀ k, F' k → F k ∨ w.heap.size ≤ k

theorem pready_drive (RF : Refuse M R) (hbl : b.length ≤ 1000) (h : PReady M E R B X v port A b c s F w) (ins : List Strm) (cuts : List Int) (den : Den) (bound : Int) (hd : DEnd M den bound (drive M s ins cuts))
    (Ai C : Option Addr) (ca cc : Nat) (D : Nat → Prop) (hins : StrmsAt w D (.slice Ai ins.length ca) ins) (hcuts : Rd w D 1 C cuts.length (i64s cuts)) (hD : ∀ k, D k → ¬ F k) (hcl : cuts.length ≤ 100000) (hbi : ∀ x ∈ ins, x.bs.length ≤ 1000000) :
    Calls Try.prog 18 #[.iface 47 (.pointer (some ⟨X, 0, none⟩)), .slice Ai ins.length ca, .slice C cuts.length cc] w (PDriven M E R B X v port A b c den F w) := by
  obtain ⟨T, mv, inv, fN, fH, fF, fE, fM, rN, rH, rF, rE, rM, rfl, HM, hi, hE⟩ := h
  refine (drive_any (poked_mach HM RF hbl) s F ins cuts Ai C ca cc D w hi hE hins hcuts hD hcl hbi).mono ?_
  rintro e w' ⟨rfl, hc, hE', F', hi', hF'⟩
  refine ⟨_, F', ?_, hc, ⟨T, mv, inv, fN, fH, fF, fE, fM, rN, rH, rF, rE, rM, rfl, HM, hi', hE'⟩, hF'⟩
  unfold GotVal
  rw [hd.outs, hd.need, hd.err, hd.bad]

theorem PReady.inside (h : PReady M E R B X v port A b c s F w) : B ≤ w.heap.size ∧ ∀ k, F k → B ≤ k ∧ k < w.heap.size := by
  obtain ⟨T, mv, inv, fN, fH, fF, fE, fM, rN, rH, rF, rE, rM, rfl, HM, ⟨Fm, hi, hR, hF, hBX, hXF, hb⟩, hE⟩ := h
  have hl := hb.lt
  refine ⟨by omega, fun k hk => ?_⟩
  rcases (hF k).1 hk with h | h
  · exact (HM.inside _ _ _ hi).2 k h
  · omega

theorem PReady.chg {S : Nat → Prop} {w' : World} (h : PReady M E R B X v port A b c s F w) (hc : Chg S w w') (hS : ∀ k, F k → ¬ S k) (hB : ∀ k, S k → B ≤ k) : PReady M E R B X v port A b c s F w' := by
  obtain ⟨T, mv, inv, fN, fH, fF, fE, fM, rN, rH, rF, rE, rM, rfl, HM, ⟨Fm, hi, hR, hF, hBX, hXF, hb⟩, hE⟩ := h
  refine ⟨T, mv, inv, fN, fH, fF, fE, fM, rN, rH, rF, rE, rM, rfl, HM, ⟨Fm, HM.keep _ _ _ _ _ hi hc (fun k hk => hS k ((hF k).2 (.inl hk))), hR, hF, hBX, hXF, hb.chg hc (hS X ((hF X).2 (.inr rfl)))⟩, HM.env _ _ (hc.below (HM.inside _ _ _ hi).1 hB) hE.1, hE.2.chg hc (fun k hk _ h => ?_)⟩
  have := hB k h
  omega

theorem pready_poke (RF : Refuse M R) (hbl : b.length ≤ 1000) (h : PReady M E R B X v port A b c s F w) :
    Calls Try.prog 21 #[.pointer (some ⟨X, 0, none⟩)] w fun e w' => e = .returned (.tuple #[]) ∧ Chg F w w' ∧ Blk w' X 49 #[v, .int .i64 port, .slice A b.length c, .bool false] := by
  obtain ⟨T, mv, inv, fN, fH, fF, fE, fM, rN, rH, rF, rE, rM, rfl, HM, ⟨Fm, hi, hR, hF, hBX, hXF, hb⟩, hE⟩ := h
  refine (poke_any HM R RF s Fm w X port b A c hi hE.1 hR hb hBX hXF hE.2 hbl).mono ?_
  rintro e w' ⟨rfl, F', hi', hF', hc, hb', hE'⟩
  exact ⟨rfl, hc.mono (fun k hk _ => (hF k).2 hk), hb'⟩
end
end Go.Proofs.Ytkgmbomfkdkofaa.Join
