/- Join's poked machine: what is poked when it has ended. -/
import Derived.Test.YtkgmbomfkdkofaaPoke0
import Derived.Test.YtkgmbomfkdkofaaReady
import Derived.Test.YtkgmbomfkdkofaaFresh
import Derived.Deep.RegionHeld3
import Derived.Deep.DrawnRows
import Derived.BigQuiet
import Derived.Outline
/- Join's poked machine. -/
namespace Go.Proofs.Ytkgmbomfkdkofaa.Join
open Go Go.RowKit

def RefPost (X : Nat) (cs : Array Value) (w : World) (e : Ending) (w' : World) : Prop := e = .returned (.tuple #[]) ∧ Blk w' X 49 cs ∧ Chg (fun j => j = X) w w'

theorem refused_any (X : Nat) (m p b : Value) (w : World) (hb : Blk w X 49 #[m, p, b, .bool false]) (A : Option Addr) (c : Nat) (e : Int) :
    Calls Try.prog 37 #[.pointer (some ⟨X, 0, none⟩), .int .i64 e, .slice A 0 c, .int .i64 e] w (RefPost X #[m, p, b, .bool false] w) := by
  have x3 : w.cell? ⟨X, 3, none⟩ = some (.bool false) := (hb.cell 3).trans rfl
  have f3 := hb.frozen 3
  have hb2 := hb.set 3 (.bool false)
  replace hb2 := Lib.hid hb2
  replace hb := Lib.hid hb
  go_enter Try.func37, Try.ntmps37
  go_wp2
  go_end0
  exact ⟨rfl, hb2.out, (Chg.refl (fun j => j = X) w).setCell (p := ⟨X, 3, none⟩) (.inl rfl) _⟩
/-- All that is not due has been called: nothing has changed. -/
def PokePost (M : Mach) (E : World → Prop) (inv : M.σ → (Nat → Prop) → World → Prop) (s : M.σ) (X : Nat) (cs : Array Value) (F : Nat → Prop) (w : World) (e : Ending) (w' : World) : Prop :=
  e = .returned (.tuple #[]) ∧ ∃ F', inv s F' w' ∧ (∀ k, F' k → F k ∨ w.heap.size ≤ k) ∧ Chg (fun k => F k ∨ k = X) w w' ∧ Blk w' X 49 cs ∧ E w'

/-- A machine's state, and its poked box. -/
structure PS (M : Mach) (E : World → Prop) (inv : M.σ → (Nat → Prop) → World → Prop) (s : M.σ) (X : Nat) (cs : Array Value) (F0 : Nat → Prop) (w0 : World) (F : Nat → Prop) (w : World) : Prop where
  inv : inv s F w
  env : E w
  new : ∀ k, F k → F0 k ∨ w0.heap.size ≤ k
  chg : Chg (fun k => F0 k ∨ k = X) w0 w
  blk : Blk w X 49 cs

section
variable {M : Mach} {B : Nat} {T : TypeId} {mv : Value} {E : World → Prop} {inv : M.σ → (Nat → Prop) → World → Prop} {fN fH fF fE fM : FuncId} {rN rH rF rE rM : Value}

theorem PS.quiet (HM : MachOk Try.prog M B T mv E inv fN fH fF fE fM rN rH rF rE rM) {s : M.σ} {X : Nat} {cs : Array Value} {F0 F : Nat → Prop} {w0 w w' : World} (h : PS M E inv s X cs F0 w0 F w) (hc : Chg (fun _ => False) w w') : PS M E inv s X cs F0 w0 F w' :=
  ⟨HM.keep _ _ _ _ _ h.inv hc (fun _ _ h => h), HM.env _ _ (hc.below (HM.inside _ _ _ h.inv).1 (fun _ h => h.elim)) h.env, h.new, h.chg.trans hc (fun _ h _ => h.elim), h.blk.chg hc (fun h => h)⟩

theorem PS.step (HM : MachOk Try.prog M B T mv E inv fN fH fF fE fM rN rH rF rE rM) {s : M.σ} {X : Nat} {cs : Array Value} {F0 F F' : Nat → Prop} {w0 w w' : World} (h : PS M E inv s X cs F0 w0 F w) (hi : inv s F' w') (hF : ∀ k, F' k → F k ∨ w.heap.size ≤ k) (hc : Chg F w w') (hX : X < w0.heap.size) (hXF : ¬ F0 X) : PS M E inv s X cs F0 w0 F' w' := by
  have hs := h.chg.size
  refine ⟨hi, HM.env _ _ (hc.below (HM.inside _ _ _ h.inv).1 (fun k hk => ((HM.inside _ _ _ h.inv).2 k hk).1)) h.env, fun k hk => ?_, h.chg.trans hc (fun k hk hlt => ?_), h.blk.chg hc (fun hk => ?_)⟩
  · rcases hF k hk with h1 | h1
    · exact h.new k h1
    · exact .inr (by omega)
  · rcases h.new k hk with h1 | h1
    · exact .inl h1
    · omega
  · rcases h.new X hk with h1 | h1
    · exact hXF h1
    · omega

theorem PS.mark (HM : MachOk Try.prog M B T mv E inv fN fH fF fE fM rN rH rF rE rM) {s : M.σ} {X : Nat} {cs : Array Value} {F0 F : Nat → Prop} {w0 w w' : World} (h : PS M E inv s X cs F0 w0 F w) (hb : Blk w' X 49 cs) (hc : Chg (fun j => j = X) w w') (hX : X < w0.heap.size) (hB : B ≤ X) (hXF : ¬ F0 X) : PS M E inv s X cs F0 w0 F w' := by
  have hs := h.chg.size
  refine ⟨HM.keep _ _ _ _ _ h.inv hc (fun k hk e => ?_), HM.env _ _ (hc.below (HM.inside _ _ _ h.inv).1 (fun k hk => by omega)) h.env, h.new, h.chg.trans hc (fun k hk _ => .inr hk), hb⟩
  subst e
  rcases h.new k hk with h1 | h1
  · exact hXF h1
  · omega
def NPost (v : Value) (P : World → Prop) (w : World) (e : Ending) (w' : World) : Prop := e = .returned v ∧ P w' ∧ Chg (fun _ => False) w w'
def APost (n : Int) (P : (Nat → Prop) → World → Prop) (F : Nat → Prop) (w : World) (e : Ending) (w' : World) : Prop := ∃ A c F', e = .returned (.tuple #[.slice A 0 c, .int .i64 n]) ∧ P F' w' ∧ Chg F w w'

theorem outs_nil {w : World} {D : Nat → Prop} {v : Value} (h : OutsAt w D v []) : ∃ A c, v = .slice A 0 c := by
  obtain ⟨A, c, its, rfl, _⟩ := h
  exact ⟨A, c, rfl⟩
end
end Go.Proofs.Ytkgmbomfkdkofaa.Join

/- Join's poked machine: what is poked when it has ended. -/
namespace Go.Proofs.Ytkgmbomfkdkofaa.Join
open Go Go.RowKit
section
variable {M : Mach} {B : Nat} {T : TypeId} {mv : Value} {E : World → Prop} {inv : M.σ → (Nat → Prop) → World → Prop} {fN fH fF fE fM : FuncId} {rN rH rF rE rM : Value}

set_option maxHeartbeats 4000000 in
set_option maxRecDepth 100000 in
theorem poke_ended (HM : MachOk Try.prog M B T mv E inv fN fH fF fE fM rN rH rF rE rM) (R : M.σ → Prop) (RF : Refuse M R) (s : M.σ) (F : Nat → Prop) (w : World) (X : Nat) (port : Int) (b : Bs) (A : Option Addr) (c : Nat)
    (hi : inv s F w) (hE : E w) (hR : R s) (hb : Blk w X 49 #[.iface T mv, .int .i64 port, .slice A b.length c, .bool false]) (hB : B ≤ X) (hXF : ¬ F X) (hrd : Rd w (fun k => k < B) 1 A b.length (u8s b)) (hbl : b.length ≤ 1000)
    (hcase : M.need s = -1) :
    Calls Try.prog 21 #[.pointer (some ⟨X, 0, none⟩)] w (PokePost M E inv s X #[.iface T mv, .int .i64 port, .slice A b.length c, .bool false] F w) := by
  obtain ⟨j0, hj0, jz0, jz1, jz2⟩ := info_parts info_u8
  have hXl := hb.lt
  generalize hcs : (#[.iface T mv, .int .i64 port, .slice A b.length c, .bool false] : Array Value) = cs at *
  have p0 : PS M E inv s X cs F w F w := ⟨hi, hE, fun _ h => .inl h, Chg.refl _ _, hb⟩
  have hN : ∀ F' W, PS M E inv s X cs F w F' W → Calls Try.prog fN #[rN] W (NPost (.int .i64 (M.need s)) (PS M E inv s X cs F w F') W) := fun F' W h =>
    (HM.need s F' W h.inv h.env).mono fun e w' ⟨he, hc⟩ => ⟨he, h.quiet HM hc, hc⟩
  have hH : ∀ F' W, PS M E inv s X cs F w F' W → Calls Try.prog fH #[rH] W (NPost (.int .i64 (M.held s)) (PS M E inv s X cs F w F') W) := fun F' W h =>
    (HM.held s F' W h.inv h.env).mono fun e w' ⟨he, hc⟩ => ⟨he, h.quiet HM hc, hc⟩
  have hFd : (port ≠ M.need s ∨ b.length = 0 ∨ b.length > 32) → ∀ F' W AX cX, PS M E inv s X cs F w F' W → Rd W (fun j => ¬ F' j) 1 AX b.length (u8s b) → Calls Try.prog fF #[rF, .int .i64 port, .slice AX b.length cX] W (APost (wantOf (M.need s)) (PS M E inv s X cs F w) F' W) := fun hc F' W AX cX h hr => by
    refine (HM.feed s F' W port AX cX b h.inv h.env hr (by omega)).mono ?_
    rw [RF.feed s port b hR hc]
    rintro e w' ⟨v, F'', rfl, hi', hF', hch, ho⟩
    obtain ⟨A', c', rfl⟩ := outs_nil ho
    exact ⟨A', c', F'', rfl, h.step HM hi' hF' hch hXl hXF, hch⟩
  have hFn : port ≠ M.need s → ∀ F' W, PS M E inv s X cs F w F' W → Calls Try.prog fE #[rE, .int .i64 port] W (APost (wantOf (M.need s)) (PS M E inv s X cs F w) F' W) := fun hc F' W h => by
    refine (HM.fin s F' W port h.inv h.env).mono ?_
    rw [RF.fin s port hR hc]
    rintro e w' ⟨v, F'', rfl, hi', hF', hch, ho⟩
    obtain ⟨A', c', rfl⟩ := outs_nil ho
    exact ⟨A', c', F'', rfl, h.step HM hi' hF' hch hXl hXF, hch⟩
  have hMo : M.need s ≠ -2 → ∀ F' W, PS M E inv s X cs F w F' W → Calls Try.prog fM #[rM] W (APost (wantOf (M.need s)) (PS M E inv s X cs F w) F' W) := fun hc F' W h => by
    refine (HM.more s F' W h.inv h.env).mono ?_
    rw [RF.more s hR hc]
    rintro e w' ⟨v, F'', rfl, hi', hF', hch, ho⟩
    obtain ⟨A', c', rfl⟩ := outs_nil ho
    exact ⟨A', c', F'', rfl, h.step HM hi' hF' hch hXl hXF, hch⟩
  have hRf : ∀ F' W A' c', PS M E inv s X cs F w F' W → Calls Try.prog 37 #[.pointer (some ⟨X, 0, none⟩), .int .i64 (wantOf (M.need s)), .slice A' 0 c', .int .i64 (wantOf (M.need s))] W fun e w' => e = .returned (.tuple #[]) ∧ PS M E inv s X cs F w F' w' := fun F' W A' c' h => by
    have hb' := h.blk
    rw [← hcs] at hb'
    refine (refused_any X _ _ _ W hb' A' c' (wantOf (M.need s))).mono ?_
    rintro e w' ⟨he, hb2, hc2⟩
    rw [hcs] at hb2
    exact ⟨he, h.mark HM hb2 hc2 hXl hB hXF⟩
  have mN := HM.mN.row; have mH := HM.mH.row; have mF := HM.mF.row; have mE := HM.mE.row; have mM := HM.mM.row
  have eN := HM.mN.enters; have eH := HM.mH.enters; have eF := HM.mF.enters; have eE := HM.mE.enters; have eM := HM.mM.enters
  have hX : ∀ F' W, PS M E inv s X cs F w F' W → W.cell? ⟨X, 0, none⟩ = some (.iface T mv) ∧ W.cell? ⟨X, 1, none⟩ = some (.int .i64 port) ∧ W.cell? ⟨X, 2, none⟩ = some (.slice A b.length c) ∧ W.cell? ⟨X, 3, none⟩ = some (.bool false) ∧ W.frozen? ⟨X, 3, none⟩ = false := fun F' W h => by
    have hb' := h.blk
    rw [← hcs] at hb'
    exact ⟨(hb'.cell 0).trans rfl, (hb'.cell 1).trans rfl, (hb'.cell 2).trans rfl, (hb'.cell 3).trans rfl, hb'.frozen 3⟩
  obtain ⟨x0, x1, x2, x3, xf⟩ := hX F w p0
  generalize hn : M.need s = n at *
  generalize hh : M.held s = hd at *
  have hS : ∀ F' W, PS M E inv s X cs F w F' W → W.cell? ⟨X, 0, none⟩ = some (.iface T mv) ∧ W.cell? ⟨X, 1, none⟩ = some (.int .i64 port) ∧ W.cell? ⟨X, 2, none⟩ = some (.slice A b.length c) ∧ ∃ F', PS M E inv s X cs F w F' W := fun F' W h => by
    obtain ⟨a0, a1, a2, _⟩ := hX F' W h
    exact ⟨a0, a1, a2, F', h⟩
  have hfin : ∀ F' W, PS M E inv s X cs F w F' W → PokePost M E inv s X cs F w (.returned (.tuple #[])) (W.setCell ⟨X, 3, none⟩ (.bool false)) := fun F' W p => by
    have hb' := p.blk.set 3 (.bool false)
    have e3 : cs.setIfInBounds 3 (.bool false) = cs := by rw [← hcs]; rfl
    rw [e3] at hb'
    have q := p.mark HM hb' ((Chg.refl (fun j => j = X) W).setCell (p := ⟨X, 3, none⟩) (.inl rfl) _) hXl hB hXF
    exact ⟨rfl, F', q.inv, q.new, q.chg, q.blk, q.env⟩
  have tN := Lib.hid trivial
  have tH := Lib.hid trivial
  have tM := Lib.hid trivial
  have tN2 := Lib.hid trivial
  have tR := Lib.hid trivial
  have tR1 := Lib.hid trivial
  have tR2 := Lib.hid trivial
  replace hX := Lib.hid hX
  replace hS := Lib.hid hS
  replace hfin := Lib.hid hfin
  have hw : wantOf n = 4 := by rw [hcase]; rfl
  have hnb : (n == -1) = true := by rw [hcase]; rfl
  have hn2 : n ≠ -2 := by omega
  have hnc : (n != -2) = true := by simpa using hn2
  clear hcase
  rw [hw] at hFd hFn hMo hRf
  replace hw := Lib.hid hw
  replace hMo := Lib.hid (hMo hn2)
  replace hN := Lib.hid hN
  replace hH := Lib.hid hH
  replace hRf := Lib.hid hRf
  replace hn := Lib.hid hn
  replace hh := Lib.hid hh
  replace hcs := Lib.hid hcs
  clear hb hi hE
  by_cases hp : port = n
  · clear hFn
    have hpb : (port == n) = true := by simpa using hp
    have hpb2 : (port != n) = false := by simpa using hp
    by_cases h0 : b.length = 0
    · have hl0 : ((b.length : Int) == 0) = true := by rw [h0]; rfl
      replace hFd := Lib.hid (hFd (.inr (.inl h0)))
      clear hp h0
      go_enter Try.func21, Try.ntmps21
      go_wp2_with (first
        | (clear tN
           refine (hN.out F w p0).mono ?_
           rintro e1 w1 ⟨rfl, p1, hc1⟩
           obtain ⟨y0, y1, y2, y3, yf⟩ := hX.out F w1 p1)
        | (clear tH
           refine (hH.out F w1 p1).mono ?_
           rintro e2 w2 ⟨rfl, p2, hc2⟩
           obtain ⟨z0, z1, z2, z3, zf⟩ := hX.out F w2 p2
           clear y0 y1 y2 y3 yf))
      clear x0 x1 x2 x3 xf z0 z1 z2 z3 zf
      have hrA : ∀ W, Chg (fun _ => False) w2 W → Rd W (fun _ => True) 1 A b.length (u8s b) := fun W hW => ((hrd.chg (hc1.trans hc2 (fun _ h _ => h)) (fun _ _ _ h => h)).chg hW (fun _ _ _ h => h)).mono (fun _ _ _ => trivial)
      have hSq := hS.out F w2 p2
      have pd := p2.quiet HM ((Chg.refl (fun _ => False) w2).drew)
      have pe := p2.quiet HM (((Chg.refl (fun _ => False) w2).drew).alloc (.cells #[] 5))
      have hSd := hS.out F _ pd
      have hSe := hS.out F _ pe
      have ce := ((Chg.refl (fun _ => False) w2).drew).alloc (.cells #[] 5)
      have hFin : ∀ k, F k → k < w2.heap.size := fun k hk => ((HM.inside _ _ _ p2.inv).2 k hk).2
      go_region_held3 (fun W => W.cell? ⟨X, 0, none⟩ = some (.iface T mv) ∧ W.cell? ⟨X, 1, none⟩ = some (.int .i64 port) ∧ W.cell? ⟨X, 2, none⟩ = some (.slice A b.length c) ∧ ∃ F', PS M E inv s X cs F w F' W)
        (first
          | exact hSq
          | exact hSd
          | exact hSe
          | exact hS.out _ _ pX
          | exact hS.out _ _ pY)
        (first
          | (refine step_append_fresh _ (by rfl) (.tmp 54) (.tmp 58) 22 (by rfl) 5 j0 _ 1 1 Try.underlying22 hj0 jz0 jz1 jz2 (by rfl) (by omega) _ (by rfl) (fun _ => True) A b.length c (u8s b) (by rfl) (by exact hrA _ ce) (u8s_one _) (by simp only [maxLen]; omega) (by omega) ?_
             intro AX cX' wX hcX hrX hbX
             have cX := ce.trans (Chg.of_below (S := fun _ => False) hbX) (fun _ h _ => h)
             have pX := p2.quiet HM cX)
          | (refine (hFd.out F wX AX cX' pX (hrX.mono (fun k hk _ hf => by have := hFin k hf; simp at hk; omega))).mono ?_
             rintro e7 w7 ⟨A7, c7, F7, rfl, pY, hc7⟩))
      clear hSq hSd hSe pd pe ce cX hrX hbX hrA
      go_wp2_with (first
        | (go_at_call 37
           clear tR
           refine (hRf.out F7 w7 A7 c7 pY).mono ?_
           rintro e8 w8 ⟨rfl, p8⟩
           obtain ⟨y0, y1, y2, y3, yf⟩ := hX.out F7 w8 p8)
        | (clear tM
           refine (hMo.out F7 w8 p8).mono ?_
           rintro e11 w11 ⟨A11, c11, F11, rfl, p11, hc11⟩
           clear y0 y1 y2 y3 yf)
        | (go_at_call 37
           clear tR2
           refine (hRf.out F11 w11 A11 c11 p11).mono ?_
           rintro e12 w12 ⟨rfl, p12⟩
           obtain ⟨u0, u1, u2, u3, uf⟩ := hX.out F11 w12 p12)
        | (clear tN2
           refine (hN.out F11 w12 p12).mono ?_
           rintro e13 w13 ⟨rfl, p13, hc13⟩
           clear u0 u1 u2 u3 uf
           obtain ⟨t0, t1, t2, t3, tf⟩ := hX.out F11 w13 p13)
        | (refine (hH.out F11 w13 p13).mono ?_
           rintro e14 w14 ⟨rfl, p14, hc14⟩
           clear t0 t1 t2 t3 tf
           obtain ⟨v0, v1, v2, v3, vf⟩ := hX.out F11 w14 p14))
      go_end0
      exact hfin.out F11 w14 p14
    · have hl0 : ((b.length : Int) == 0) = false := by rw [beq_eq_false_iff_ne]; omega
      by_cases h1 : b.length > 32
      · have hl1 : (32 : Int) < (b.length : Int) := by omega
        replace hFd := Lib.hid (hFd (.inr (.inr h1)))
        clear hp h0 h1
        go_enter Try.func21, Try.ntmps21
        go_wp2_with (first
          | (clear tN
             refine (hN.out F w p0).mono ?_
             rintro e1 w1 ⟨rfl, p1, hc1⟩
             obtain ⟨y0, y1, y2, y3, yf⟩ := hX.out F w1 p1)
          | (clear tH
             refine (hH.out F w1 p1).mono ?_
             rintro e2 w2 ⟨rfl, p2, hc2⟩
             obtain ⟨z0, z1, z2, z3, zf⟩ := hX.out F w2 p2
             clear y0 y1 y2 y3 yf))
        clear x0 x1 x2 x3 xf z0 z1 z2 z3 zf
        have hrA : ∀ W, Chg (fun _ => False) w2 W → Rd W (fun _ => True) 1 A b.length (u8s b) := fun W hW => ((hrd.chg (hc1.trans hc2 (fun _ h _ => h)) (fun _ _ _ h => h)).chg hW (fun _ _ _ h => h)).mono (fun _ _ _ => trivial)
        have hSq := hS.out F w2 p2
        have pd := p2.quiet HM ((Chg.refl (fun _ => False) w2).drew)
        have pe := p2.quiet HM (((Chg.refl (fun _ => False) w2).drew).alloc (.cells #[] 5))
        have hSd := hS.out F _ pd
        have hSe := hS.out F _ pe
        have ce := ((Chg.refl (fun _ => False) w2).drew).alloc (.cells #[] 5)
        have hFin : ∀ k, F k → k < w2.heap.size := fun k hk => ((HM.inside _ _ _ p2.inv).2 k hk).2
        go_region_held3 (fun W => W.cell? ⟨X, 0, none⟩ = some (.iface T mv) ∧ W.cell? ⟨X, 1, none⟩ = some (.int .i64 port) ∧ W.cell? ⟨X, 2, none⟩ = some (.slice A b.length c) ∧ ∃ F', PS M E inv s X cs F w F' W)
          (first
            | exact hSq
            | exact hSd
            | exact hSe
            | exact hS.out _ _ pX
            | exact hS.out _ _ pY)
          (first
            | (refine step_append_fresh _ (by rfl) (.tmp 54) (.tmp 58) 22 (by rfl) 5 j0 _ 1 1 Try.underlying22 hj0 jz0 jz1 jz2 (by rfl) (by omega) _ (by rfl) (fun _ => True) A b.length c (u8s b) (by rfl) (by exact hrA _ ce) (u8s_one _) (by simp only [maxLen]; omega) (by omega) ?_
               intro AX cX' wX hcX hrX hbX
               have cX := ce.trans (Chg.of_below (S := fun _ => False) hbX) (fun _ h _ => h)
               have pX := p2.quiet HM cX)
            | (refine (hFd.out F wX AX cX' pX (hrX.mono (fun k hk _ hf => by have := hFin k hf; simp at hk; omega))).mono ?_
               rintro e7 w7 ⟨A7, c7, F7, rfl, pY, hc7⟩))
        clear hSq hSd hSe pd pe ce cX hrX hbX hrA
        go_wp2_with (first
          | (go_at_call 37
             clear tR
             refine (hRf.out F7 w7 A7 c7 pY).mono ?_
             rintro e8 w8 ⟨rfl, p8⟩
             obtain ⟨y0, y1, y2, y3, yf⟩ := hX.out F7 w8 p8)
          | (clear tM
             refine (hMo.out F7 w8 p8).mono ?_
             rintro e11 w11 ⟨A11, c11, F11, rfl, p11, hc11⟩
             clear y0 y1 y2 y3 yf)
          | (go_at_call 37
             clear tR2
             refine (hRf.out F11 w11 A11 c11 p11).mono ?_
             rintro e12 w12 ⟨rfl, p12⟩
             obtain ⟨u0, u1, u2, u3, uf⟩ := hX.out F11 w12 p12)
          | (clear tN2
             refine (hN.out F11 w12 p12).mono ?_
             rintro e13 w13 ⟨rfl, p13, hc13⟩
             clear u0 u1 u2 u3 uf
             obtain ⟨t0, t1, t2, t3, tf⟩ := hX.out F11 w13 p13)
          | (refine (hH.out F11 w13 p13).mono ?_
             rintro e14 w14 ⟨rfl, p14, hc14⟩
             clear t0 t1 t2 t3 tf
             obtain ⟨v0, v1, v2, v3, vf⟩ := hX.out F11 w14 p14))
        go_end0
        exact hfin.out F11 w14 p14
      · have hl1 : ¬ (32 : Int) < (b.length : Int) := by omega
        clear hp h0 h1 hFd
        go_enter Try.func21, Try.ntmps21
        go_wp2_with (first
          | (clear tN
             refine (hN.out F w p0).mono ?_
             rintro e1 w1 ⟨rfl, p1, hc1⟩
             obtain ⟨y0, y1, y2, y3, yf⟩ := hX.out F w1 p1)
          | (clear tH
             refine (hH.out F w1 p1).mono ?_
             rintro e2 w2 ⟨rfl, p2, hc2⟩
             obtain ⟨z0, z1, z2, z3, zf⟩ := hX.out F w2 p2
             clear y0 y1 y2 y3 yf)
          | (clear tM
             refine (hMo.out F w2 p2).mono ?_
             rintro e11 w11 ⟨A11, c11, F11, rfl, p11, hc11⟩
             clear z0 z1 z2 z3 zf)
          | (go_at_call 37
             clear tR2
             refine (hRf.out F11 w11 A11 c11 p11).mono ?_
             rintro e12 w12 ⟨rfl, p12⟩
             obtain ⟨u0, u1, u2, u3, uf⟩ := hX.out F11 w12 p12)
          | (clear tN2
             refine (hN.out F11 w12 p12).mono ?_
             rintro e13 w13 ⟨rfl, p13, hc13⟩
             clear u0 u1 u2 u3 uf
             obtain ⟨t0, t1, t2, t3, tf⟩ := hX.out F11 w13 p13)
          | (refine (hH.out F11 w13 p13).mono ?_
             rintro e14 w14 ⟨rfl, p14, hc14⟩
             clear t0 t1 t2 t3 tf
             obtain ⟨v0, v1, v2, v3, vf⟩ := hX.out F11 w14 p14))
        go_end0
        exact hfin.out F11 w14 p14
  · have hpb : (port == n) = false := by simpa using hp
    have hpb2 : (port != n) = true := by simpa using hp
    replace hFd := Lib.hid (hFd (.inl hp))
    replace hFn := Lib.hid (hFn hp)
    clear hp
    go_enter Try.func21, Try.ntmps21
    go_wp2_with (first
      | (clear tN
         refine (hN.out F w p0).mono ?_
         rintro e1 w1 ⟨rfl, p1, hc1⟩
         obtain ⟨y0, y1, y2, y3, yf⟩ := hX.out F w1 p1)
      | (clear tH
         refine (hH.out F w1 p1).mono ?_
         rintro e2 w2 ⟨rfl, p2, hc2⟩
         obtain ⟨z0, z1, z2, z3, zf⟩ := hX.out F w2 p2
         clear y0 y1 y2 y3 yf))
    clear x0 x1 x2 x3 xf z0 z1 z2 z3 zf
    have hrA : ∀ W, Chg (fun _ => False) w2 W → Rd W (fun _ => True) 1 A b.length (u8s b) := fun W hW => ((hrd.chg (hc1.trans hc2 (fun _ h _ => h)) (fun _ _ _ h => h)).chg hW (fun _ _ _ h => h)).mono (fun _ _ _ => trivial)
    have hSq := hS.out F w2 p2
    have pd := p2.quiet HM ((Chg.refl (fun _ => False) w2).drew)
    have pe := p2.quiet HM (((Chg.refl (fun _ => False) w2).drew).alloc (.cells #[] 5))
    have hSd := hS.out F _ pd
    have hSe := hS.out F _ pe
    have ce := ((Chg.refl (fun _ => False) w2).drew).alloc (.cells #[] 5)
    have hFin : ∀ k, F k → k < w2.heap.size := fun k hk => ((HM.inside _ _ _ p2.inv).2 k hk).2
    go_region_held3 (fun W => W.cell? ⟨X, 0, none⟩ = some (.iface T mv) ∧ W.cell? ⟨X, 1, none⟩ = some (.int .i64 port) ∧ W.cell? ⟨X, 2, none⟩ = some (.slice A b.length c) ∧ ∃ F', PS M E inv s X cs F w F' W)
      (first
        | exact hSq
        | exact hSd
        | exact hSe
        | exact hS.out _ _ pX
        | exact hS.out _ _ pY)
      (first
        | (refine step_append_fresh _ (by rfl) (.tmp 54) (.tmp 58) 22 (by rfl) 5 j0 _ 1 1 Try.underlying22 hj0 jz0 jz1 jz2 (by rfl) (by omega) _ (by rfl) (fun _ => True) A b.length c (u8s b) (by rfl) (by exact hrA _ ce) (u8s_one _) (by simp only [maxLen]; omega) (by omega) ?_
           intro AX cX' wX hcX hrX hbX
           have cX := ce.trans (Chg.of_below (S := fun _ => False) hbX) (fun _ h _ => h)
           have pX := p2.quiet HM cX)
        | (refine (hFd.out F wX AX cX' pX (hrX.mono (fun k hk _ hf => by have := hFin k hf; simp at hk; omega))).mono ?_
           rintro e7 w7 ⟨A7, c7, F7, rfl, pY, hc7⟩))
    clear hSq hSd hSe pd pe ce cX hrX hbX hrA
    go_wp2_with (first
      | (go_at_call 37
         clear tR
         refine (hRf.out F7 w7 A7 c7 pY).mono ?_
         rintro e8 w8 ⟨rfl, p8⟩
         obtain ⟨y0, y1, y2, y3, yf⟩ := hX.out F7 w8 p8))
    clear y0 y1 y2 y3 yf
    have hS8 := hS.out F7 w8 p8
    have p8d := p8.quiet HM ((Chg.refl (fun _ => False) w8).drew)
    have hS8d := hS.out F7 _ p8d
    go_region_held3 (fun W => W.cell? ⟨X, 0, none⟩ = some (.iface T mv) ∧ W.cell? ⟨X, 1, none⟩ = some (.int .i64 port) ∧ W.cell? ⟨X, 2, none⟩ = some (.slice A b.length c) ∧ ∃ F', PS M E inv s X cs F w F' W)
      (first
        | exact hS8
        | exact hS8d
        | exact hS.out _ _ pZ)
      (first
        | (refine (hFn.out F7 _ p8d).mono ?_
           rintro e9 w9 ⟨A9, c9, F9, rfl, pZ, hc9⟩))
    clear hS8 hS8d p8d
    go_wp2_with (first
      | (go_at_call 37
         clear tR1
         refine (hRf.out F9 w9 A9 c9 pZ).mono ?_
         rintro e10 w10 ⟨rfl, p10⟩
         obtain ⟨y0, y1, y2, y3, yf⟩ := hX.out F9 w10 p10)
      | (clear tM
         refine (hMo.out F9 w10 p10).mono ?_
         rintro e11 w11 ⟨A11, c11, F11, rfl, p11, hc11⟩
         clear y0 y1 y2 y3 yf)
      | (go_at_call 37
         clear tR2
         refine (hRf.out F11 w11 A11 c11 p11).mono ?_
         rintro e12 w12 ⟨rfl, p12⟩
         obtain ⟨u0, u1, u2, u3, uf⟩ := hX.out F11 w12 p12)
      | (clear tN2
         refine (hN.out F11 w12 p12).mono ?_
         rintro e13 w13 ⟨rfl, p13, hc13⟩
         clear u0 u1 u2 u3 uf
         obtain ⟨t0, t1, t2, t3, tf⟩ := hX.out F11 w13 p13)
      | (refine (hH.out F11 w13 p13).mono ?_
         rintro e14 w14 ⟨rfl, p14, hc14⟩
         clear t0 t1 t2 t3 tf
         obtain ⟨v0, v1, v2, v3, vf⟩ := hX.out F11 w14 p14))
    go_end0
    exact hfin.out F11 w14 p14
end
end Go.Proofs.Ytkgmbomfkdkofaa.Join
