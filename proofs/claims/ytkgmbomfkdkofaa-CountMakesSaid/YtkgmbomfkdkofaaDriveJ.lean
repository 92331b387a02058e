/- Drive over a machine that answers where the run comes by. -/
import Derived.Test.YtkgmbomfkdkofaaReady
import Derived.Deep.RegionHeld3
import Derived.Deep.DrawnRows
import Derived.Outline
import Derived.Deep.RegionWith
import Derived.BigRegion
import Derived.Laws.IdiomAt
namespace Go.Proofs.Ytkgmbomfkdkofaa
open Go Go.RowKit

structure MachOkJ (P : Program) (M : Mach) (aF : M.σ → Int → Bs → Prop) (aE : M.σ → Int → Prop) (aM : M.σ → Prop) (B : Nat) (T : TypeId) (mv : Value) (E : World → Prop) (inv : M.σ → (Nat → Prop) → World → Prop) (fN fH fF fE fM : FuncId) (rN rH rF rE rM : Value) : Prop where
  env : ∀ w w', Below B w w' → E w → E w'
  keep : ∀ s F w w' S, inv s F w → Chg S w w' → (∀ k, F k → ¬ S k) → inv s F w'
  inside : ∀ s F w, inv s F w → B ≤ w.heap.size ∧ ∀ k, F k → B ≤ k ∧ k < w.heap.size
  mN : Meth P T mv "Need" fN rN
  mH : Meth P T mv "Held" fH rH
  mF : Meth P T mv "Feed" fF rF
  mE : Meth P T mv "End" fE rE
  mM : Meth P T mv "More" fM rM
  need : ∀ s F w, inv s F w → E w → Calls P fN #[rN] w fun e w' => e = .returned (.int .i64 (M.need s)) ∧ Chg (fun _ => False) w w'
  held : ∀ s F w, inv s F w → E w → Calls P fH #[rH] w fun e w' => e = .returned (.int .i64 (M.held s)) ∧ Chg (fun _ => False) w w'
  feed : ∀ s F w port A c bs, aF s port bs → inv s F w → E w → Rd w (fun j => ¬ F j) 1 A bs.length (u8s bs) → bs.length ≤ 100000 → Calls P fF #[rF, .int .i64 port, .slice A bs.length c] w (MAns M inv w F (M.feed s port bs))
  fin : ∀ s F w port, aE s port → inv s F w → E w → Calls P fE #[rE, .int .i64 port] w (MAns M inv w F (M.fin s port))
  more : ∀ s F w, aM s → inv s F w → E w → Calls P fM #[rM] w (MAns M inv w F (M.more s))
  small : ∀ s F w, inv s F w → (∀ port bs, bs.length ≤ 100000 → (M.feed s port bs).1.length ≤ 1000000 ∧ ((M.feed s port bs).1.map fun o => o.2.length).sum ≤ 10000000) ∧
    (∀ port, (M.fin s port).1.length ≤ 1000000 ∧ ((M.fin s port).1.map fun o => o.2.length).sum ≤ 10000000) ∧ ((M.more s).1.length ≤ 1000000 ∧ ((M.more s).1.map fun o => o.2.length).sum ≤ 10000000)

def DRelJ (M : Mach) (J : DS M.σ → Prop) (inv : M.σ → (Nat → Prop) → World → Prop) (E : World → Prop) (G H R : Nat) (F0 : Nat → Prop) (W : World) (ins : List Strm) (cuts : List Int) (res : DS M.σ) (n : Nat) (wr : World) : Prop :=
  n ≤ 100000 ∧ Blk wr R 42 (gotC (fun _ => []) 0 0 0 (fun _ => 0) false) ∧ ∃ d F, DAt M inv E G H R F0 W wr d F ∧ (∀ j, (d.outs j).length ≤ n * 10000000) ∧ dloop M ins cuts (100000 - n) n d = res ∧ J d

/-- The end of it. -/
theorem drive_postJ {P : Program} {M : Mach} {aF : M.σ → Int → Bs → Prop} {aE : M.σ → Int → Prop} {aM : M.σ → Prop} {B : Nat} {T : TypeId} {mv : Value} {E : World → Prop} {inv : M.σ → (Nat → Prop) → World → Prop} {fN fH fF fE fM : FuncId} {rN rH rF rE rM : Value} (HM : MachOkJ P M aF aE aM B T mv E inv fN fH fF fE fM rN rH rF rE rM)
    {G H R : Nat} {F : Nat → Prop} {w wr wx : World} {d dx : DS M.σ} {F' : Nat → Prop} (hd : DAt M inv E G H R F w wr d F') (hst : dx.st = d.st) (hx : Chg (fun k => k = G) wr wx) (hB : B ≤ w.heap.size) (hR : R = w.heap.size) (hG : w.heap.size ≤ G) :
    DrivePost M inv E F w dx (.returned (GotVal dx)) (wx.setRow R (gotC dx.outs dx.need dx.err dx.held dx.taken dx.bad)) := by
  have hF1 : ∀ k, F' k → ¬ k = R := fun k hk => (hd.far k hk).2.2.1
  have hc0 : Chg F w wx := hd.chg.trans hx (fun k hk hlt => by omega)
  have hc1 : Chg (fun k => k = R) wx (wx.setRow R (gotC dx.outs dx.need dx.err dx.held dx.taken dx.bad)) := chg_setRow (Chg.refl (fun k => k = R) wx) (.inl rfl) _
  have hc2 : Chg F w (wx.setRow R (gotC dx.outs dx.need dx.err dx.held dx.taken dx.bad)) := hc0.trans hc1 (fun k hk hlt => by omega)
  have hs := hd.chg.size
  have hs2 := hx.size
  refine ⟨rfl, hc2, HM.env _ _ ((hx.below (B := B) (by omega) (fun k hk => by omega)).trans (hc1.below (by omega) (fun k hk => by omega))) hd.env, F', ?_, fun k hk => (hd.far k hk).2.2.2⟩
  rw [hst]
  exact HM.keep _ _ _ _ _ (HM.keep _ _ _ _ _ hd.inv hx (fun k hk => (hd.far k hk).1)) hc1 hF1

/-- One round more. -/
theorem drel_stepJ {M : Mach} {J : DS M.σ → Prop} {inv : M.σ → (Nat → Prop) → World → Prop} {E : World → Prop} {G H R : Nat} {F0 : Nat → Prop} {W : World} {ins : List Strm} {cuts : List Int} {res : DS M.σ} {n : Nat} {d : DS M.σ} {a : Outs × Int × M.σ} {tk : Nat → Nat} {tl : Nat → Bool}
    {F' F2 : Nat → Prop} {wr w5 : World} (hJ : J ((({ d with taken := tk, told := tl } : DS M.σ).put a).look M)) (hd : DAt M inv E G H R F0 W wr d F') (hn : n < 100000) (hlen : ∀ j, (d.outs j).length ≤ n * 10000000) (hsm : (a.1.map fun o => o.2.length).sum ≤ 10000000)
    (hres : dloop M ins cuts (100000 - n) n d = res) (he : d.err = 0) (hneed : d.need ≠ -1) (hstep : dstep M ins cuts n d = ((({ d with taken := tk, told := tl } : DS M.σ).put a).look M, true))
    (hbR : Blk w5 R 42 (gotC (fun _ => []) 0 0 0 (fun _ => 0) false))
    (hgot : Blk w5 G 42 (gotC (putAll (d.outs, d.bad, 0) a.1).1 (M.need a.2.2) a.2.1 (max d.held (M.held a.2.2)) tk (putAll (d.outs, d.bad, 0) a.1).2.1))
    (htold : Blk w5 H 88 #[.bool (tl 0), .bool (tl 1), .bool (tl 2), .bool (tl 3)]) (hinv : inv a.2.2 F2 w5) (hE : E w5) (hF2 : ∀ k, F2 k → F' k ∨ wr.heap.size ≤ k) (hchg : Chg F0 W w5)
    (hG : G < wr.heap.size) (hH : H < wr.heap.size) (hR : R < wr.heap.size) : DRelJ M J inv E G H R F0 W ins cuts res (n + 1) w5 := by
  have hs := hd.chg.size
  have hln : ∀ j, ((putAll (d.outs, d.bad, 0) a.1).1 j).length ≤ (n + 1) * 10000000 := fun j => by
    have h1 := putAll_len a.1 j (d.outs, d.bad, 0)
    have h2 := hlen j
    simp only at h1
    have : (n + 1) * 10000000 = n * 10000000 + 10000000 := Nat.succ_mul _ _
    omega
  have h100 : (n + 1) * 10000000 ≤ 100000 * 10000000 := Nat.mul_le_mul_right _ (by omega)
  refine ⟨by omega, hbR, (({ d with taken := tk, told := tl } : DS M.σ).put a).look M, F2, ⟨hinv, hE, hgot, htold, hchg, fun k hk => ?_, ⟨(n + 1) * 10000000, by omega, hln⟩⟩, hln, ?_, hJ⟩
  · rcases hF2 k hk with h | h
    · exact hd.far k h
    · exact ⟨by omega, by omega, by omega, .inr (by omega)⟩
  · rw [← hres, show 100000 - n = (100000 - (n + 1)) + 1 by omega, dloop_go he hneed hstep]

set_option maxHeartbeats 4000000 in
set_option maxRecDepth 100000 in
theorem drive_anyJ {M : Mach} {aF : M.σ → Int → Bs → Prop} {aE : M.σ → Int → Prop} {aM : M.σ → Prop} {B : Nat} {T : TypeId} {mv : Value} {E : World → Prop} {inv : M.σ → (Nat → Prop) → World → Prop} {fN fH fF fE fM : FuncId} {rN rH rF rE rM : Value}
    (HM : MachOkJ Try.prog M aF aE aM B T mv E inv fN fH fF fE fM rN rH rF rE rM) (s : M.σ) (F : Nat → Prop) (ins : List Strm) (cuts : List Int) (A C : Option Addr) (ca cc : Nat) (D : Nat → Prop) (w : World)
    (hinv : inv s F w) (hE : E w) (hins : StrmsAt w D (.slice A ins.length ca) ins) (hcuts : Rd w D 1 C cuts.length (i64s cuts)) (hD : ∀ k, D k → ¬ F k) (hcl : cuts.length ≤ 100000) (hbl : ∀ x ∈ ins, x.bs.length ≤ 1000000)
    (J : DS M.σ → Prop) (hJ0 : J (dinit M s)) (hJs : ∀ n d, J d → d.err = 0 → d.need ≠ -1 → J (dstep M ins cuts n d).1) (hAM : ∀ d, J d → d.need = -2 → aM d.st)
    (hAF : ∀ n d, J d → ∀ k (hk : k < ins.length), d.need = (k : Int) → d.taken k < ins[k].bs.length → aF d.st (k : Int) ((ins[k].bs.take (min ins[k].bs.length (d.taken k + cutN cuts n))).drop (d.taken k)))
    (hAE : ∀ d, J d → ∀ k (hk : k < ins.length), d.need = (k : Int) → ¬ d.taken k < ins[k].bs.length → ins[k].ended = true → d.told k = false → aE d.st (k : Int)) :
    Calls Try.prog 18 #[.iface T mv, .slice A ins.length ca, .slice C cuts.length cc] w (DrivePost M inv E F w (drive M s ins cuts)) := by
  have mN := HM.mN.row; have mH := HM.mH.row; have mF := HM.mF.row; have mE := HM.mE.row; have mM := HM.mM.row
  have eN := HM.mN.enters; have eH := HM.mH.enters; have eF := HM.mF.enters; have eE := HM.mE.enters; have eM := HM.mM.enters
  go_enter Try.func18, Try.ntmps18
  go_wp2_with (refine (HM.need s F _ (HM.keep _ _ _ _ _ hinv ((Chg.refl (fun _ => False) w).alloc _) (fun _ _ h => h)) (HM.env _ _ ((Below.refl B w).alloc (HM.inside _ _ _ hinv).1 _) hE)).mono ?_; rintro e1 w1 ⟨rfl, hch1⟩)
  have hin := HM.inside _ _ _ hinv
  have hEW := hE
  have hs1 := hch1.size
  simp at hs1
  generalize hR : w.heap.size = R
  generalize hG : w1.heap.size = G
  have hGR : R < G := by omega
  have hchB : Chg (fun _ => False) w ((w1.alloc (.cells (gotC (fun _ => []) (M.need s) 0 0 (fun _ => 0) false) 42)).alloc (.cells #[.bool false, .bool false, .bool false, .bool false] 88)) :=
    ((((Chg.refl (fun _ => False) w).alloc _).trans hch1 (fun _ h _ => h)).alloc _).alloc _
  have hchA := hchB.mono (S' := F) (fun _ h _ => h.elim)
  have hstart : DRelJ M J inv E G (G + 1) R F w ins cuts (drive M s ins cuts) 0 ((w1.alloc (.cells (gotC (fun _ => []) (M.need s) 0 0 (fun _ => 0) false) 42)).alloc (.cells #[.bool false, .bool false, .bool false, .bool false] 88)) := by
    refine ⟨by omega, ?_, dinit M s, F, ⟨?_, ?_, ?_, ?_, hchA, fun k hk => ?_, ⟨0, by omega, fun j => by simp [dinit]⟩⟩, fun j => by simp [dinit], rfl, hJ0⟩
    · have h1 : Blk (w.alloc (.cells (gotC (fun _ => []) 0 0 0 (fun _ => 0) false) 42)) R 42 (gotC (fun _ => []) 0 0 0 (fun _ => 0) false) := by rw [← hR]; exact Blk.new _ _ _
      exact ((h1.chg hch1 (fun h => h)).alloc _).alloc _
    · exact HM.keep _ _ _ _ _ hinv hchB (fun _ _ h => h)
    · exact HM.env _ _ (hchB.below hin.1 (fun _ h => h.elim)) hE
    · have := Blk.new w1 42 (gotC (fun _ => []) (M.need s) 0 0 (fun _ => 0) false)
      rw [hG] at this
      exact this.alloc _
    · have := Blk.new (w1.alloc (.cells (gotC (fun _ => []) (M.need s) 0 0 (fun _ => 0) false) 42)) 88 #[.bool false, .bool false, .bool false, .bool false]
      simp only [World.size_alloc, hG] at this
      exact this
    · have := hin.2 k hk
      exact ⟨by omega, by omega, by omega, .inl hk⟩
  replace hJs := Lib.hid hJs
  replace hAM := Lib.hid hAM
  replace hAF := Lib.hid hAF
  replace hAE := Lib.hid hAE
  go_loopw [9] (fun i wr => ∃ n : Nat, i = .int .i64 n ∧ DRelJ M J inv E G (G + 1) R F w ins cuts (drive M s ins cuts) n wr) (fun i _ => 100000 - (intOf i).toNat)
  case atStart => exact ⟨0, rfl, hstart⟩
  case round =>
    clear hstart hchA hchB hch1 hinv hE hJ0
    obtain ⟨n, rfl, hn, hbR, d, F', hd, hlen, hres, hJd⟩ := hrel
    have hAMd := hAM.out d hJd
    have hAFd := hAF.out n d hJd
    have hAEd := hAE.out d hJd
    replace hJd := Lib.hid hJd
    replace hAMd := Lib.hid hAMd
    replace hAFd := Lib.hid hAFd
    replace hAEd := Lib.hid hAEd
    have h4 : wr.cell? ⟨G, 4, none⟩ = some (.int .i64 d.need) := (hd.got.cell _).trans rfl
    have h5 : wr.cell? ⟨G, 5, none⟩ = some (.int .i64 d.err) := (hd.got.cell _).trans rfl
    have hfG : ∀ i, wr.frozen? ⟨G, i, none⟩ = false := fun i => hd.got.frozen i
    by_cases hgo : n < 100000 ∧ d.err = 0 ∧ d.need ≠ -1
    · obtain ⟨hn2, he, hneed⟩ := hgo
      have hn3 : (n : Int) < 100000 := by omega
      have t1 : (d.err == 0) = true := by rw [he]; rfl
      have t2 : (d.need != -1) = true := by simpa using hneed
      have hF1 : ∀ k, F' k → k ≠ G ∧ k ≠ G + 1 ∧ k ≠ R := fun k hk => ⟨(hd.far k hk).1, (hd.far k hk).2.1, (hd.far k hk).2.2.1⟩
      have hsm := HM.small _ _ _ hd.inv
      have hGw := hd.got.lt
      have hHw := hd.told.lt
      have hch := hd.chg.size
      have he := Lib.hid he
      have hneed := Lib.hid hneed
      have hres := Lib.hid hres
      -- what becomes of an answer: put, then Held and Need
      have hput : ∀ (a : Outs × Int × M.σ) (v2 : Value) (F2 : Nat → Prop) (w2 : World) (taken : Nat → Nat), Blk w2 G 42 (gotC d.outs d.need d.err d.held taken d.bad) → OutsAt w2 (fun j => wr.heap.size ≤ j) v2 a.1 → a.1.length ≤ 1000000 → (a.1.map fun o => o.2.length).sum ≤ 10000000 →
          Calls Try.prog 30 #[.pointer (some ⟨G, 0, none⟩), v2, .int .i64 a.2.1] w2 fun e' w' => e' = .returned (.tuple #[]) ∧
            Blk w' G 42 (gotC (putAll (d.outs, d.bad, 0) a.1).1 d.need a.2.1 d.held taken (putAll (d.outs, d.bad, 0) a.1).2.1) ∧ Chg (fun j => j = G) w2 w' := fun a v2 F2 w2 taken hg ho hl hs =>
        put_any G _ v2 a.1 d.outs d.need d.err d.held a.2.1 taken d.bad w2 hg ho (fun j hj => by omega) hl (by omega) (fun j => by have := hlen j; have : n * 10000000 ≤ 100000 * 10000000 := Nat.mul_le_mul_right _ (by omega); omega)
      by_cases hmore : d.need = -2
      · have t3 : (d.need == -2) = true := by rw [hmore]; rfl
        have hstep : Hid (dstep M ins cuts n d = ((({ d with taken := d.taken, told := d.told } : DS M.σ).put (M.more d.st)).look M, true)) := by
          show _ = _
          unfold dstep
          rw [if_pos hmore]
        have haM := hAMd.out hmore
        clear hmore
        have hcm := HM.more d.st F' wr haM hd.inv hd.env
        clear haM
        go_wp2_with (first
          | (refine hcm.mono ?_
             rintro e2 w2 ⟨v2, F2, rfl, hinv2, hF2, hch2, ho2⟩
             have hgot2 := hd.got.chg hch2 (fun h => (hF1 _ h).1 rfl)
             have htold2 := hd.told.chg hch2 (fun h => (hF1 _ h).2.1 rfl)
             have hbR2 := hbR.chg hch2 (fun h => (hF1 _ h).2.2 rfl)
             have hs2 := hch2.size
             have hch2W : Chg F w w2 := hd.chg.trans hch2 (fun k hk hlt => by rcases (hd.far k hk).2.2.2 with h | h; exact h; omega))
          | (go_at_call 30
             refine (hput (M.more d.st) v2 F2 w2 d.taken hgot2 ho2 hsm.2.2.1 hsm.2.2.2).mono ?_
             rintro e3 w3 ⟨rfl, hgot3, hch3⟩))
        have hinv3 : inv (M.more d.st).2.2 F2 w3 := HM.keep _ _ _ _ _ hinv2 hch3 (fun k hk e => by rcases hF2 k hk with h | h; exact (hF1 k h).1 e; omega)
        have hch23 : Chg F w w3 := (hch2W.trans hch3 (fun x hx hlt => by omega))
        have hEw : ∀ W : World, Chg F w W → E W := fun W hW => HM.env _ _ (hW.below hin.1 (fun k hk => (hin.2 k hk).1)) hEW
        have hHeld : ∀ W : World, Chg (fun _ => False) w3 W → Calls Try.prog fH #[rH] W fun e w' => e = .returned (.int .i64 (M.held (M.more d.st).2.2)) ∧ Chg (fun _ => False) W w' := fun W hW =>
          HM.held _ F2 W (HM.keep _ _ _ _ _ hinv3 hW (fun _ _ h => h)) (hEw W (hch23.trans hW (fun _ h _ => h.elim)))
        have g6 : w3.cell? ⟨G, 6, none⟩ = some (.int .i64 d.held) := (hgot3.cell _).trans rfl
        have g6f : ∀ i, w3.frozen? ⟨G, i, none⟩ = false := fun i => hgot3.frozen i
        have hGw3 := hgot3.lt
        have hbR3 := hbR2.chg hch3 (fun e => by omega)
        have htold3 := htold2.chg hch3 (fun e => by omega)
        have hfin : ∀ w4 w5 : World, Chg (fun _ => False) w3 w4 → Chg (fun _ => False) (w4.setCell ⟨G, 6, none⟩ (.int .i64 (max d.held (M.held (M.more d.st).2.2)))) w5 →
            DRelJ M J inv E G (G + 1) R F w ins cuts (drive M s ins cuts) (n + 1) (w5.setCell ⟨G, 4, none⟩ (.int .i64 (M.need (M.more d.st).2.2))) := fun w4 w5 hc4 hc5 => by
          have b4 := ((hgot3.chg hc4 (fun h => h)).set 6 (.int .i64 (max d.held (M.held (M.more d.st).2.2)))).chg hc5 (fun h => h)
          rw [gotC_held] at b4
          have b5 := b4.set 4 (.int .i64 (M.need (M.more d.st).2.2))
          rw [gotC_need] at b5
          have c34 : Chg (fun j => j = G) w3 (w5.setCell ⟨G, 4, none⟩ (.int .i64 (M.need (M.more d.st).2.2))) :=
            ((((hc4.mono (S' := fun j => j = G) (fun _ h _ => h.elim)).setCell (p := ⟨G, 6, none⟩) (.inl rfl) _).trans hc5 (fun _ h _ => h.elim))).setCell (p := ⟨G, 4, none⟩) (.inl rfl) _
          have cW : Chg F w (w5.setCell ⟨G, 4, none⟩ (.int .i64 (M.need (M.more d.st).2.2))) := hch23.trans c34 (fun x hx hlt => by omega)
          exact drel_stepJ (J := J) (by have hq := hJs.out n d hJd.out he.out hneed.out; rw [hstep.out] at hq; exact hq) (a := (M.more d.st)) (tk := d.taken) (tl := d.told) hd hn2 hlen hsm.2.2.2 hres.out he.out hneed.out hstep.out (hbR3.chg c34 (fun e => by omega)) b5 (htold3.chg c34 (fun e => by omega))
            (HM.keep _ _ _ _ _ hinv3 c34 (fun k hk e => by rcases hF2 k hk with h | h; exact (hF1 k h).1 e; omega)) (hEw _ cW) hF2 cW hGw hHw hbR.lt
        go_region_with (refine (hHeld _ (Chg.refl _ _).drew).mono ?_; rintro e4 w4 ⟨rfl, hch4⟩; have q6 : w4.cell? ⟨G, 6, none⟩ = some (.int .i64 d.held) := (hch4.cell (p := ⟨G, 6, none⟩) hGw3 (fun h => h)).trans g6; have qf : ∀ i, w4.frozen? ⟨G, i, none⟩ = false := fun i => (hch4.frozen (p := ⟨G, i, none⟩) hGw3 (fun h => h)).trans (g6f i))
        all_goals
          have hGw4 : G < w4.heap.size := by have := hch4.size; simp at this; omega
          have q4 : w4.cell? ⟨G, 4, none⟩ = some (.int .i64 d.need) := (hch4.cell (p := ⟨G, 4, none⟩) hGw3 (fun h => h)).trans ((hgot3.cell _).trans rfl)
          have hch4' : Chg (fun _ => False) w3 w4 := (Chg.refl _ _).drew.trans hch4 (fun _ h _ => h)
          have hfin4 := hfin w4
          have hNeed : ∀ W : World, Chg (fun j => j = G) w4 W → Calls Try.prog fN #[rN] W fun e w' => e = .returned (.int .i64 (M.need (M.more d.st).2.2)) ∧ Chg (fun _ => False) W w' := fun W hW =>
            HM.need _ F2 W (HM.keep _ _ _ _ _ hinv3 ((hch4'.mono (S' := fun j => j = G) (fun _ h _ => h.elim)).trans hW (fun _ h _ => h)) (fun k hk e => by rcases hF2 k hk with h | h; exact (hF1 k h).1 e; omega))
              (hEw W (hch23.trans ((hch4'.mono (S' := fun j => j = G) (fun _ h _ => h.elim)).trans hW (fun _ h _ => h)) (fun x hx hlt => by omega)))
          clear hHeld hfin
          go_wp2_with (refine (hNeed _ ((Chg.refl (fun j => j = G) w4).setCell (p := ⟨G, 6, none⟩) (.inl rfl) _)).mono ?_
                       rintro e5 w5 ⟨rfl, hch5⟩
                       have q4' : w5.cell? ⟨G, 4, none⟩ = some (.int .i64 d.need) := (hch5.cell (p := ⟨G, 4, none⟩) (by simpa [World.setCell] using hGw4) (fun h => h)).trans ((World.cell?_setCell_other _ _ _ _ (by simp)).trans q4)
                       have qf' : w5.frozen? ⟨G, 4, none⟩ = false := (hch5.frozen (p := ⟨G, 4, none⟩) (by simpa [World.setCell] using hGw4) (fun h => h)).trans (by simp [qf]))
          rw [int_max_if] at hch5
          go_roundw
          case rel => exact ⟨n + 1, by go_num, hfin4 w5 hch4' hch5⟩
          case measure => simp [intOf]; omega
      · have t3 : (d.need == -2) = false := by rw [beq_eq_false_iff_ne]; exact hmore
        by_cases hneg : d.need < 0
        · have hstep : Hid (dstep M ins cuts n d = ({ d with bad := true }, false)) := by
            show _ = _
            unfold dstep
            rw [if_neg hmore, if_pos hneg]
          clear hmore hput hsm
          have hendH : Hid (({ d with bad := true } : DS M.σ) = drive M s ins cuts) := by
            show _ = _
            rw [← hres.out, show 100000 - n = (100000 - (n + 1)) + 1 by omega, dloop_stop he.out hneed.out hstep.out]
          have hgotx := hd.got.set 11 (.bool true)
          rw [gotC_bad] at hgotx
          have hcx : Chg (fun k => k = G) wr (wr.setCell ⟨G, 11, none⟩ (.bool true)) := (Chg.refl (fun k => k = G) wr).setCell (p := ⟨G, 11, none⟩) (.inl rfl) _
          have hbRx := hbR.chg hcx (fun e => by omega)
          have h11 : wr.cell? ⟨G, 11, none⟩ = some (.bool d.bad) := (hd.got.cell _).trans rfl
          have hpost := drive_postJ HM (dx := ({ d with bad := true } : DS M.σ)) hd rfl hcx hin.1 hR.symm (by omega)
          go_wp2_with (first
            | (refine wpList_load_row rfl 42 (.tmp 7) rfl G rfl 42 _ (0, 0) _ hgotx Try.underlying42 rfl info_got ?_)
            | (refine wpList_store_row rfl 42 (.tmp 6) (.tmp 147) rfl R _ rfl rfl 42 _ hbRx info_got rfl (gotC_one _ _ _ _ _ _) ?_))
          refine bodyPost_ret (results_cell_row rfl _ _ R _ _ _ _ rfl (blk_setRow hbRx) Try.underlying42 rfl info_got) rfl ?_
          rw [← hendH.out]
          have e0 := he.out
          simp only [GotVal, e0] at hpost ⊢
          exact hpost
        · by_cases hlen2 : d.need ≥ ins.length ∨ d.need > 3
          · have hstep : Hid (dstep M ins cuts n d = ({ d with bad := true }, false)) := by
              show _ = _
              unfold dstep
              rw [if_neg hmore, if_neg hneg, if_pos hlen2]
            clear hmore hput hsm
            by_cases hl1 : (ins.length : Int) ≤ d.need
            · clear hlen2
              have hendH : Hid (({ d with bad := true } : DS M.σ) = drive M s ins cuts) := by
                show _ = _
                rw [← hres.out, show 100000 - n = (100000 - (n + 1)) + 1 by omega, dloop_stop he.out hneed.out hstep.out]
              have hgotx := hd.got.set 11 (.bool true)
              rw [gotC_bad] at hgotx
              have hcx : Chg (fun k => k = G) wr (wr.setCell ⟨G, 11, none⟩ (.bool true)) := (Chg.refl (fun k => k = G) wr).setCell (p := ⟨G, 11, none⟩) (.inl rfl) _
              have hbRx := hbR.chg hcx (fun e => by omega)
              have h11 : wr.cell? ⟨G, 11, none⟩ = some (.bool d.bad) := (hd.got.cell _).trans rfl
              have hpost := drive_postJ HM (dx := ({ d with bad := true } : DS M.σ)) hd rfl hcx hin.1 hR.symm (by omega)
              go_wp2_with (first
                | (refine wpList_load_row rfl 42 (.tmp 7) rfl G rfl 42 _ (0, 0) _ hgotx Try.underlying42 rfl info_got ?_)
                | (refine wpList_store_row rfl 42 (.tmp 6) (.tmp 147) rfl R _ rfl rfl 42 _ hbRx info_got rfl (gotC_one _ _ _ _ _ _) ?_))
              refine bodyPost_ret (results_cell_row rfl _ _ R _ _ _ _ rfl (blk_setRow hbRx) Try.underlying42 rfl info_got) rfl ?_
              rw [← hendH.out]
              have e0 := he.out
              simp only [GotVal, e0] at hpost ⊢
              exact hpost
            · have hl2 : 3 < d.need := by rcases hlen2 with h | h; exact absurd h hl1; exact h
              clear hlen2
              have hendH : Hid (({ d with bad := true } : DS M.σ) = drive M s ins cuts) := by
                show _ = _
                rw [← hres.out, show 100000 - n = (100000 - (n + 1)) + 1 by omega, dloop_stop he.out hneed.out hstep.out]
              have hgotx := hd.got.set 11 (.bool true)
              rw [gotC_bad] at hgotx
              have hcx : Chg (fun k => k = G) wr (wr.setCell ⟨G, 11, none⟩ (.bool true)) := (Chg.refl (fun k => k = G) wr).setCell (p := ⟨G, 11, none⟩) (.inl rfl) _
              have hbRx := hbR.chg hcx (fun e => by omega)
              have h11 : wr.cell? ⟨G, 11, none⟩ = some (.bool d.bad) := (hd.got.cell _).trans rfl
              have hpost := drive_postJ HM (dx := ({ d with bad := true } : DS M.σ)) hd rfl hcx hin.1 hR.symm (by omega)
              go_wp2_with (first
                | (refine wpList_load_row rfl 42 (.tmp 7) rfl G rfl 42 _ (0, 0) _ hgotx Try.underlying42 rfl info_got ?_)
                | (refine wpList_store_row rfl 42 (.tmp 6) (.tmp 147) rfl R _ rfl rfl 42 _ hbRx info_got rfl (gotC_one _ _ _ _ _ _) ?_))
              refine bodyPost_ret (results_cell_row rfl _ _ R _ _ _ _ rfl (blk_setRow hbRx) Try.underlying42 rfl info_got) rfl ?_
              rw [← hendH.out]
              have e0 := he.out
              simp only [GotVal, e0] at hpost ⊢
              exact hpost
          · obtain ⟨hl1, hl2⟩ := not_or.1 hlen2
            obtain ⟨k, hk⟩ : ∃ k : Nat, d.need = (k : Int) := ⟨d.need.toNat, by omega⟩
            have hkl : k < ins.length := by omega
            have hk4 : k < 4 := by omega
            have i1 : (k : Int) < (ins.length : Int) := by omega
            have i1a : ¬ (ins.length : Int) ≤ (k : Int) := by omega
            have i1b : ¬ ins.length ≤ k := by omega
            have i2 : ¬ (3 : Int) < (k : Int) := by omega
            have i3 : (k : Int) < 4 := by omega
            have i4 : ¬ (k : Int) < 0 := by omega
            have hkt : d.need.toNat = k := by omega
            have hinsr : StrmsAt wr D (.slice A ins.length ca) ins := hins.chg hd.chg (fun j hj _ => hD j hj)
            obtain ⟨_, gi, oi, A2, c2, rfl, hgi, hDgi, hs0, hs1', hs2', hs3', hs4', hrb, hcap⟩ := hinsr.at_ hkl
            clear hs2' hs3' hs4' hinsr
            have hbl2 := hbl _ (List.getElem_mem hkl)
            have hstepk := dstep_at M ins cuts n d hmore hneg hlen2 hkt hkl
            have haFd := hAFd.out k hkl hk
            have haEd := hAEd.out k hkl hk
            replace haFd := Lib.hid haFd
            replace haEd := Lib.hid haEd
            generalize hst : ins[k] = st at *
            rw [hk] at h4
            have htk : wr.cell? ⟨G, 7 + k, none⟩ = some (.int .i64 (d.taken k : Nat)) := (hd.got.cell _).trans (gotC_taken_at _ _ _ _ _ _ k hk4)
            have htd : wr.cell? ⟨G + 1, k, none⟩ = some (.bool (d.told k)) := (hd.told.cell _).trans (told_at _ k hk4)
            have t2k : ((k : Int) != -1) = true := by rw [← hk]; exact t2
            have t3k : ((k : Int) == -2) = false := by rw [← hk]; exact t3
            clear t2
            have hk' := Lib.hid hk
            clear hk hkt hl1 hl2 hlen2 hneg hmore t3
            by_cases hlt : d.taken k < st.bs.length
            · rw [if_pos hlt] at hstepk
              have hcn := cutN_bd cuts n
              have hto : ∃ to : Nat, min st.bs.length (d.taken k + cutN cuts n) = to := ⟨_, rfl⟩
              obtain ⟨to, hto⟩ := hto
              rw [hto] at hstepk
              have haF := haFd.out hlt
              rw [hto] at haF
              replace haF := Lib.hid haF
              have hto1 : d.taken k < to := by omega
              have hto2 : to ≤ st.bs.length := by omega
              have hto3 : to ≤ d.taken k + 32 := by omega
              have hstep : Hid (dstep M ins cuts n d = ((({ d with taken := upd d.taken k to, told := d.told } : DS M.σ).put (M.feed d.st (k : Int) ((st.bs.take to).drop (d.taken k)))).look M, true)) := by
                show _ = _
                rw [hstepk, hk'.out]
              clear hstepk
              obtain ⟨g2, o2, rfl, hg2, hDg2, hc2⟩ := hrb.2 (by omega)
              have hlti : ((d.taken k : Nat) : Int) < (st.bs.length : Int) := by omega
              have hcutc := fun W : World => fun (hW : Rd W D 1 C cuts.length (i64s cuts)) => (cut_fn D C cc cuts n W hW hcl hn).mono (fun _ _ ⟨a, b⟩ => And.intro a b.symm)
              have hcr : Rd wr D 1 C cuts.length (i64s cuts) := hcuts.chg hd.chg (fun j hj _ => hD j hj)
              obtain ⟨i0, hi0, hz0, hz1, hz2⟩ := info_parts info_u8
              have hcn2 : ((cutN cuts n : Nat) : Int) ≤ 32 := by omega
              have hcn1 : (1 : Int) ≤ ((cutN cuts n : Nat) : Int) := by omega
              have htkb : ((d.taken k : Nat) : Int) ≤ 1000000 := by omega
              go_wp2
              go_quiet ((go_at_call 31; exact Calls.quiet_of_same (hcutc _ hcr)))
              have hmin : (if ((d.taken k : Nat) : Int) + ((cutN cuts n : Nat) : Int) < (st.bs.length : Int) then ((d.taken k : Nat) : Int) + ((cutN cuts n : Nat) : Int) else (st.bs.length : Int)) = (to : Int) := by
                split <;> omega
              rw [hmin]
              have j1 : ((d.taken k : Nat) : Int) ≤ (to : Int) := by omega
              have j2 : (to : Int) ≤ (c2 : Int) := by omega
              have j3 : ¬ c2 = d.taken k := by omega
              have hto' := Lib.hid hto
              clear hto hmin
              have chq : Chg (fun _ => False) wr (wr.drewN nq) := (Chg.refl _ _).drewN _
              have hszq0 : Hid ((wr.drewN nq).heap.size = wr.heap.size) := rfl
              generalize wr.drewN nq = wq at *
              have hGwq : G < wq.heap.size := by rw [hszq0.out]; exact hGw
              have htkq : wq.cell? ⟨G, 7 + k, none⟩ = some (.int .i64 (d.taken k : Nat)) := (chq.cell (p := ⟨G, 7 + k, none⟩) hGw (fun h => h)).trans htk
              have hneG : ¬ G = wq.heap.size := by omega
              have hchl : ((st.bs.take to).drop (d.taken k)).length = to - d.taken k := by simp; omega
              have hchl' := Lib.hid hchl
              have hrdq : Rd (wq.alloc (.cells #[] 5)) D 1 (some ⟨g2, o2 + d.taken k, none⟩) (to - d.taken k) (u8s ((st.bs.take to).drop (d.taken k))) := by
                have h1 : Rd wr D 1 (some ⟨g2, o2 + d.taken k, none⟩) (to - d.taken k) (u8s ((st.bs.take to).drop (d.taken k))) := by
                  refine ⟨by rw [u8s_length, hchl]; omega, fun _ => ⟨g2, o2 + d.taken k, rfl, hg2, hDg2, fun j u hu => ?_⟩⟩
                  rw [Nat.add_assoc]
                  refine hc2 (d.taken k + j) u ?_
                  simp only [u8s, List.getElem?_map, List.getElem?_drop, List.getElem?_take] at hu ⊢
                  split at hu
                  · exact hu
                  · simp at hu
                exact (h1.chg chq (fun _ _ _ h => h)).chg ((Chg.refl (fun _ => False) wq).alloc _) (fun _ _ _ h => h)
              have hsmk := hsm.1 (k : Int) ((st.bs.take to).drop (d.taken k)) (by rw [hchl]; omega)
              have hu1 : ∀ u ∈ u8s ((st.bs.take to).drop (d.taken k)), u.oneCell' = true := fun u hu => by
                obtain ⟨x, _, rfl⟩ := List.mem_map.1 hu
                rfl
              have hown0 : (wq.alloc (.cells #[] 5)).ownsRow wq.heap.size 5 1 (.slice (some ⟨wq.heap.size, 0, none⟩) 0 0) 0 [] := World.ownsRow_made wq #[] 0 (Nat.le_refl _) (by simp [maxLen]) rfl
              have hb63 : 0 + (to - d.taken k) ≤ maxLen := by simp only [maxLen]; omega
              have hbby : (0 + (to - d.taken k)) * 1 ≤ 140737488355328 := by omega
              have hbas : wq.heap.size ≤ (wq.alloc (.cells #[] 5)).heap.size := by simp
              clear hchl hcutc hcr hbl2 hc2
              go_wp2_with (first
                | (at_builtin
                   refine wpList_append_rd _ rfl (.tmp 93) (.tmp 100) 22 rfl wq.heap.size 5 i0 _ 1 1 Try.underlying22 hi0 hz0 hz1 hz2 rfl (by omega) (.slice (some ⟨wq.heap.size, 0, none⟩) 0 0) 0 [] rfl hown0 D (some ⟨g2, o2 + d.taken k, none⟩) (to - d.taken k) (c2 - d.taken k) (u8s ((st.bs.take to).drop (d.taken k))) rfl hrdq hu1 hb63 hbby hbas ?_
                   intro v1 wc hown1 hg1 _
                   rw [Nat.zero_add, List.nil_append, ← hchl'.out] at hown1
                   obtain ⟨A3, c3, rfl, hr3⟩ := own_rd hown1
                   have hszq1 := hszq0.out
                   have chc : Chg (fun _ => False) wr wc := (chq.alloc (.cells #[] 5)).grown hg1 (fun j e => .inr (by simp [Value.ownBlock] at e; omega))
                   have hgotc := hd.got.chg chc (fun h => h)
                   have qc : wc.cell? ⟨G, 7 + k, none⟩ = some (.int .i64 (d.taken k : Nat)) := (hgotc.cell _).trans (gotC_taken_at _ _ _ _ _ _ k hk4)
                   have qcf : ∀ i, wc.frozen? ⟨G, i, none⟩ = false := fun i => hgotc.frozen i
                   have hgotc2 := hgotc.set (7 + k) (.int .i64 (to : Nat))
                   rw [gotC_taken _ _ _ _ _ _ k to hk4] at hgotc2
                   have chs : Chg (fun j => j = G) wr (wc.setCell ⟨G, 7 + k, none⟩ (.int .i64 (to : Nat))) := (chc.mono (S' := fun j => j = G) (fun _ h _ => h.elim)).setCell (p := ⟨G, 7 + k, none⟩) (.inl rfl) _
                   have htoldc := hd.told.chg chs (fun e => by omega)
                   have hbRc := hbR.chg chs (fun e => by omega)
                   have hszs : wr.heap.size ≤ (wc.setCell ⟨G, 7 + k, none⟩ (.int .i64 (to : Nat))).heap.size := chs.size
                   have hcm := HM.feed d.st F' _ (k : Int) A3 c3 ((st.bs.take to).drop (d.taken k)) haF.out (HM.keep _ _ _ _ _ hd.inv chs (fun j hj => (hF1 j hj).1)) (HM.env _ _ (chs.below (by omega) (fun j hj => by omega)) hd.env)
                     ((hr3.chg ((Chg.refl (fun j => j = G) wc).setCell (p := ⟨G, 7 + k, none⟩) (.inl rfl) (.int .i64 (to : Nat))) (fun j hj _ e => by omega)).mono (fun j hj _ => fun h => by rcases (HM.inside _ _ _ hd.inv).2 j h with ⟨_, h2⟩; omega)) (by rw [hchl'.out]; omega)
                   rw [hchl'.out] at hcm
                   clear hszq1)
                | (refine hcm.mono ?_
                   rintro e2 w2 ⟨v2, F2, rfl, hinv2, hF2', hch2, ho2'⟩
                   have hF2 : ∀ j, F2 j → F' j ∨ wr.heap.size ≤ j := fun j hj => (hF2' j hj).imp id (fun h => Nat.le_trans hszs h)
                   have ho2 : OutsAt w2 (fun j => wr.heap.size ≤ j) v2 (M.feed d.st (k : Int) ((st.bs.take to).drop (d.taken k))).1 := ho2'.mono (fun j hj _ => Nat.le_trans hszs hj)
                   have hgot2 := hgotc2.chg hch2 (fun h => (hF1 _ h).1 rfl)
                   have htold2 := htoldc.chg hch2 (fun h => (hF1 _ h).2.1 rfl)
                   have hbR2 := hbRc.chg hch2 (fun h => (hF1 _ h).2.2 rfl)
                   have hs2 : wr.heap.size ≤ w2.heap.size := Nat.le_trans hszs hch2.size
                   have hch2W : Chg F w w2 := (hd.chg.trans chs (fun j hj hlt => by omega)).trans hch2 (fun j hj hlt => by rcases (hd.far j hj).2.2.2 with h | h; exact h; omega))
                | (go_at_call 30
                   refine (hput (M.feed d.st (k : Int) ((st.bs.take to).drop (d.taken k))) v2 F2 w2 (upd d.taken k to) hgot2 ho2 hsmk.1 hsmk.2).mono ?_
                   rintro e3 w3 ⟨rfl, hgot3, hch3⟩))
              have hinv3 : inv (M.feed d.st (k : Int) ((st.bs.take to).drop (d.taken k))).2.2 F2 w3 := HM.keep _ _ _ _ _ hinv2 hch3 (fun k hk e => by rcases hF2 k hk with h | h; exact (hF1 k h).1 e; omega)
              have hch23 : Chg F w w3 := (hch2W.trans hch3 (fun x hx hlt => by omega))
              have hEw : ∀ W : World, Chg F w W → E W := fun W hW => HM.env _ _ (hW.below hin.1 (fun k hk => (hin.2 k hk).1)) hEW
              have hHeld : ∀ W : World, Chg (fun _ => False) w3 W → Calls Try.prog fH #[rH] W fun e w' => e = .returned (.int .i64 (M.held (M.feed d.st (k : Int) ((st.bs.take to).drop (d.taken k))).2.2)) ∧ Chg (fun _ => False) W w' := fun W hW =>
                HM.held _ F2 W (HM.keep _ _ _ _ _ hinv3 hW (fun _ _ h => h)) (hEw W (hch23.trans hW (fun _ h _ => h.elim)))
              have g6 : w3.cell? ⟨G, 6, none⟩ = some (.int .i64 d.held) := (hgot3.cell _).trans rfl
              have g6f : ∀ i, w3.frozen? ⟨G, i, none⟩ = false := fun i => hgot3.frozen i
              have hGw3 := hgot3.lt
              have hbR3 := hbR2.chg hch3 (fun e => by omega)
              have htold3 := htold2.chg hch3 (fun e => by omega)
              have hfin : ∀ w4 w5 : World, Chg (fun _ => False) w3 w4 → Chg (fun _ => False) (w4.setCell ⟨G, 6, none⟩ (.int .i64 (max d.held (M.held (M.feed d.st (k : Int) ((st.bs.take to).drop (d.taken k))).2.2)))) w5 →
                  DRelJ M J inv E G (G + 1) R F w ins cuts (drive M s ins cuts) (n + 1) (w5.setCell ⟨G, 4, none⟩ (.int .i64 (M.need (M.feed d.st (k : Int) ((st.bs.take to).drop (d.taken k))).2.2))) := fun w4 w5 hc4 hc5 => by
                have b4 := ((hgot3.chg hc4 (fun h => h)).set 6 (.int .i64 (max d.held (M.held (M.feed d.st (k : Int) ((st.bs.take to).drop (d.taken k))).2.2)))).chg hc5 (fun h => h)
                rw [gotC_held] at b4
                have b5 := b4.set 4 (.int .i64 (M.need (M.feed d.st (k : Int) ((st.bs.take to).drop (d.taken k))).2.2))
                rw [gotC_need] at b5
                have c34 : Chg (fun j => j = G) w3 (w5.setCell ⟨G, 4, none⟩ (.int .i64 (M.need (M.feed d.st (k : Int) ((st.bs.take to).drop (d.taken k))).2.2))) :=
                  ((((hc4.mono (S' := fun j => j = G) (fun _ h _ => h.elim)).setCell (p := ⟨G, 6, none⟩) (.inl rfl) _).trans hc5 (fun _ h _ => h.elim))).setCell (p := ⟨G, 4, none⟩) (.inl rfl) _
                have cW : Chg F w (w5.setCell ⟨G, 4, none⟩ (.int .i64 (M.need (M.feed d.st (k : Int) ((st.bs.take to).drop (d.taken k))).2.2))) := hch23.trans c34 (fun x hx hlt => by omega)
                exact drel_stepJ (J := J) (by have hq := hJs.out n d hJd.out he.out hneed.out; rw [hstep.out] at hq; exact hq) (a := (M.feed d.st (k : Int) ((st.bs.take to).drop (d.taken k)))) (tk := (upd d.taken k to)) (tl := d.told) hd hn2 hlen hsmk.2 hres.out he.out hneed.out hstep.out (hbR3.chg c34 (fun e => by omega)) b5 (htold3.chg c34 (fun e => by omega))
                  (HM.keep _ _ _ _ _ hinv3 c34 (fun k hk e => by rcases hF2 k hk with h | h; exact (hF1 k h).1 e; omega)) (hEw _ cW) hF2 cW hGw hHw hbR.lt
              go_region_with (refine (hHeld _ (Chg.refl _ _).drew).mono ?_; rintro e4 w4 ⟨rfl, hch4⟩; have q6 : w4.cell? ⟨G, 6, none⟩ = some (.int .i64 d.held) := (hch4.cell (p := ⟨G, 6, none⟩) hGw3 (fun h => h)).trans g6; have qf : ∀ i, w4.frozen? ⟨G, i, none⟩ = false := fun i => (hch4.frozen (p := ⟨G, i, none⟩) hGw3 (fun h => h)).trans (g6f i))
              all_goals
                have hGw4 : G < w4.heap.size := by have := hch4.size; simp at this; omega
                have q4 : w4.cell? ⟨G, 4, none⟩ = some (.int .i64 d.need) := (hch4.cell (p := ⟨G, 4, none⟩) hGw3 (fun h => h)).trans ((hgot3.cell _).trans rfl)
                have hch4' : Chg (fun _ => False) w3 w4 := (Chg.refl _ _).drew.trans hch4 (fun _ h _ => h)
                have hfin4 := hfin w4
                have hNeed : ∀ W : World, Chg (fun j => j = G) w4 W → Calls Try.prog fN #[rN] W fun e w' => e = .returned (.int .i64 (M.need (M.feed d.st (k : Int) ((st.bs.take to).drop (d.taken k))).2.2)) ∧ Chg (fun _ => False) W w' := fun W hW =>
                  HM.need _ F2 W (HM.keep _ _ _ _ _ hinv3 ((hch4'.mono (S' := fun j => j = G) (fun _ h _ => h.elim)).trans hW (fun _ h _ => h)) (fun k hk e => by rcases hF2 k hk with h | h; exact (hF1 k h).1 e; omega))
                    (hEw W (hch23.trans ((hch4'.mono (S' := fun j => j = G) (fun _ h _ => h.elim)).trans hW (fun _ h _ => h)) (fun x hx hlt => by omega)))
                clear hHeld hfin
                go_wp2_with (refine (hNeed _ ((Chg.refl (fun j => j = G) w4).setCell (p := ⟨G, 6, none⟩) (.inl rfl) _)).mono ?_
                             rintro e5 w5 ⟨rfl, hch5⟩
                             have q4' : w5.cell? ⟨G, 4, none⟩ = some (.int .i64 d.need) := (hch5.cell (p := ⟨G, 4, none⟩) (by simpa [World.setCell] using hGw4) (fun h => h)).trans ((World.cell?_setCell_other _ _ _ _ (by simp)).trans q4)
                             have qf' : w5.frozen? ⟨G, 4, none⟩ = false := (hch5.frozen (p := ⟨G, 4, none⟩) (by simpa [World.setCell] using hGw4) (fun h => h)).trans (by simp [qf]))
                rw [int_max_if] at hch5
                go_roundw
                case rel => exact ⟨n + 1, by go_num, hfin4 w5 hch4' hch5⟩
                case measure => simp [intOf]; omega
            · have hlt' : ¬ ((d.taken k : Nat) : Int) < (st.bs.length : Int) := by omega
              by_cases hend : st.ended = true ∧ d.told k = false
              · obtain ⟨hend1, hend2⟩ := hend
                rw [if_neg hlt, if_pos ⟨hend1, hend2⟩] at hstepk
                have haE := Lib.hid (haEd.out hlt hend1 hend2)
                have hstep : Hid (dstep M ins cuts n d = ((({ d with taken := d.taken, told := upd d.told k true } : DS M.σ).put (M.fin d.st (k : Int))).look M, true)) := by
                  show _ = _
                  rw [hstepk, hk'.out]
                clear hstepk
                rw [hend1] at hs1'
                rw [hend2] at htd
                have hfT : ∀ i, wr.frozen? ⟨G + 1, i, none⟩ = false := fun i => hd.told.frozen i
                have chT : Chg (fun j => j = G + 1) wr (wr.setCell ⟨G + 1, k, none⟩ (.bool true)) := (Chg.refl (fun j => j = G + 1) wr).setCell (p := ⟨G + 1, k, none⟩) (.inl rfl) _
                have szT : (wr.setCell ⟨G + 1, k, none⟩ (.bool true)).heap.size = wr.heap.size := by simp [World.setCell]
                have hcm := HM.fin d.st F' (wr.setCell ⟨G + 1, k, none⟩ (.bool true)) (k : Int) haE.out (HM.keep _ _ _ _ _ hd.inv chT (fun j hj => (hF1 j hj).2.1)) (HM.env _ _ (chT.below (by omega) (fun j hj => by omega)) hd.env)
                have htoldT := hd.told.set k (.bool true)
                rw [told_set _ k hk4] at htoldT
                have hgotT := hd.got.chg chT (fun e => by omega)
                have hbRT := hbR.chg chT (fun e => by omega)
                have hsmk := hsm.2.1 (k : Int)
                clear hend1 hend2 hlt
                go_wp2_with (first
                  | (refine hcm.mono ?_
                     rintro e2 w2 ⟨v2, F2, rfl, hinv2, hF2', hch2, ho2'⟩
                     have hF2 : ∀ j, F2 j → F' j ∨ wr.heap.size ≤ j := fun j hj => by have := hF2' j hj; rwa [szT] at this
                     have ho2 : OutsAt w2 (fun j => wr.heap.size ≤ j) v2 (M.fin d.st (k : Int)).1 := ho2'.mono (fun j hj _ => by rwa [szT] at hj)
                     have hgot2 := hgotT.chg hch2 (fun h => (hF1 _ h).1 rfl)
                     have htold2 := htoldT.chg hch2 (fun h => (hF1 _ h).2.1 rfl)
                     have hbR2 := hbRT.chg hch2 (fun h => (hF1 _ h).2.2 rfl)
                     have hs2 : wr.heap.size ≤ w2.heap.size := by have := hch2.size; omega
                     have hch2W : Chg F w w2 := (hd.chg.trans chT (fun j hj hlt => by omega)).trans hch2 (fun j hj hlt => by rcases (hd.far j hj).2.2.2 with h | h; exact h; omega))
                  | (go_at_call 30
                     refine (hput (M.fin d.st (k : Int)) v2 F2 w2 d.taken hgot2 ho2 hsmk.1 hsmk.2).mono ?_
                     rintro e3 w3 ⟨rfl, hgot3, hch3⟩))
                have hinv3 : inv (M.fin d.st (k : Int)).2.2 F2 w3 := HM.keep _ _ _ _ _ hinv2 hch3 (fun k hk e => by rcases hF2 k hk with h | h; exact (hF1 k h).1 e; omega)
                have hch23 : Chg F w w3 := (hch2W.trans hch3 (fun x hx hlt => by omega))
                have hEw : ∀ W : World, Chg F w W → E W := fun W hW => HM.env _ _ (hW.below hin.1 (fun k hk => (hin.2 k hk).1)) hEW
                have hHeld : ∀ W : World, Chg (fun _ => False) w3 W → Calls Try.prog fH #[rH] W fun e w' => e = .returned (.int .i64 (M.held (M.fin d.st (k : Int)).2.2)) ∧ Chg (fun _ => False) W w' := fun W hW =>
                  HM.held _ F2 W (HM.keep _ _ _ _ _ hinv3 hW (fun _ _ h => h)) (hEw W (hch23.trans hW (fun _ h _ => h.elim)))
                have g6 : w3.cell? ⟨G, 6, none⟩ = some (.int .i64 d.held) := (hgot3.cell _).trans rfl
                have g6f : ∀ i, w3.frozen? ⟨G, i, none⟩ = false := fun i => hgot3.frozen i
                have hGw3 := hgot3.lt
                have hbR3 := hbR2.chg hch3 (fun e => by omega)
                have htold3 := htold2.chg hch3 (fun e => by omega)
                have hfin : ∀ w4 w5 : World, Chg (fun _ => False) w3 w4 → Chg (fun _ => False) (w4.setCell ⟨G, 6, none⟩ (.int .i64 (max d.held (M.held (M.fin d.st (k : Int)).2.2)))) w5 →
                    DRelJ M J inv E G (G + 1) R F w ins cuts (drive M s ins cuts) (n + 1) (w5.setCell ⟨G, 4, none⟩ (.int .i64 (M.need (M.fin d.st (k : Int)).2.2))) := fun w4 w5 hc4 hc5 => by
                  have b4 := ((hgot3.chg hc4 (fun h => h)).set 6 (.int .i64 (max d.held (M.held (M.fin d.st (k : Int)).2.2)))).chg hc5 (fun h => h)
                  rw [gotC_held] at b4
                  have b5 := b4.set 4 (.int .i64 (M.need (M.fin d.st (k : Int)).2.2))
                  rw [gotC_need] at b5
                  have c34 : Chg (fun j => j = G) w3 (w5.setCell ⟨G, 4, none⟩ (.int .i64 (M.need (M.fin d.st (k : Int)).2.2))) :=
                    ((((hc4.mono (S' := fun j => j = G) (fun _ h _ => h.elim)).setCell (p := ⟨G, 6, none⟩) (.inl rfl) _).trans hc5 (fun _ h _ => h.elim))).setCell (p := ⟨G, 4, none⟩) (.inl rfl) _
                  have cW : Chg F w (w5.setCell ⟨G, 4, none⟩ (.int .i64 (M.need (M.fin d.st (k : Int)).2.2))) := hch23.trans c34 (fun x hx hlt => by omega)
                  exact drel_stepJ (J := J) (by have hq := hJs.out n d hJd.out he.out hneed.out; rw [hstep.out] at hq; exact hq) (a := (M.fin d.st (k : Int))) (tk := d.taken) (tl := (upd d.told k true)) hd hn2 hlen hsmk.2 hres.out he.out hneed.out hstep.out (hbR3.chg c34 (fun e => by omega)) b5 (htold3.chg c34 (fun e => by omega))
                    (HM.keep _ _ _ _ _ hinv3 c34 (fun k hk e => by rcases hF2 k hk with h | h; exact (hF1 k h).1 e; omega)) (hEw _ cW) hF2 cW hGw hHw hbR.lt
                go_region_with (refine (hHeld _ (Chg.refl _ _).drew).mono ?_; rintro e4 w4 ⟨rfl, hch4⟩; have q6 : w4.cell? ⟨G, 6, none⟩ = some (.int .i64 d.held) := (hch4.cell (p := ⟨G, 6, none⟩) hGw3 (fun h => h)).trans g6; have qf : ∀ i, w4.frozen? ⟨G, i, none⟩ = false := fun i => (hch4.frozen (p := ⟨G, i, none⟩) hGw3 (fun h => h)).trans (g6f i))
                all_goals
                  have hGw4 : G < w4.heap.size := by have := hch4.size; simp at this; omega
                  have q4 : w4.cell? ⟨G, 4, none⟩ = some (.int .i64 d.need) := (hch4.cell (p := ⟨G, 4, none⟩) hGw3 (fun h => h)).trans ((hgot3.cell _).trans rfl)
                  have hch4' : Chg (fun _ => False) w3 w4 := (Chg.refl _ _).drew.trans hch4 (fun _ h _ => h)
                  have hfin4 := hfin w4
                  have hNeed : ∀ W : World, Chg (fun j => j = G) w4 W → Calls Try.prog fN #[rN] W fun e w' => e = .returned (.int .i64 (M.need (M.fin d.st (k : Int)).2.2)) ∧ Chg (fun _ => False) W w' := fun W hW =>
                    HM.need _ F2 W (HM.keep _ _ _ _ _ hinv3 ((hch4'.mono (S' := fun j => j = G) (fun _ h _ => h.elim)).trans hW (fun _ h _ => h)) (fun k hk e => by rcases hF2 k hk with h | h; exact (hF1 k h).1 e; omega))
                      (hEw W (hch23.trans ((hch4'.mono (S' := fun j => j = G) (fun _ h _ => h.elim)).trans hW (fun _ h _ => h)) (fun x hx hlt => by omega)))
                  clear hHeld hfin
                  go_wp2_with (refine (hNeed _ ((Chg.refl (fun j => j = G) w4).setCell (p := ⟨G, 6, none⟩) (.inl rfl) _)).mono ?_
                               rintro e5 w5 ⟨rfl, hch5⟩
                               have q4' : w5.cell? ⟨G, 4, none⟩ = some (.int .i64 d.need) := (hch5.cell (p := ⟨G, 4, none⟩) (by simpa [World.setCell] using hGw4) (fun h => h)).trans ((World.cell?_setCell_other _ _ _ _ (by simp)).trans q4)
                               have qf' : w5.frozen? ⟨G, 4, none⟩ = false := (hch5.frozen (p := ⟨G, 4, none⟩) (by simpa [World.setCell] using hGw4) (fun h => h)).trans (by simp [qf]))
                  rw [int_max_if] at hch5
                  go_roundw
                  case rel => exact ⟨n + 1, by go_num, hfin4 w5 hch4' hch5⟩
                  case measure => simp [intOf]; omega
              · rw [if_neg hlt, if_neg hend] at hstepk
                have hstep := Lib.hid hstepk
                clear hstepk hput hsm
                have hfT : ∀ i, wr.frozen? ⟨G + 1, i, none⟩ = false := fun i => hd.told.frozen i
                cases hen : st.ended with
                | false =>
                  rw [hen] at hs1'
                  have hendH : Hid (d = drive M s ins cuts) := by
                    show _ = _
                    rw [← hres.out, show 100000 - n = (100000 - (n + 1)) + 1 by omega, dloop_stop he.out hneed.out hstep.out]
                  have hgotx := hd.got
                  have hbRx := hbR
                  have hpost := drive_postJ HM (dx := d) hd rfl (Chg.refl _ _) hin.1 hR.symm (by omega)
                  go_wp2_with (first
                    | (refine wpList_load_row rfl 42 (.tmp 7) rfl G rfl 42 _ (0, 0) _ hgotx Try.underlying42 rfl info_got ?_)
                    | (refine wpList_store_row rfl 42 (.tmp 6) (.tmp 147) rfl R _ rfl rfl 42 _ hbRx info_got rfl (gotC_one _ _ _ _ _ _) ?_))
                  refine bodyPost_ret (results_cell_row rfl _ _ R _ _ _ _ rfl (blk_setRow hbRx) Try.underlying42 rfl info_got) rfl ?_
                  rw [← hendH.out]
                  have e0 := he.out
                  simp only [GotVal, e0] at hpost ⊢
                  exact hpost
                | true =>
                  rw [hen] at hs1'
                  have htd2 : d.told k = true := by
                    cases h : d.told k with
                    | true => rfl
                    | false => exact absurd ⟨hen, h⟩ hend
                  rw [htd2] at htd
                  clear hend
                  have hendH : Hid (d = drive M s ins cuts) := by
                    show _ = _
                    rw [← hres.out, show 100000 - n = (100000 - (n + 1)) + 1 by omega, dloop_stop he.out hneed.out hstep.out]
                  have hgotx := hd.got
                  have hbRx := hbR
                  have hpost := drive_postJ HM (dx := d) hd rfl (Chg.refl _ _) hin.1 hR.symm (by omega)
                  go_wp2_with (first
                    | (refine wpList_load_row rfl 42 (.tmp 7) rfl G rfl 42 _ (0, 0) _ hgotx Try.underlying42 rfl info_got ?_)
                    | (refine wpList_store_row rfl 42 (.tmp 6) (.tmp 147) rfl R _ rfl rfl 42 _ hbRx info_got rfl (gotC_one _ _ _ _ _ _) ?_))
                  refine bodyPost_ret (results_cell_row rfl _ _ R _ _ _ _ rfl (blk_setRow hbRx) Try.underlying42 rfl info_got) rfl ?_
                  rw [← hendH.out]
                  have e0 := he.out
                  simp only [GotVal, e0] at hpost ⊢
                  exact hpost
    · have hend : d = drive M s ins cuts := by
        rw [← hres]
        by_cases hn2 : n < 100000
        · exact (dloop_end (by
            by_cases he : d.err = 0
            · exact .inr (Classical.not_not.1 fun h => hgo ⟨hn2, he, h⟩)
            · exact .inl he)).symm
        · rw [show 100000 - n = 0 by omega]; rfl
      have hendH := Lib.hid hend
      have hpost : DrivePost M inv E F w d (.returned (GotVal d)) (wr.setRow R (gotC d.outs d.need d.err d.held d.taken d.bad)) :=
        drive_postJ HM hd rfl (Chg.refl _ _) hin.1 hR.symm (by omega)
      clear hend hres
      by_cases hn2 : n < 100000
      · have hn3 : (n : Int) < 100000 := by omega
        by_cases he : d.err = 0
        · have hneed : d.need = -1 := Classical.not_not.1 fun h => hgo ⟨hn2, he, h⟩
          have t1 : (d.err == 0) = true := by rw [he]; rfl
          have t2 : (d.need != -1) = false := by rw [hneed]; rfl
          clear he hneed hgo
          go_wp2_with (first
            | (refine wpList_load_row rfl 42 (.tmp 7) rfl G rfl 42 _ (0, 0) _ hd.got Try.underlying42 rfl info_got ?_)
            | (refine wpList_store_row rfl 42 (.tmp 6) (.tmp 147) rfl R _ rfl rfl 42 _ hbR info_got rfl (gotC_one _ _ _ _ _ _) ?_))
          refine bodyPost_ret (results_cell_row rfl _ _ R _ _ _ _ rfl (blk_setRow hbR) Try.underlying42 rfl info_got) rfl ?_
          rw [← hendH.out]
          exact hpost
        · have t1 : (d.err == 0) = false := by rw [beq_eq_false_iff_ne]; exact he
          clear he hgo
          go_wp2_with (first
            | (refine wpList_load_row rfl 42 (.tmp 7) rfl G rfl 42 _ (0, 0) _ hd.got Try.underlying42 rfl info_got ?_)
            | (refine wpList_store_row rfl 42 (.tmp 6) (.tmp 147) rfl R _ rfl rfl 42 _ hbR info_got rfl (gotC_one _ _ _ _ _ _) ?_))
          refine bodyPost_ret (results_cell_row rfl _ _ R _ _ _ _ rfl (blk_setRow hbR) Try.underlying42 rfl info_got) rfl ?_
          rw [← hendH.out]
          exact hpost
      · have hn3 : ¬ (n : Int) < 100000 := by omega
        · clear hgo
          go_wp2_with (first
            | (refine wpList_load_row rfl 42 (.tmp 7) rfl G rfl 42 _ (0, 0) _ hd.got Try.underlying42 rfl info_got ?_)
            | (refine wpList_store_row rfl 42 (.tmp 6) (.tmp 147) rfl R _ rfl rfl 42 _ hbR info_got rfl (gotC_one _ _ _ _ _ _) ?_))
          refine bodyPost_ret (results_cell_row rfl _ _ R _ _ _ _ rfl (blk_setRow hbR) Try.underlying42 rfl info_got) rfl ?_
          rw [← hendH.out]
          exact hpost
end Go.Proofs.Ytkgmbomfkdkofaa
