/- Split's poked machine, as one that Drive drives. -/
import Derived.Test.YtilhjjfdaffabaaSplitPoke
namespace Go.Proofs.Ytilhjjfdaffabaa.Split
open Go Go.RowKit

def PInv (M : Mach) (inv : M.σ → (Nat → Prop) → World → Prop) (R : M.σ → Prop) (B X : Nat) (cs : Array Value) (s : M.σ) (F : Nat → Prop) (w : World) : Prop :=
  ∃ Fm, inv s Fm w ∧ R s ∧ (∀ k, F k ↔ Fm k ∨ k = X) ∧ B ≤ X ∧ ¬ Fm X ∧ Blk w X 52 cs
def PEnv (E : World → Prop) (B : Nat) (A : Option Addr) (b : Bs) (w : World) : Prop := E w ∧ Rd w (fun k => k < B) 1 A b.length (u8s b)

theorem chg_of_belowB {B : Nat} {w w' : World} (h : Below B w w') : Chg (fun k => B ≤ k) w w' := ⟨h.os, h.tape, h.output, h.size, fun i _ hn => h.block i (by omega)⟩

section
variable {M : Mach} {B : Nat} {T : TypeId} {mv : Value} {E : World → Prop} {inv : M.σ → (Nat → Prop) → World → Prop} {fN fH fF fE fM : FuncId} {rN rH rF rE rM : Value}
variable {R : M.σ → Prop} {X : Nat} {port0 : Int} {b : Bs} {A : Option Addr} {c : Nat}

theorem poked_need (HM : MachOk Try.prog M B T mv E inv fN fH fF fE fM rN rH rF rE rM) (s : M.σ) (F : Nat → Prop) (w : World)
    (h : PInv M inv R B X #[.iface T mv, .int .i64 port0, .slice A b.length c, .bool false] s F w) (hE : PEnv E B A b w) :
    Calls Try.prog 90 #[.pointer (some ⟨X, 0, none⟩)] w fun e w' => e = .returned (.int .i64 (M.need s)) ∧ Chg (fun _ => False) w w' := by
  obtain ⟨Fm, hi, _, _, _, _, hb⟩ := h
  have x0 : w.cell? ⟨X, 0, none⟩ = some (.iface T mv) := (hb.cell 0).trans rfl
  have mN := HM.mN.row; have eN := HM.mN.enters
  have hN := HM.need s Fm w hi hE.1
  clear hb hi hE
  go_enter Try.func90, Try.ntmps90
  go_wp2_with (refine hN.mono ?_; rintro e1 w1 ⟨rfl, hc1⟩)
  go_ret
  exact ⟨rfl, hc1⟩

theorem poked_held (HM : MachOk Try.prog M B T mv E inv fN fH fF fE fM rN rH rF rE rM) (s : M.σ) (F : Nat → Prop) (w : World)
    (h : PInv M inv R B X #[.iface T mv, .int .i64 port0, .slice A b.length c, .bool false] s F w) (hE : PEnv E B A b w) :
    Calls Try.prog 88 #[.pointer (some ⟨X, 0, none⟩)] w fun e w' => e = .returned (.int .i64 (M.held s)) ∧ Chg (fun _ => False) w w' := by
  obtain ⟨Fm, hi, _, _, _, _, hb⟩ := h
  have x0 : w.cell? ⟨X, 0, none⟩ = some (.iface T mv) := (hb.cell 0).trans rfl
  have mH := HM.mH.row; have eH := HM.mH.enters
  have hN := HM.held s Fm w hi hE.1
  clear hb hi hE
  go_enter Try.func88, Try.ntmps88
  go_wp2_with (refine hN.mono ?_; rintro e1 w1 ⟨rfl, hc1⟩)
  go_ret
  exact ⟨rfl, hc1⟩

/-- What was answered after the poke, is what the poked machine answers. -/
theorem pinv_ans {s : M.σ} {a : Outs × Int × M.σ} {F Fm F1 : Nat → Prop} {w w1 : World} {cs : Array Value} {e : Ending} {w2 : World} (hR : R a.2.2) (hF : ∀ k, F k ↔ Fm k ∨ k = X) (hB : B ≤ X) (hXF : ¬ Fm X) (hX : X < w.heap.size)
    (hp : PokePost M E inv s X cs Fm w e w1) (hF1 : ∀ k, F1 k → Fm k ∨ w.heap.size ≤ k) {e2 : Ending} (h : MAns M inv w1 F1 a e2 w2) (hb1 : Blk w1 X 52 cs) :
    MAns M (PInv M inv R B X cs) w F a e2 w2 := by
  obtain ⟨_, _, _, _, hc1, _, _⟩ := hp
  obtain ⟨v, F2, he, hi2, hF2, hc2, ho⟩ := h
  have hs1 := hc1.size
  have hX1 : ¬ F1 X := fun h => by rcases hF1 X h with h | h; exact hXF h; omega
  have hX2 : ¬ F2 X := fun h => by rcases hF2 X h with h | h; exact hX1 h; omega
  refine ⟨v, fun k => F2 k ∨ k = X, he, ⟨F2, hi2, hR, fun _ => Iff.rfl, hB, hX2, hb1.chg hc2 hX1⟩, fun k hk => ?_, (hc1.mono (S' := F) (fun k hk _ => (hF k).2 hk)).trans hc2 (fun k hk hlt => ?_), ho.mono (fun k hk _ => by omega)⟩
  · rcases hk with hk | hk
    · rcases hF2 k hk with h | h
      · rcases hF1 k h with h | h
        · exact .inl ((hF k).2 (.inl h))
        · exact .inr h
      · exact .inr (by omega)
    · exact .inl ((hF k).2 (.inr hk))
  · rcases hF1 k hk with h | h
    · exact (hF k).2 (.inl h)
    · omega

theorem poked_feed (HM : MachOk Try.prog M B T mv E inv fN fH fF fE fM rN rH rF rE rM) (RF : Refuse M R) (hbl : b.length ≤ 1000) (s : M.σ) (F : Nat → Prop) (w : World) (port : Int) (A2 : Option Addr) (c2 : Nat) (bs : Bs)
    (h : PInv M inv R B X #[.iface T mv, .int .i64 port0, .slice A b.length c, .bool false] s F w) (hE : PEnv E B A b w) (hr : Rd w (fun j => ¬ F j) 1 A2 bs.length (u8s bs)) (hl : bs.length ≤ 100000) :
    Calls Try.prog 87 #[.pointer (some ⟨X, 0, none⟩), .int .i64 port, .slice A2 bs.length c2] w (MAns M (PInv M inv R B X #[.iface T mv, .int .i64 port0, .slice A b.length c, .bool false]) w F (M.feed s port bs)) := by
  obtain ⟨Fm, hi, hR, hF, hB, hXF, hb⟩ := h
  have hX := hb.lt
  have hk := poke_any HM R RF s Fm w X port0 b A c hi hE.1 hR hb hB hXF hE.2 hbl
  have mF := HM.mF.row; have eF := HM.mF.enters
  replace hF := Lib.hid hF
  clear hb hi hE
  go_enter Try.func87, Try.ntmps87
  go_wp2_with (first
    | (go_at_call 21
       refine hk.mono ?_
       intro e1 w1 hp
       have hp2 := Lib.hid hp
       obtain ⟨rfl, F1, hi1, hF1, hc1, hb1, hE1⟩ := hp
       have x0 : w1.cell? ⟨X, 0, none⟩ = some (.iface T mv) := (hb1.cell 0).trans rfl)
    | (refine (HM.feed s F1 w1 port A2 c2 bs hi1 hE1 (((hr.mono (D' := fun k => ¬ F k ∧ k < w.heap.size) (fun k hk hlt => ⟨hk, hlt⟩)).chg hc1 (fun k hk _ h => hk.1 ((hF.out k).2 h))).mono (fun k hk _ h1 => by
         rcases hF1 k h1 with h | h
         · exact hk.1 ((hF.out k).2 (.inl h))
         · omega)) hl).mono ?_
       intro e2 w2 hm
       have hm2 := Lib.hid hm
       obtain ⟨v, F2, rfl, _⟩ := hm))
  go_ret2
  exact pinv_ans (RF.feedR s port bs hR) hF.out hB hXF hX hp2.out hF1 hm2.out hb1

theorem poked_fin (HM : MachOk Try.prog M B T mv E inv fN fH fF fE fM rN rH rF rE rM) (RF : Refuse M R) (hbl : b.length ≤ 1000) (s : M.σ) (F : Nat → Prop) (w : World) (port : Int)
    (h : PInv M inv R B X #[.iface T mv, .int .i64 port0, .slice A b.length c, .bool false] s F w) (hE : PEnv E B A b w) :
    Calls Try.prog 86 #[.pointer (some ⟨X, 0, none⟩), .int .i64 port] w (MAns M (PInv M inv R B X #[.iface T mv, .int .i64 port0, .slice A b.length c, .bool false]) w F (M.fin s port)) := by
  obtain ⟨Fm, hi, hR, hF, hB, hXF, hb⟩ := h
  have hX := hb.lt
  have hk := poke_any HM R RF s Fm w X port0 b A c hi hE.1 hR hb hB hXF hE.2 hbl
  have mE := HM.mE.row; have eE := HM.mE.enters
  replace hF := Lib.hid hF
  clear hb hi hE
  go_enter Try.func86, Try.ntmps86
  go_wp2_with (first
    | (go_at_call 21
       refine hk.mono ?_
       intro e1 w1 hp
       have hp2 := Lib.hid hp
       obtain ⟨rfl, F1, hi1, hF1, hc1, hb1, hE1⟩ := hp
       have x0 : w1.cell? ⟨X, 0, none⟩ = some (.iface T mv) := (hb1.cell 0).trans rfl)
    | (refine (HM.fin s F1 w1 port hi1 hE1).mono ?_
       intro e2 w2 hm
       have hm2 := Lib.hid hm
       obtain ⟨v, F2, rfl, _⟩ := hm))
  go_ret2
  exact pinv_ans (RF.finR s port hR) hF.out hB hXF hX hp2.out hF1 hm2.out hb1

theorem poked_more (HM : MachOk Try.prog M B T mv E inv fN fH fF fE fM rN rH rF rE rM) (RF : Refuse M R) (hbl : b.length ≤ 1000) (s : M.σ) (F : Nat → Prop) (w : World)
    (h : PInv M inv R B X #[.iface T mv, .int .i64 port0, .slice A b.length c, .bool false] s F w) (hE : PEnv E B A b w) :
    Calls Try.prog 89 #[.pointer (some ⟨X, 0, none⟩)] w (MAns M (PInv M inv R B X #[.iface T mv, .int .i64 port0, .slice A b.length c, .bool false]) w F (M.more s)) := by
  obtain ⟨Fm, hi, hR, hF, hB, hXF, hb⟩ := h
  have hX := hb.lt
  have hk := poke_any HM R RF s Fm w X port0 b A c hi hE.1 hR hb hB hXF hE.2 hbl
  have mM := HM.mM.row; have eM := HM.mM.enters
  replace hF := Lib.hid hF
  clear hb hi hE
  go_enter Try.func89, Try.ntmps89
  go_wp2_with (first
    | (go_at_call 21
       refine hk.mono ?_
       intro e1 w1 hp
       have hp2 := Lib.hid hp
       obtain ⟨rfl, F1, hi1, hF1, hc1, hb1, hE1⟩ := hp
       have x0 : w1.cell? ⟨X, 0, none⟩ = some (.iface T mv) := (hb1.cell 0).trans rfl)
    | (refine (HM.more s F1 w1 hi1 hE1).mono ?_
       intro e2 w2 hm
       have hm2 := Lib.hid hm
       obtain ⟨v, F2, rfl, _⟩ := hm))
  go_ret2
  exact pinv_ans (RF.moreR s hR) hF.out hB hXF hX hp2.out hF1 hm2.out hb1

theorem poked_mach (HM : MachOk Try.prog M B T mv E inv fN fH fF fE fM rN rH rF rE rM) (RF : Refuse M R) (hbl : b.length ≤ 1000) :
    MachOk Try.prog M B 50 (.pointer (some ⟨X, 0, none⟩)) (PEnv E B A b) (PInv M inv R B X #[.iface T mv, .int .i64 port0, .slice A b.length c, .bool false])
      90 88 87 86 89
      (.pointer (some ⟨X, 0, none⟩)) (.pointer (some ⟨X, 0, none⟩)) (.pointer (some ⟨X, 0, none⟩)) (.pointer (some ⟨X, 0, none⟩)) (.pointer (some ⟨X, 0, none⟩)) where
  env w w' hw h := ⟨HM.env w w' hw h.1, h.2.chg (chg_of_belowB hw) (fun k hk _ h => by omega)⟩
  keep s F w w' S h hc hS := by
    obtain ⟨Fm, hi, hR, hF, hB, hXF, hb⟩ := h
    exact ⟨Fm, HM.keep s Fm w w' S hi hc (fun k hk => hS k ((hF k).2 (.inl hk))), hR, hF, hB, hXF, hb.chg hc (hS X ((hF X).2 (.inr rfl)))⟩
  inside s F w h := by
    obtain ⟨Fm, hi, hR, hF, hB, hXF, hb⟩ := h
    have hl := hb.lt
    refine ⟨by omega, fun k hk => ?_⟩
    rcases (hF k).1 hk with h | h
    · exact (HM.inside s Fm w hi).2 k h
    · omega
  mN := ⟨fun w => by kernel_rfl, fun args w => by kernel_rfl⟩
  mH := ⟨fun w => by kernel_rfl, fun args w => by kernel_rfl⟩
  mF := ⟨fun w => by kernel_rfl, fun args w => by kernel_rfl⟩
  mE := ⟨fun w => by kernel_rfl, fun args w => by kernel_rfl⟩
  mM := ⟨fun w => by kernel_rfl, fun args w => by kernel_rfl⟩
  need s F w h hE := poked_need HM s F w h hE
  held s F w h hE := poked_held HM s F w h hE
  feed s F w port A2 c2 bs h hE hr hl := poked_feed HM RF hbl s F w port A2 c2 bs h hE hr hl
  fin s F w port h hE := poked_fin HM RF hbl s F w port h hE
  more s F w h hE := poked_more HM RF hbl s F w h hE
  small s F w h := by
    obtain ⟨Fm, hi, _⟩ := h
    exact HM.small s Fm w hi
end

/-- A poked machine, in memory. -/
def PReady (M : Mach) (E : World → Prop) (R : M.σ → Prop) (B X : Nat) (v : Value) (port : Int) (A : Option Addr) (b : Bs) (c : Nat) (s : M.σ) (F : Nat → Prop) (w : World) : Prop :=
  ∃ T mv inv fN fH fF fE fM rN rH rF rE rM, v = .iface T mv ∧ MachOk Try.prog M B T mv E inv fN fH fF fE fM rN rH rF rE rM ∧ PInv M inv R B X #[v, .int .i64 port, .slice A b.length c, .bool false] s F w ∧ PEnv E B A b w

section
variable {M : Mach} {E : World → Prop} {R : M.σ → Prop} {B X : Nat} {v : Value} {port : Int} {A : Option Addr} {b : Bs} {c : Nat} {s : M.σ} {F : Nat → Prop} {w : World}

theorem pready_new (h : Ready M E B v s F w) (hR : R s) (port : Int) (A : Option Addr) (b : Bs) (c : Nat) (hr : Rd w (fun k => k < B) 1 A b.length (u8s b)) :
    PReady M E R B w.heap.size v port A b c s (fun k => F k ∨ k = w.heap.size) (w.alloc (.cells #[v, .int .i64 port, .slice A b.length c, .bool false] 52)) := by
  obtain ⟨T, mv, inv, fN, fH, fF, fE, fM, rN, rH, rF, rE, rM, rfl, HM, hi, hE⟩ := h
  have hin := HM.inside _ _ _ hi
  have hc := (Chg.refl (fun _ => False) w).alloc (.cells #[.iface T mv, .int .i64 port, .slice A b.length c, .bool false] 52)
  refine ⟨T, mv, inv, fN, fH, fF, fE, fM, rN, rH, rF, rE, rM, rfl, HM, ⟨F, HM.keep _ _ _ _ _ hi hc (fun _ _ h => h), hR, fun _ => Iff.rfl, hin.1, fun h => ?_, Blk.new _ _ _⟩, HM.env _ _ (hc.below hin.1 (fun _ h => h.elim)) hE, hr.chg hc (fun _ _ _ h => h)⟩
  have := (hin.2 _ h).2
  omega

/-- What Drive has come to, over a poked machine. -/
def PDriven (M : Mach) (E : World → Prop) (R : M.σ → Prop) (B X : Nat) (v : Value) (port : Int) (A : Option Addr) (b : Bs) (c : Nat) (den : Den) (F : Nat → Prop) (w : World) (e : Ending) (w' : World) : Prop :=
  ∃ (d : DS M.σ) (F' : Nat → Prop), e = .returned (.agg (gotC den.outs den.need den.err d.held d.taken false)) ∧ Chg F w w' ∧ PReady M E R B X v port A b c d.st F' w' ∧ ∀ k, F' k → F k ∨ w.heap.size ≤ k

theorem pready_drive (RF : Refuse M R) (hbl : b.length ≤ 1000) (h : PReady M E R B X v port A b c s F w) (ins : List Strm) (cuts : List Int) (den : Den) (bound : Int) (hd : DEnd M den bound (drive M s ins cuts))
    (Ai C : Option Addr) (ca cc : Nat) (D : Nat → Prop) (hins : StrmsAt w D (.slice Ai ins.length ca) ins) (hcuts : Rd w D 1 C cuts.length (i64s cuts)) (hD : ∀ k, D k → ¬ F k) (hcl : cuts.length ≤ 100000) (hbi : ∀ x ∈ ins, x.bs.length ≤ 1000000) :
    Calls Try.prog 17 #[.iface 50 (.pointer (some ⟨X, 0, none⟩)), .slice Ai ins.length ca, .slice C cuts.length cc] w (PDriven M E R B X v port A b c den F w) := by
  obtain ⟨T, mv, inv, fN, fH, fF, fE, fM, rN, rH, rF, rE, rM, rfl, HM, hi, hE⟩ := h
  refine (drive_any (poked_mach HM RF hbl) s F ins cuts Ai C ca cc D w hi hE hins hcuts hD hcl hbi).mono ?_
  rintro e w' ⟨rfl, hc, hE', F', hi', hF'⟩
  refine ⟨_, F', ?_, hc, ⟨T, mv, inv, fN, fH, fF, fE, fM, rN, rH, rF, rE, rM, rfl, HM, hi', hE'⟩, hF'⟩
  unfold GotVal
  rw [hd.outs, hd.need, hd.err, hd.bad]

theorem PReady.inside (h : PReady M E R B X v port A b c s F w) : B ≤ w.heap.size ∧ ∀ k, F k → B ≤ k ∧ k < w.heap.size := by
  obtain ⟨T, mv, inv, fN, fH, fF, fE, fM, rN, rH, rF, rE, rM, rfl, HM, ⟨Fm, hi, hR, hF, hBX, hXF, hb⟩, hE⟩ := h
  have hl := hb.lt
  refine ⟨by omega, fun k hk => ?_⟩
  rcases (hF k).1 hk with h | h
  · exact (HM.inside _ _ _ hi).2 k h
  · omega

theorem PReady.chg {S : Nat → Prop} {w' : World} (h : PReady M E R B X v port A b c s F w) (hc : Chg S w w') (hS : ∀ k, F k → ¬ S k) (hB : ∀ k, S k → B ≤ k) : PReady M E R B X v port A b c s F w' := by
  obtain ⟨T, mv, inv, fN, fH, fF, fE, fM, rN, rH, rF, rE, rM, rfl, HM, ⟨Fm, hi, hR, hF, hBX, hXF, hb⟩, hE⟩ := h
  refine ⟨T, mv, inv, fN, fH, fF, fE, fM, rN, rH, rF, rE, rM, rfl, HM, ⟨Fm, HM.keep _ _ _ _ _ hi hc (fun k hk => hS k ((hF k).2 (.inl hk))), hR, hF, hBX, hXF, hb.chg hc (hS X ((hF X).2 (.inr rfl)))⟩, HM.env _ _ (hc.below (HM.inside _ _ _ hi).1 hB) hE.1, hE.2.chg hc (fun k hk _ h => ?_)⟩
  have := hB k h
  omega

theorem pready_poke (RF : Refuse M R) (hbl : b.length ≤ 1000) (h : PReady M E R B X v port A b c s F w) :
    Calls Try.prog 21 #[.pointer (some ⟨X, 0, none⟩)] w fun e w' => e = .returned (.tuple #[]) ∧ Chg F w w' ∧ Blk w' X 52 #[v, .int .i64 port, .slice A b.length c, .bool false] := by
  obtain ⟨T, mv, inv, fN, fH, fF, fE, fM, rN, rH, rF, rE, rM, rfl, HM, ⟨Fm, hi, hR, hF, hBX, hXF, hb⟩, hE⟩ := h
  refine (poke_any HM R RF s Fm w X port b A c hi hE.1 hR hb hBX hXF hE.2 hbl).mono ?_
  rintro e w' ⟨rfl, F', hi', hF', hc, hb', hE'⟩
  exact ⟨rfl, hc.mono (fun k hk _ => (hF k).2 hk), hb'⟩
end
end Go.Proofs.Ytilhjjfdaffabaa.Split
