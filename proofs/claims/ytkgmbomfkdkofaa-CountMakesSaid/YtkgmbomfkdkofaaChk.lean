/- filter.Check of parameters that may be. -/
import Derived.Test.YtkgmbomfkdkofaaRules
import Derived.Deep.RegionHeld3
import Derived.Deep.RegionWith
import Derived.Deep.DrawnRows
import Derived.BigQuiet
import Derived.Outline
import Derived.Deep.CutRange
namespace Go.Proofs.Ytkgmbomfkdkofaa
open Go Go.RowKit

def rulesV : Value := .agg allRules
theorem rules_val (w : World) : Calls Try.prog 44 #[] w fun e w' => e = .returned rulesV ∧ Chg (fun _ => False) w w' := rules_any w
theorem results_cell_tmp_row {P : Program} {fn : Func} {p q : Tmp} {ty : TypeId} (h : fn.results = #[.cell p ty, .tmp q]) (tmps : Array Value) (w : World) (g : Nat) (t : TypeId) (cs : Array Value) (fr : Nat × Nat) (d : TypeDesc)
    (hp : tmps.getD p undef = .pointer (some ⟨g, 0, none⟩)) (hg : w.heap[g]? = some (.cells cs t fr))
    (hu : P.underlying ty = some d) (hd : (match d with | .struct _ | .array _ _ => true | _ => false) = true) (hi : (P.info? ty).map (·.size) = some cs.size) :
    (results fn tmps).run P w = .ok (.tuple #[.agg cs, tmps.getD q undef]) w := by
  have hp' : tmps[p]?.getD undef = .pointer (some ⟨g, 0, none⟩) := by simpa using hp
  simp [results, h, hp', asAddr, run_loadVar_row w g t ty cs fr d hg hu hd hi]

theorem refRow_of {p : Prm} (h : refCheck p = 0) : refRow p = true := by
  unfold refCheck at h
  split at h
  · cases h
  · split at h
    · cases h
    · rename_i hr; simpa using hr
def ruleVal (k : Nat) : Value := .agg (ruleRow k).toArray

theorem info_rule : (Try.prog.info? 116).map (·.size) = some 7 := by kernel_rfl

theorem of_region_keep {wq W : World} {g : Nat} (h : Chg (fun _ => False) wq W) (hg : wq.heap.size ≤ g) (a0 a1 a2 a3 a4 a5 a6 : Value) :
    Chg (fun _ => False) wq (((((((W.setCell ⟨g, 0, none⟩ a0).setCell ⟨g, 1, none⟩ a1).setCell ⟨g, 2, none⟩ a2).setCell ⟨g, 3, none⟩ a3).setCell ⟨g, 4, none⟩ a4).setCell ⟨g, 5, none⟩ a5).setCell ⟨g, 6, none⟩ a6) :=
  ((((((h.setCell (p := ⟨g, 0, none⟩) (.inr hg) _).setCell (p := ⟨g, 1, none⟩) (.inr hg) _).setCell (p := ⟨g, 2, none⟩) (.inr hg) _).setCell (p := ⟨g, 3, none⟩) (.inr hg) _).setCell (p := ⟨g, 4, none⟩) (.inr hg) _).setCell (p := ⟨g, 5, none⟩) (.inr hg) _).setCell (p := ⟨g, 6, none⟩) (.inr hg) _

set_option maxRecDepth 100000 in
theorem bytes_bare (l m i o h e k n : Int) (A B : Option Addr) (ca cb : Nat) (w : World) :
    Calls Try.prog 45 #[.agg #[.int .i64 l, .int .i64 m, .int .i64 0, .int .i64 i, .int .i64 o, .int .i64 h, .int .i64 e], .agg #[.int .i64 k, .int .i64 n, .slice A 0 ca, .slice B 0 cb]] w fun r w' => r = .returned (.bool true) ∧ Chg (fun _ => False) w w' := by
  go_enter Try.func45, Try.ntmps45
  go_wp2
  go_ret
  exact ⟨rfl, ((Chg.refl _ _).alloc _).alloc _⟩

set_option maxRecDepth 100000 in
theorem bytes_part (D : Nat → Prop) (l m i o h e k n : Int) (A B : Option Addr) (ca cb : Nat) (x : UInt8) (hx : x ≠ 10) (w : World) (hA : Rd w D 1 A 1 (u8s [x])) :
    Calls Try.prog 45 #[.agg #[.int .i64 l, .int .i64 m, .int .i64 3, .int .i64 i, .int .i64 o, .int .i64 h, .int .i64 e], .agg #[.int .i64 k, .int .i64 n, .slice A 1 ca, .slice B 0 cb]] w fun r w' => r = .returned (.bool true) ∧ Chg (fun _ => False) w w' := by
  obtain ⟨g, off, v, rfl, hg, _, hv, hc⟩ := hA.at_ (k := 0) (by omega)
  simp [u8s] at hv
  subst hv
  have hc' : w.cell? ⟨g, off, none⟩ = some (.int .u8 x.toNat) := hc
  have hn : ((x.toNat : Int) != 10) = true := by
    rw [bne_iff_ne]; intro h; exact hx (UInt8.toNat_inj.1 (by simpa using (by omega : x.toNat = 10)))
  clear hA hc
  go_enter Try.func45, Try.ntmps45
  go_wp2
  go_ret
  exact ⟨rfl, ((Chg.refl _ _).alloc _).alloc _⟩

set_option maxHeartbeats 1000000 in
set_option maxRecDepth 100000 in
theorem of_flat (κ n l m a i o h : Int) (hk1 : 1 ≤ κ) (hk2 : κ ≤ 16) (hn0 : l ≤ n) (hn1 : n ≤ m) (A B : Option Addr) (la ca lb cb : Nat) (w : World) (hidx : ∀ w, (Instr.index 119 rulesV (.int .i64 κ)).run Try.prog w = .ok (.agg #[.int .i64 l, .int .i64 m, .int .i64 a, .int .i64 i, .int .i64 o, .int .i64 h, .int .i64 0]) w)
    (hby : ∀ W, Chg (fun _ => False) w W → Calls Try.prog 45 #[.agg #[.int .i64 l, .int .i64 m, .int .i64 a, .int .i64 i, .int .i64 o, .int .i64 h, .int .i64 0], .agg #[.int .i64 κ, .int .i64 n, .slice A la ca, .slice B lb cb]] W fun r w' => r = .returned (.bool true) ∧ Chg (fun _ => False) W w') :
    Calls Try.prog 43 #[.agg #[.int .i64 κ, .int .i64 n, .slice A la ca, .slice B lb cb]] w fun e w' => e = .returned (.tuple #[.agg #[.int .i64 l, .int .i64 m, .int .i64 a, .int .i64 i, .int .i64 o, .int .i64 h, .int .i64 0], .int .i64 0]) ∧ Chg (fun _ => False) w w' := by
  have hby := Lib.hid hby
  have hwq : Chg (fun _ => False) w ((w.alloc (.cells #[.int .i64 κ, .int .i64 n, .slice A la ca, .slice B lb cb] 24)).alloc (.cells #[.int .i64 0, .int .i64 0, .int .i64 0, .int .i64 0, .int .i64 0, .int .i64 0, .int .i64 0] 116)) := ((Chg.refl _ _).alloc _).alloc _
  have hst : Blk ((w.alloc (.cells #[.int .i64 κ, .int .i64 n, .slice A la ca, .slice B lb cb] 24)).alloc (.cells #[.int .i64 0, .int .i64 0, .int .i64 0, .int .i64 0, .int .i64 0, .int .i64 0, .int .i64 0] 116)) w.heap.size 24 #[.int .i64 κ, .int .i64 n, .slice A la ca, .slice B lb cb] := (Blk.new _ _ _).alloc _
  have hre : Blk ((w.alloc (.cells #[.int .i64 κ, .int .i64 n, .slice A la ca, .slice B lb cb] 24)).alloc (.cells #[.int .i64 0, .int .i64 0, .int .i64 0, .int .i64 0, .int .i64 0, .int .i64 0, .int .i64 0] 116)) (w.heap.size + 1) 116 #[.int .i64 0, .int .i64 0, .int .i64 0, .int .i64 0, .int .i64 0, .int .i64 0, .int .i64 0] := by
    have := Blk.new (w.alloc (.cells #[.int .i64 κ, .int .i64 n, .slice A la ca, .slice B lb cb] 24)) 116 #[.int .i64 0, .int .i64 0, .int .i64 0, .int .i64 0, .int .i64 0, .int .i64 0, .int .i64 0]
    simp only [World.size_alloc] at this
    exact this
  go_enter Try.func43, Try.ntmps43
  go_wp2
  generalize ((w.alloc (.cells #[.int .i64 κ, .int .i64 n, .slice A la ca, .slice B lb cb] 24)).alloc (.cells #[.int .i64 0, .int .i64 0, .int .i64 0, .int .i64 0, .int .i64 0, .int .i64 0, .int .i64 0] 116)) = wq at *
  generalize hg : w.heap.size = g at *
  have hg := Lib.hid hg
  have hS1 : ∀ W, Chg (fun _ => False) wq W → W.cell? ⟨g, 0, none⟩ = some (.int .i64 κ) ∧ Chg (fun _ => False) wq W := fun W hW => ⟨((hst.chg hW (fun h => h)).cell 0).trans rfl, hW⟩
  have hgq := Nat.le_refl wq.heap.size
  have c0 := Chg.refl (fun _ => False) wq
  have hSq := hS1 wq c0
  go_cut [4] from 13 (fun v4 W => ∃ g4, v4 = .pointer (some ⟨g4, 0, none⟩) ∧ Blk W g4 116 #[.int .i64 l, .int .i64 m, .int .i64 a, .int .i64 i, .int .i64 o, .int .i64 h, .int .i64 0] ∧ Chg (fun _ => False) wq W)
  case first =>
    go_region_held3 (fun W => W.cell? ⟨g, 0, none⟩ = some (.int .i64 κ) ∧ Chg (fun _ => False) wq W)
      (first
        | with_reducible exact hS1 _ c0.drew
        | with_reducible exact hS1 _ (c0.alloc _)
        | with_reducible exact hS1 _ (c0.alloc _).drew
        | with_reducible exact hS1 _ (c0.drew.alloc _)
        | with_reducible exact hS1 _ dX
        | with_reducible exact hS1 _ (dX.alloc _)
        | with_reducible exact hS1 _ (of_region_keep dX hgq _ _ _ _ _ _ _))
      (first
        | (go_at_call 44
           refine (rules_val _).mono ?_
           rintro e1 w1 ⟨rfl, hch1⟩
           go_split_ands
           have dX : Chg (fun _ => False) wq w1 := Chg.trans (by assumption) hch1 (fun _ h _ => h)
           first
             | (have hz : Blk w1 wq.heap.size 116 #[.int .i64 0, .int .i64 0, .int .i64 0, .int .i64 0, .int .i64 0, .int .i64 0, .int .i64 0] := by first | exact (Blk.new wq _ _).drew.chg hch1 (fun h => h) | exact (Blk.new wq _ _).chg hch1 (fun h => h)
                have z0 : w1.cell? ⟨wq.heap.size, 0, none⟩ = some (.int .i64 0) := (hz.cell 0).trans rfl
                have z1 : w1.cell? ⟨wq.heap.size, 1, none⟩ = some (.int .i64 0) := (hz.cell 1).trans rfl
                have z2 : w1.cell? ⟨wq.heap.size, 2, none⟩ = some (.int .i64 0) := (hz.cell 2).trans rfl
                have z3 : w1.cell? ⟨wq.heap.size, 3, none⟩ = some (.int .i64 0) := (hz.cell 3).trans rfl
                have z4 : w1.cell? ⟨wq.heap.size, 4, none⟩ = some (.int .i64 0) := (hz.cell 4).trans rfl
                have z5 : w1.cell? ⟨wq.heap.size, 5, none⟩ = some (.int .i64 0) := (hz.cell 5).trans rfl
                have z6 : w1.cell? ⟨wq.heap.size, 6, none⟩ = some (.int .i64 0) := (hz.cell 6).trans rfl
                have zf : ∀ i, w1.frozen? ⟨wq.heap.size, i, none⟩ = false := fun i => hz.frozen i)
             | skip))
    all_goals
      try clear z0 z1 z2 z3 z4 z5 z6 zf
      go_wp2_with fail
      go_meet
      first
        | with_reducible exact ⟨_, rfl, Blk.new w1 _ _, dX.alloc _⟩
        | exact ⟨_, rfl, ((((((hz.set 0 _).set 1 _).set 2 _).set 3 _).set 4 _).set 5 _).set 6 _, of_region_keep dX hgq _ _ _ _ _ _ _⟩
  case rest =>
    obtain ⟨g4, rfl, hb4, hcc⟩ := hcut
    have hcw := Lib.hid (hwq.trans hcc (fun _ h _ => h))
    have hbg := hst.chg hcc (fun h => h)
    have hbr := hre.chg hcc (fun h => h)
    have p0 : wc.cell? ⟨g, 0, none⟩ = some (.int .i64 κ) := (hbg.cell 0).trans rfl
    have p1 : wc.cell? ⟨g, 1, none⟩ = some (.int .i64 n) := (hbg.cell 1).trans rfl
    have p2 : wc.cell? ⟨g, 2, none⟩ = some (.slice A la ca) := (hbg.cell 2).trans rfl
    have p3 : wc.cell? ⟨g, 3, none⟩ = some (.slice B lb cb) := (hbg.cell 3).trans rfl
    have y0 : wc.cell? ⟨g + 1, 0, none⟩ = some (.int .i64 0) := (hbr.cell 0).trans rfl
    have yf : ∀ i, wc.frozen? ⟨g + 1, i, none⟩ = false := fun i => hbr.frozen i
    have z0 : wc.cell? ⟨g4, 0, none⟩ = some (.int .i64 l) := (hb4.cell 0).trans rfl
    have z1 : wc.cell? ⟨g4, 1, none⟩ = some (.int .i64 m) := (hb4.cell 1).trans rfl
    have z2 : wc.cell? ⟨g4, 2, none⟩ = some (.int .i64 a) := (hb4.cell 2).trans rfl
    have z3 : wc.cell? ⟨g4, 3, none⟩ = some (.int .i64 i) := (hb4.cell 3).trans rfl
    have z4 : wc.cell? ⟨g4, 4, none⟩ = some (.int .i64 o) := (hb4.cell 4).trans rfl
    have z5 : wc.cell? ⟨g4, 5, none⟩ = some (.int .i64 h) := (hb4.cell 5).trans rfl
    have z6 : wc.cell? ⟨g4, 6, none⟩ = some (.int .i64 0) := (hb4.cell 6).trans rfl
    clear hwq hst hre hS1 hgq c0 hSq hcc
    go_wp2_with (first
      | (go_at_call 45
         refine (hby.out _ (hcw.out)).mono ?_
         rintro e2 w2 ⟨rfl, hc2⟩
         have hb42 := hb4.chg hc2 (fun h => h)
         have hbr2 := hbr.chg hc2 (fun h => h)
         have hbg2 := hbg.chg hc2 (fun h => h)
         have r1 : w2.cell? ⟨g, 1, none⟩ = some (.int .i64 n) := (hbg2.cell 1).trans rfl
         have x0 : w2.cell? ⟨g4, 0, none⟩ = some (.int .i64 l) := (hb42.cell 0).trans rfl
         have x1 : w2.cell? ⟨g4, 1, none⟩ = some (.int .i64 m) := (hb42.cell 1).trans rfl
         have x2 : w2.cell? ⟨g4, 2, none⟩ = some (.int .i64 a) := (hb42.cell 2).trans rfl
         have x3 : w2.cell? ⟨g4, 3, none⟩ = some (.int .i64 i) := (hb42.cell 3).trans rfl
         have x4 : w2.cell? ⟨g4, 4, none⟩ = some (.int .i64 o) := (hb42.cell 4).trans rfl
         have x5 : w2.cell? ⟨g4, 5, none⟩ = some (.int .i64 h) := (hb42.cell 5).trans rfl
         have x6 : w2.cell? ⟨g4, 6, none⟩ = some (.int .i64 0) := (hb42.cell 6).trans rfl))
    go_quiet (fail)
    have hbn := hbr2.drewN nq
    go_wp2_with (first
      | (refine wpList_store_row rfl 116 (.tmp 2) (.tmp 54) rfl (g + 1) _ rfl rfl 116 _ hbn info_rule rfl (by simp [Value.oneCell']) ?_))
    refine bodyPost_ret (results_cell_tmp_row rfl _ _ (g + 1) _ _ _ _ rfl (blk_setRow hbn) Try.underlying116 rfl info_rule) rfl ?_
    refine ⟨rfl, ?_⟩
    exact chg_setRow (((hcw.out.trans hc2 (fun _ h _ => h))).drewN nq) (.inr (by have := hg.out; omega)) _

end Go.Proofs.Ytkgmbomfkdkofaa
