/- params.of: parameters that may not be. Printed by genof.py. -/
import Derived.Test.YtkgmbomfkdkofaaChk
namespace Go.Proofs.Ytkgmbomfkdkofaa
open Go Go.RowKit

set_option maxHeartbeats 1000000 in
set_option maxRecDepth 100000 in
theorem of_low (κ n l m a i o h e : Int) (hk1 : 1 ≤ κ) (hk2 : κ ≤ 16) (hn0 : n < l) (A B : Option Addr) (la ca lb cb : Nat) (w : World) (hidx : ∀ w, (Instr.index 119 rulesV (.int .i64 κ)).run Try.prog w = .ok (.agg #[.int .i64 l, .int .i64 m, .int .i64 a, .int .i64 i, .int .i64 o, .int .i64 h, .int .i64 e]) w)
    : Calls Try.prog 43 #[.agg #[.int .i64 κ, .int .i64 n, .slice A la ca, .slice B lb cb]] w fun e w' => e = .returned (.tuple #[.agg #[.int .i64 0, .int .i64 0, .int .i64 0, .int .i64 0, .int .i64 0, .int .i64 0, .int .i64 0], .int .i64 11]) ∧ Chg (fun _ => False) w w' := by
  have hwq : Chg (fun _ => False) w ((w.alloc (.cells #[.int .i64 κ, .int .i64 n, .slice A la ca, .slice B lb cb] 24)).alloc (.cells #[.int .i64 0, .int .i64 0, .int .i64 0, .int .i64 0, .int .i64 0, .int .i64 0, .int .i64 0] 116)) := ((Chg.refl _ _).alloc _).alloc _
  have hst : Blk ((w.alloc (.cells #[.int .i64 κ, .int .i64 n, .slice A la ca, .slice B lb cb] 24)).alloc (.cells #[.int .i64 0, .int .i64 0, .int .i64 0, .int .i64 0, .int .i64 0, .int .i64 0, .int .i64 0] 116)) w.heap.size 24 #[.int .i64 κ, .int .i64 n, .slice A la ca, .slice B lb cb] := (Blk.new _ _ _).alloc _
  have hre : Blk ((w.alloc (.cells #[.int .i64 κ, .int .i64 n, .slice A la ca, .slice B lb cb] 24)).alloc (.cells #[.int .i64 0, .int .i64 0, .int .i64 0, .int .i64 0, .int .i64 0, .int .i64 0, .int .i64 0] 116)) (w.heap.size + 1) 116 #[.int .i64 0, .int .i64 0, .int .i64 0, .int .i64 0, .int .i64 0, .int .i64 0, .int .i64 0] := by
    have := Blk.new (w.alloc (.cells #[.int .i64 κ, .int .i64 n, .slice A la ca, .slice B lb cb] 24)) 116 #[.int .i64 0, .int .i64 0, .int .i64 0, .int .i64 0, .int .i64 0, .int .i64 0, .int .i64 0]
    simp only [World.size_alloc] at this
    exact this
  go_enter Try.func43, Try.ntmps43
  go_wp2
  generalize ((w.alloc (.cells #[.int .i64 κ, .int .i64 n, .slice A la ca, .slice B lb cb] 24)).alloc (.cells #[.int .i64 0, .int .i64 0, .int .i64 0, .int .i64 0, .int .i64 0, .int .i64 0, .int .i64 0] 116)) = wq at *
  generalize hg : w.heap.size = g at *
  have hg := Lib.hid hg
  have hS1 : ∀ W, Chg (fun _ => False) wq W → W.cell? ⟨g, 0, none⟩ = some (.int .i64 κ) ∧ Chg (fun _ => False) wq W := fun W hW => ⟨((hst.chg hW (fun h => h)).cell 0).trans rfl, hW⟩
  have hgq := Nat.le_refl wq.heap.size
  have c0 := Chg.refl (fun _ => False) wq
  have hSq := hS1 wq c0
  go_cut [4] from 13 (fun v4 W => ∃ g4, v4 = .pointer (some ⟨g4, 0, none⟩) ∧ Blk W g4 116 #[.int .i64 l, .int .i64 m, .int .i64 a, .int .i64 i, .int .i64 o, .int .i64 h, .int .i64 e] ∧ Chg (fun _ => False) wq W)
  case first =>
    go_region_held3 (fun W => W.cell? ⟨g, 0, none⟩ = some (.int .i64 κ) ∧ Chg (fun _ => False) wq W)
      (first
        | with_reducible exact hS1 _ c0.drew
        | with_reducible exact hS1 _ (c0.alloc _)
        | with_reducible exact hS1 _ (c0.alloc _).drew
        | with_reducible exact hS1 _ (c0.drew.alloc _)
        | with_reducible exact hS1 _ dX
        | with_reducible exact hS1 _ (dX.alloc _)
        | with_reducible exact hS1 _ (of_region_keep dX hgq _ _ _ _ _ _ _))
      (first
        | (go_at_call 44
           refine (rules_val _).mono ?_
           rintro e1 w1 ⟨rfl, hch1⟩
           go_split_ands
           have dX : Chg (fun _ => False) wq w1 := Chg.trans (by assumption) hch1 (fun _ h _ => h)
           first
             | (have hz : Blk w1 wq.heap.size 116 #[.int .i64 0, .int .i64 0, .int .i64 0, .int .i64 0, .int .i64 0, .int .i64 0, .int .i64 0] := by first | exact (Blk.new wq _ _).drew.chg hch1 (fun h => h) | exact (Blk.new wq _ _).chg hch1 (fun h => h)
                have z0 : w1.cell? ⟨wq.heap.size, 0, none⟩ = some (.int .i64 0) := (hz.cell 0).trans rfl
                have z1 : w1.cell? ⟨wq.heap.size, 1, none⟩ = some (.int .i64 0) := (hz.cell 1).trans rfl
                have z2 : w1.cell? ⟨wq.heap.size, 2, none⟩ = some (.int .i64 0) := (hz.cell 2).trans rfl
                have z3 : w1.cell? ⟨wq.heap.size, 3, none⟩ = some (.int .i64 0) := (hz.cell 3).trans rfl
                have z4 : w1.cell? ⟨wq.heap.size, 4, none⟩ = some (.int .i64 0) := (hz.cell 4).trans rfl
                have z5 : w1.cell? ⟨wq.heap.size, 5, none⟩ = some (.int .i64 0) := (hz.cell 5).trans rfl
                have z6 : w1.cell? ⟨wq.heap.size, 6, none⟩ = some (.int .i64 0) := (hz.cell 6).trans rfl
                have zf : ∀ i, w1.frozen? ⟨wq.heap.size, i, none⟩ = false := fun i => hz.frozen i)
             | skip))
    all_goals
      try clear z0 z1 z2 z3 z4 z5 z6 zf
      go_wp2_with fail
      go_meet
      first
        | with_reducible exact ⟨_, rfl, Blk.new w1 _ _, dX.alloc _⟩
        | exact ⟨_, rfl, ((((((hz.set 0 _).set 1 _).set 2 _).set 3 _).set 4 _).set 5 _).set 6 _, of_region_keep dX hgq _ _ _ _ _ _ _⟩
  case rest =>
    obtain ⟨g4, rfl, hb4, hcc⟩ := hcut
    have hcw := Lib.hid (hwq.trans hcc (fun _ h _ => h))
    have hbg := hst.chg hcc (fun h => h)
    have hbr := hre.chg hcc (fun h => h)
    have p0 : wc.cell? ⟨g, 0, none⟩ = some (.int .i64 κ) := (hbg.cell 0).trans rfl
    have p1 : wc.cell? ⟨g, 1, none⟩ = some (.int .i64 n) := (hbg.cell 1).trans rfl
    have p2 : wc.cell? ⟨g, 2, none⟩ = some (.slice A la ca) := (hbg.cell 2).trans rfl
    have p3 : wc.cell? ⟨g, 3, none⟩ = some (.slice B lb cb) := (hbg.cell 3).trans rfl
    have y0 : wc.cell? ⟨g + 1, 0, none⟩ = some (.int .i64 0) := (hbr.cell 0).trans rfl
    have yf : ∀ i, wc.frozen? ⟨g + 1, i, none⟩ = false := fun i => hbr.frozen i
    have z0 : wc.cell? ⟨g4, 0, none⟩ = some (.int .i64 l) := (hb4.cell 0).trans rfl
    have z1 : wc.cell? ⟨g4, 1, none⟩ = some (.int .i64 m) := (hb4.cell 1).trans rfl
    have z2 : wc.cell? ⟨g4, 2, none⟩ = some (.int .i64 a) := (hb4.cell 2).trans rfl
    have z3 : wc.cell? ⟨g4, 3, none⟩ = some (.int .i64 i) := (hb4.cell 3).trans rfl
    have z4 : wc.cell? ⟨g4, 4, none⟩ = some (.int .i64 o) := (hb4.cell 4).trans rfl
    have z5 : wc.cell? ⟨g4, 5, none⟩ = some (.int .i64 h) := (hb4.cell 5).trans rfl
    have z6 : wc.cell? ⟨g4, 6, none⟩ = some (.int .i64 e) := (hb4.cell 6).trans rfl
    clear hwq hst hre hS1 hgq c0 hSq hcc
    have hbr2 := hbr
    have hcw2 := hcw.out
    go_wp2_with (first
      | (refine wpList_store_row rfl 116 (.tmp 2) (.tmp 37) rfl (g + 1) _ rfl rfl 116 _ hbr2 info_rule rfl (by simp [Value.oneCell']) ?_))
    refine bodyPost_ret (results_cell_tmp_row rfl _ _ (g + 1) _ _ _ _ rfl (blk_setRow hbr2) Try.underlying116 rfl info_rule) rfl ?_
    refine ⟨rfl, ?_⟩
    exact chg_setRow hcw2 (.inr (by have := hg.out; omega)) _

set_option maxHeartbeats 1000000 in
set_option maxRecDepth 100000 in
theorem of_high (κ n l m a i o h e : Int) (hk1 : 1 ≤ κ) (hk2 : κ ≤ 16) (hn0 : l ≤ n) (hn1 : m < n) (A B : Option Addr) (la ca lb cb : Nat) (w : World) (hidx : ∀ w, (Instr.index 119 rulesV (.int .i64 κ)).run Try.prog w = .ok (.agg #[.int .i64 l, .int .i64 m, .int .i64 a, .int .i64 i, .int .i64 o, .int .i64 h, .int .i64 e]) w)
    : Calls Try.prog 43 #[.agg #[.int .i64 κ, .int .i64 n, .slice A la ca, .slice B lb cb]] w fun e w' => e = .returned (.tuple #[.agg #[.int .i64 0, .int .i64 0, .int .i64 0, .int .i64 0, .int .i64 0, .int .i64 0, .int .i64 0], .int .i64 11]) ∧ Chg (fun _ => False) w w' := by
  have hwq : Chg (fun _ => False) w ((w.alloc (.cells #[.int .i64 κ, .int .i64 n, .slice A la ca, .slice B lb cb] 24)).alloc (.cells #[.int .i64 0, .int .i64 0, .int .i64 0, .int .i64 0, .int .i64 0, .int .i64 0, .int .i64 0] 116)) := ((Chg.refl _ _).alloc _).alloc _
  have hst : Blk ((w.alloc (.cells #[.int .i64 κ, .int .i64 n, .slice A la ca, .slice B lb cb] 24)).alloc (.cells #[.int .i64 0, .int .i64 0, .int .i64 0, .int .i64 0, .int .i64 0, .int .i64 0, .int .i64 0] 116)) w.heap.size 24 #[.int .i64 κ, .int .i64 n, .slice A la ca, .slice B lb cb] := (Blk.new _ _ _).alloc _
  have hre : Blk ((w.alloc (.cells #[.int .i64 κ, .int .i64 n, .slice A la ca, .slice B lb cb] 24)).alloc (.cells #[.int .i64 0, .int .i64 0, .int .i64 0, .int .i64 0, .int .i64 0, .int .i64 0, .int .i64 0] 116)) (w.heap.size + 1) 116 #[.int .i64 0, .int .i64 0, .int .i64 0, .int .i64 0, .int .i64 0, .int .i64 0, .int .i64 0] := by
    have := Blk.new (w.alloc (.cells #[.int .i64 κ, .int .i64 n, .slice A la ca, .slice B lb cb] 24)) 116 #[.int .i64 0, .int .i64 0, .int .i64 0, .int .i64 0, .int .i64 0, .int .i64 0, .int .i64 0]
    simp only [World.size_alloc] at this
    exact this
  go_enter Try.func43, Try.ntmps43
  go_wp2
  generalize ((w.alloc (.cells #[.int .i64 κ, .int .i64 n, .slice A la ca, .slice B lb cb] 24)).alloc (.cells #[.int .i64 0, .int .i64 0, .int .i64 0, .int .i64 0, .int .i64 0, .int .i64 0, .int .i64 0] 116)) = wq at *
  generalize hg : w.heap.size = g at *
  have hg := Lib.hid hg
  have hS1 : ∀ W, Chg (fun _ => False) wq W → W.cell? ⟨g, 0, none⟩ = some (.int .i64 κ) ∧ Chg (fun _ => False) wq W := fun W hW => ⟨((hst.chg hW (fun h => h)).cell 0).trans rfl, hW⟩
  have hgq := Nat.le_refl wq.heap.size
  have c0 := Chg.refl (fun _ => False) wq
  have hSq := hS1 wq c0
  go_cut [4] from 13 (fun v4 W => ∃ g4, v4 = .pointer (some ⟨g4, 0, none⟩) ∧ Blk W g4 116 #[.int .i64 l, .int .i64 m, .int .i64 a, .int .i64 i, .int .i64 o, .int .i64 h, .int .i64 e] ∧ Chg (fun _ => False) wq W)
  case first =>
    go_region_held3 (fun W => W.cell? ⟨g, 0, none⟩ = some (.int .i64 κ) ∧ Chg (fun _ => False) wq W)
      (first
        | with_reducible exact hS1 _ c0.drew
        | with_reducible exact hS1 _ (c0.alloc _)
        | with_reducible exact hS1 _ (c0.alloc _).drew
        | with_reducible exact hS1 _ (c0.drew.alloc _)
        | with_reducible exact hS1 _ dX
        | with_reducible exact hS1 _ (dX.alloc _)
        | with_reducible exact hS1 _ (of_region_keep dX hgq _ _ _ _ _ _ _))
      (first
        | (go_at_call 44
           refine (rules_val _).mono ?_
           rintro e1 w1 ⟨rfl, hch1⟩
           go_split_ands
           have dX : Chg (fun _ => False) wq w1 := Chg.trans (by assumption) hch1 (fun _ h _ => h)
           first
             | (have hz : Blk w1 wq.heap.size 116 #[.int .i64 0, .int .i64 0, .int .i64 0, .int .i64 0, .int .i64 0, .int .i64 0, .int .i64 0] := by first | exact (Blk.new wq _ _).drew.chg hch1 (fun h => h) | exact (Blk.new wq _ _).chg hch1 (fun h => h)
                have z0 : w1.cell? ⟨wq.heap.size, 0, none⟩ = some (.int .i64 0) := (hz.cell 0).trans rfl
                have z1 : w1.cell? ⟨wq.heap.size, 1, none⟩ = some (.int .i64 0) := (hz.cell 1).trans rfl
                have z2 : w1.cell? ⟨wq.heap.size, 2, none⟩ = some (.int .i64 0) := (hz.cell 2).trans rfl
                have z3 : w1.cell? ⟨wq.heap.size, 3, none⟩ = some (.int .i64 0) := (hz.cell 3).trans rfl
                have z4 : w1.cell? ⟨wq.heap.size, 4, none⟩ = some (.int .i64 0) := (hz.cell 4).trans rfl
                have z5 : w1.cell? ⟨wq.heap.size, 5, none⟩ = some (.int .i64 0) := (hz.cell 5).trans rfl
                have z6 : w1.cell? ⟨wq.heap.size, 6, none⟩ = some (.int .i64 0) := (hz.cell 6).trans rfl
                have zf : ∀ i, w1.frozen? ⟨wq.heap.size, i, none⟩ = false := fun i => hz.frozen i)
             | skip))
    all_goals
      try clear z0 z1 z2 z3 z4 z5 z6 zf
      go_wp2_with fail
      go_meet
      first
        | with_reducible exact ⟨_, rfl, Blk.new w1 _ _, dX.alloc _⟩
        | exact ⟨_, rfl, ((((((hz.set 0 _).set 1 _).set 2 _).set 3 _).set 4 _).set 5 _).set 6 _, of_region_keep dX hgq _ _ _ _ _ _ _⟩
  case rest =>
    obtain ⟨g4, rfl, hb4, hcc⟩ := hcut
    have hcw := Lib.hid (hwq.trans hcc (fun _ h _ => h))
    have hbg := hst.chg hcc (fun h => h)
    have hbr := hre.chg hcc (fun h => h)
    have p0 : wc.cell? ⟨g, 0, none⟩ = some (.int .i64 κ) := (hbg.cell 0).trans rfl
    have p1 : wc.cell? ⟨g, 1, none⟩ = some (.int .i64 n) := (hbg.cell 1).trans rfl
    have p2 : wc.cell? ⟨g, 2, none⟩ = some (.slice A la ca) := (hbg.cell 2).trans rfl
    have p3 : wc.cell? ⟨g, 3, none⟩ = some (.slice B lb cb) := (hbg.cell 3).trans rfl
    have y0 : wc.cell? ⟨g + 1, 0, none⟩ = some (.int .i64 0) := (hbr.cell 0).trans rfl
    have yf : ∀ i, wc.frozen? ⟨g + 1, i, none⟩ = false := fun i => hbr.frozen i
    have z0 : wc.cell? ⟨g4, 0, none⟩ = some (.int .i64 l) := (hb4.cell 0).trans rfl
    have z1 : wc.cell? ⟨g4, 1, none⟩ = some (.int .i64 m) := (hb4.cell 1).trans rfl
    have z2 : wc.cell? ⟨g4, 2, none⟩ = some (.int .i64 a) := (hb4.cell 2).trans rfl
    have z3 : wc.cell? ⟨g4, 3, none⟩ = some (.int .i64 i) := (hb4.cell 3).trans rfl
    have z4 : wc.cell? ⟨g4, 4, none⟩ = some (.int .i64 o) := (hb4.cell 4).trans rfl
    have z5 : wc.cell? ⟨g4, 5, none⟩ = some (.int .i64 h) := (hb4.cell 5).trans rfl
    have z6 : wc.cell? ⟨g4, 6, none⟩ = some (.int .i64 e) := (hb4.cell 6).trans rfl
    clear hwq hst hre hS1 hgq c0 hSq hcc
    have hbr2 := hbr
    have hcw2 := hcw.out
    go_wp2_with (first
      | (refine wpList_store_row rfl 116 (.tmp 2) (.tmp 37) rfl (g + 1) _ rfl rfl 116 _ hbr2 info_rule rfl (by simp [Value.oneCell']) ?_))
    refine bodyPost_ret (results_cell_tmp_row rfl _ _ (g + 1) _ _ _ _ rfl (blk_setRow hbr2) Try.underlying116 rfl info_rule) rfl ?_
    refine ⟨rfl, ?_⟩
    exact chg_setRow hcw2 (.inr (by have := hg.out; omega)) _

set_option maxHeartbeats 1000000 in
set_option maxRecDepth 100000 in
theorem of_bad (κ n l m a i o h e : Int) (hk1 : 1 ≤ κ) (hk2 : κ ≤ 16) (hn0 : l ≤ n) (hn1 : n ≤ m) (A B : Option Addr) (la ca lb cb : Nat) (w : World) (hidx : ∀ w, (Instr.index 119 rulesV (.int .i64 κ)).run Try.prog w = .ok (.agg #[.int .i64 l, .int .i64 m, .int .i64 a, .int .i64 i, .int .i64 o, .int .i64 h, .int .i64 e]) w)
    (hby : ∀ W, Chg (fun _ => False) w W → Calls Try.prog 45 #[.agg #[.int .i64 l, .int .i64 m, .int .i64 a, .int .i64 i, .int .i64 o, .int .i64 h, .int .i64 e], .agg #[.int .i64 κ, .int .i64 n, .slice A la ca, .slice B lb cb]] W fun r w' => r = .returned (.bool false) ∧ Chg (fun _ => False) W w')
    : Calls Try.prog 43 #[.agg #[.int .i64 κ, .int .i64 n, .slice A la ca, .slice B lb cb]] w fun e w' => e = .returned (.tuple #[.agg #[.int .i64 0, .int .i64 0, .int .i64 0, .int .i64 0, .int .i64 0, .int .i64 0, .int .i64 0], .int .i64 11]) ∧ Chg (fun _ => False) w w' := by
  have hby := Lib.hid hby
  have hwq : Chg (fun _ => False) w ((w.alloc (.cells #[.int .i64 κ, .int .i64 n, .slice A la ca, .slice B lb cb] 24)).alloc (.cells #[.int .i64 0, .int .i64 0, .int .i64 0, .int .i64 0, .int .i64 0, .int .i64 0, .int .i64 0] 116)) := ((Chg.refl _ _).alloc _).alloc _
  have hst : Blk ((w.alloc (.cells #[.int .i64 κ, .int .i64 n, .slice A la ca, .slice B lb cb] 24)).alloc (.cells #[.int .i64 0, .int .i64 0, .int .i64 0, .int .i64 0, .int .i64 0, .int .i64 0, .int .i64 0] 116)) w.heap.size 24 #[.int .i64 κ, .int .i64 n, .slice A la ca, .slice B lb cb] := (Blk.new _ _ _).alloc _
  have hre : Blk ((w.alloc (.cells #[.int .i64 κ, .int .i64 n, .slice A la ca, .slice B lb cb] 24)).alloc (.cells #[.int .i64 0, .int .i64 0, .int .i64 0, .int .i64 0, .int .i64 0, .int .i64 0, .int .i64 0] 116)) (w.heap.size + 1) 116 #[.int .i64 0, .int .i64 0, .int .i64 0, .int .i64 0, .int .i64 0, .int .i64 0, .int .i64 0] := by
    have := Blk.new (w.alloc (.cells #[.int .i64 κ, .int .i64 n, .slice A la ca, .slice B lb cb] 24)) 116 #[.int .i64 0, .int .i64 0, .int .i64 0, .int .i64 0, .int .i64 0, .int .i64 0, .int .i64 0]
    simp only [World.size_alloc] at this
    exact this
  go_enter Try.func43, Try.ntmps43
  go_wp2
  generalize ((w.alloc (.cells #[.int .i64 κ, .int .i64 n, .slice A la ca, .slice B lb cb] 24)).alloc (.cells #[.int .i64 0, .int .i64 0, .int .i64 0, .int .i64 0, .int .i64 0, .int .i64 0, .int .i64 0] 116)) = wq at *
  generalize hg : w.heap.size = g at *
  have hg := Lib.hid hg
  have hS1 : ∀ W, Chg (fun _ => False) wq W → W.cell? ⟨g, 0, none⟩ = some (.int .i64 κ) ∧ Chg (fun _ => False) wq W := fun W hW => ⟨((hst.chg hW (fun h => h)).cell 0).trans rfl, hW⟩
  have hgq := Nat.le_refl wq.heap.size
  have c0 := Chg.refl (fun _ => False) wq
  have hSq := hS1 wq c0
  go_cut [4] from 13 (fun v4 W => ∃ g4, v4 = .pointer (some ⟨g4, 0, none⟩) ∧ Blk W g4 116 #[.int .i64 l, .int .i64 m, .int .i64 a, .int .i64 i, .int .i64 o, .int .i64 h, .int .i64 e] ∧ Chg (fun _ => False) wq W)
  case first =>
    go_region_held3 (fun W => W.cell? ⟨g, 0, none⟩ = some (.int .i64 κ) ∧ Chg (fun _ => False) wq W)
      (first
        | with_reducible exact hS1 _ c0.drew
        | with_reducible exact hS1 _ (c0.alloc _)
        | with_reducible exact hS1 _ (c0.alloc _).drew
        | with_reducible exact hS1 _ (c0.drew.alloc _)
        | with_reducible exact hS1 _ dX
        | with_reducible exact hS1 _ (dX.alloc _)
        | with_reducible exact hS1 _ (of_region_keep dX hgq _ _ _ _ _ _ _))
      (first
        | (go_at_call 44
           refine (rules_val _).mono ?_
           rintro e1 w1 ⟨rfl, hch1⟩
           go_split_ands
           have dX : Chg (fun _ => False) wq w1 := Chg.trans (by assumption) hch1 (fun _ h _ => h)
           first
             | (have hz : Blk w1 wq.heap.size 116 #[.int .i64 0, .int .i64 0, .int .i64 0, .int .i64 0, .int .i64 0, .int .i64 0, .int .i64 0] := by first | exact (Blk.new wq _ _).drew.chg hch1 (fun h => h) | exact (Blk.new wq _ _).chg hch1 (fun h => h)
                have z0 : w1.cell? ⟨wq.heap.size, 0, none⟩ = some (.int .i64 0) := (hz.cell 0).trans rfl
                have z1 : w1.cell? ⟨wq.heap.size, 1, none⟩ = some (.int .i64 0) := (hz.cell 1).trans rfl
                have z2 : w1.cell? ⟨wq.heap.size, 2, none⟩ = some (.int .i64 0) := (hz.cell 2).trans rfl
                have z3 : w1.cell? ⟨wq.heap.size, 3, none⟩ = some (.int .i64 0) := (hz.cell 3).trans rfl
                have z4 : w1.cell? ⟨wq.heap.size, 4, none⟩ = some (.int .i64 0) := (hz.cell 4).trans rfl
                have z5 : w1.cell? ⟨wq.heap.size, 5, none⟩ = some (.int .i64 0) := (hz.cell 5).trans rfl
                have z6 : w1.cell? ⟨wq.heap.size, 6, none⟩ = some (.int .i64 0) := (hz.cell 6).trans rfl
                have zf : ∀ i, w1.frozen? ⟨wq.heap.size, i, none⟩ = false := fun i => hz.frozen i)
             | skip))
    all_goals
      try clear z0 z1 z2 z3 z4 z5 z6 zf
      go_wp2_with fail
      go_meet
      first
        | with_reducible exact ⟨_, rfl, Blk.new w1 _ _, dX.alloc _⟩
        | exact ⟨_, rfl, ((((((hz.set 0 _).set 1 _).set 2 _).set 3 _).set 4 _).set 5 _).set 6 _, of_region_keep dX hgq _ _ _ _ _ _ _⟩
  case rest =>
    obtain ⟨g4, rfl, hb4, hcc⟩ := hcut
    have hcw := Lib.hid (hwq.trans hcc (fun _ h _ => h))
    have hbg := hst.chg hcc (fun h => h)
    have hbr := hre.chg hcc (fun h => h)
    have p0 : wc.cell? ⟨g, 0, none⟩ = some (.int .i64 κ) := (hbg.cell 0).trans rfl
    have p1 : wc.cell? ⟨g, 1, none⟩ = some (.int .i64 n) := (hbg.cell 1).trans rfl
    have p2 : wc.cell? ⟨g, 2, none⟩ = some (.slice A la ca) := (hbg.cell 2).trans rfl
    have p3 : wc.cell? ⟨g, 3, none⟩ = some (.slice B lb cb) := (hbg.cell 3).trans rfl
    have y0 : wc.cell? ⟨g + 1, 0, none⟩ = some (.int .i64 0) := (hbr.cell 0).trans rfl
    have yf : ∀ i, wc.frozen? ⟨g + 1, i, none⟩ = false := fun i => hbr.frozen i
    have z0 : wc.cell? ⟨g4, 0, none⟩ = some (.int .i64 l) := (hb4.cell 0).trans rfl
    have z1 : wc.cell? ⟨g4, 1, none⟩ = some (.int .i64 m) := (hb4.cell 1).trans rfl
    have z2 : wc.cell? ⟨g4, 2, none⟩ = some (.int .i64 a) := (hb4.cell 2).trans rfl
    have z3 : wc.cell? ⟨g4, 3, none⟩ = some (.int .i64 i) := (hb4.cell 3).trans rfl
    have z4 : wc.cell? ⟨g4, 4, none⟩ = some (.int .i64 o) := (hb4.cell 4).trans rfl
    have z5 : wc.cell? ⟨g4, 5, none⟩ = some (.int .i64 h) := (hb4.cell 5).trans rfl
    have z6 : wc.cell? ⟨g4, 6, none⟩ = some (.int .i64 e) := (hb4.cell 6).trans rfl
    clear hwq hst hre hS1 hgq c0 hSq hcc
    go_wp2_with (first
      | (go_at_call 45
         refine (hby.out _ (hcw.out)).mono ?_
         rintro e2 w2 ⟨rfl, hc2⟩
         have hb42 := hb4.chg hc2 (fun h => h)
         have hbr2 := hbr.chg hc2 (fun h => h)
         have hbg2 := hbg.chg hc2 (fun h => h)
         have r1 : w2.cell? ⟨g, 1, none⟩ = some (.int .i64 n) := (hbg2.cell 1).trans rfl
         have x0 : w2.cell? ⟨g4, 0, none⟩ = some (.int .i64 l) := (hb42.cell 0).trans rfl
         have x1 : w2.cell? ⟨g4, 1, none⟩ = some (.int .i64 m) := (hb42.cell 1).trans rfl
         have x2 : w2.cell? ⟨g4, 2, none⟩ = some (.int .i64 a) := (hb42.cell 2).trans rfl
         have x3 : w2.cell? ⟨g4, 3, none⟩ = some (.int .i64 i) := (hb42.cell 3).trans rfl
         have x4 : w2.cell? ⟨g4, 4, none⟩ = some (.int .i64 o) := (hb42.cell 4).trans rfl
         have x5 : w2.cell? ⟨g4, 5, none⟩ = some (.int .i64 h) := (hb42.cell 5).trans rfl
         have x6 : w2.cell? ⟨g4, 6, none⟩ = some (.int .i64 e) := (hb42.cell 6).trans rfl
         have hcw2 := hcw.out.trans hc2 (fun _ h _ => h))
      | (refine wpList_store_row rfl 116 (.tmp 2) (.tmp 37) rfl (g + 1) _ rfl rfl 116 _ hbr2 info_rule rfl (by simp [Value.oneCell']) ?_))
    refine bodyPost_ret (results_cell_tmp_row rfl _ _ (g + 1) _ _ _ _ rfl (blk_setRow hbr2) Try.underlying116 rfl info_rule) rfl ?_
    refine ⟨rfl, ?_⟩
    exact chg_setRow hcw2 (.inr (by have := hg.out; omega)) _

set_option maxRecDepth 100000 in
theorem of_kind (κ n : Int) (hk : κ < 1 ∨ 16 < κ) (A B : Option Addr) (la ca lb cb : Nat) (w : World) :
    Calls Try.prog 43 #[.agg #[.int .i64 κ, .int .i64 n, .slice A la ca, .slice B lb cb]] w fun e w' => e = .returned (.tuple #[.agg #[.int .i64 0, .int .i64 0, .int .i64 0, .int .i64 0, .int .i64 0, .int .i64 0, .int .i64 0], .int .i64 10]) ∧ Chg (fun _ => False) w w' := by
  have hre : Blk ((w.alloc (.cells #[.int .i64 κ, .int .i64 n, .slice A la ca, .slice B lb cb] 24)).alloc (.cells #[.int .i64 0, .int .i64 0, .int .i64 0, .int .i64 0, .int .i64 0, .int .i64 0, .int .i64 0] 116)) (w.heap.size + 1) 116 #[.int .i64 0, .int .i64 0, .int .i64 0, .int .i64 0, .int .i64 0, .int .i64 0, .int .i64 0] := by
    have := Blk.new (w.alloc (.cells #[.int .i64 κ, .int .i64 n, .slice A la ca, .slice B lb cb] 24)) 116 #[.int .i64 0, .int .i64 0, .int .i64 0, .int .i64 0, .int .i64 0, .int .i64 0, .int .i64 0]
    simp only [World.size_alloc] at this
    exact this
  have hwq : Chg (fun _ => False) w ((w.alloc (.cells #[.int .i64 κ, .int .i64 n, .slice A la ca, .slice B lb cb] 24)).alloc (.cells #[.int .i64 0, .int .i64 0, .int .i64 0, .int .i64 0, .int .i64 0, .int .i64 0, .int .i64 0] 116)) := ((Chg.refl _ _).alloc _).alloc _
  by_cases h1 : κ < 1
  · clear hk
    go_enter Try.func43, Try.ntmps43
    go_wp2_with (first
      | (refine wpList_store_row rfl 116 (.tmp 2) (.tmp 13) rfl (w.heap.size + 1) _ rfl rfl 116 _ hre info_rule rfl (by simp [Value.oneCell']) ?_))
    refine bodyPost_ret (results_cell_tmp_row rfl _ _ (w.heap.size + 1) _ _ _ _ rfl (blk_setRow hre) Try.underlying116 rfl info_rule) rfl ?_
    exact ⟨rfl, chg_setRow hwq (.inr (by omega)) _⟩
  · have h2 : 16 < κ := by omega
    have h3 : 1 ≤ κ := by omega
    clear hk h1
    go_enter Try.func43, Try.ntmps43
    go_wp2_with (first
      | (refine wpList_store_row rfl 116 (.tmp 2) (.tmp 13) rfl (w.heap.size + 1) _ rfl rfl 116 _ hre info_rule rfl (by simp [Value.oneCell']) ?_))
    refine bodyPost_ret (results_cell_tmp_row rfl _ _ (w.heap.size + 1) _ _ _ _ rfl (blk_setRow hre) Try.underlying116 rfl info_rule) rfl ?_
    exact ⟨rfl, chg_setRow hwq (.inr (by omega)) _⟩

end Go.Proofs.Ytkgmbomfkdkofaa

/- params.of: tail, and too much state. Printed by genof.py. -/
namespace Go.Proofs.Ytkgmbomfkdkofaa
open Go Go.RowKit

set_option maxHeartbeats 1000000 in
set_option maxRecDepth 100000 in
theorem of_4 (n : Int) (hn0 : 0 ≤ n) (hn1 : n ≤ 31) (A B : Option Addr) (la ca lb cb : Nat) (w : World) (hidx : ∀ w, (Instr.index 119 rulesV (.int .i64 4)).run Try.prog w = .ok (.agg #[.int .i64 0, .int .i64 9223372036854775807, .int .i64 0, .int .i64 1, .int .i64 1, .int .i64 64, .int .i64 64]) w)
    (hby : ∀ W, Chg (fun _ => False) w W → Calls Try.prog 45 #[.agg #[.int .i64 0, .int .i64 9223372036854775807, .int .i64 0, .int .i64 1, .int .i64 1, .int .i64 64, .int .i64 64], .agg #[.int .i64 4, .int .i64 n, .slice A la ca, .slice B lb cb]] W fun r w' => r = .returned (.bool true) ∧ Chg (fun _ => False) W w')
    : Calls Try.prog 43 #[.agg #[.int .i64 4, .int .i64 n, .slice A la ca, .slice B lb cb]] w fun e w' => e = .returned (.tuple #[.agg #[.int .i64 0, .int .i64 9223372036854775807, .int .i64 0, .int .i64 1, .int .i64 1, .int .i64 64, .int .i64 64], .int .i64 0]) ∧ Chg (fun _ => False) w w' := by
  have hby := Lib.hid hby
  have hwq : Chg (fun _ => False) w ((w.alloc (.cells #[.int .i64 4, .int .i64 n, .slice A la ca, .slice B lb cb] 24)).alloc (.cells #[.int .i64 0, .int .i64 0, .int .i64 0, .int .i64 0, .int .i64 0, .int .i64 0, .int .i64 0] 116)) := ((Chg.refl _ _).alloc _).alloc _
  have hst : Blk ((w.alloc (.cells #[.int .i64 4, .int .i64 n, .slice A la ca, .slice B lb cb] 24)).alloc (.cells #[.int .i64 0, .int .i64 0, .int .i64 0, .int .i64 0, .int .i64 0, .int .i64 0, .int .i64 0] 116)) w.heap.size 24 #[.int .i64 4, .int .i64 n, .slice A la ca, .slice B lb cb] := (Blk.new _ _ _).alloc _
  have hre : Blk ((w.alloc (.cells #[.int .i64 4, .int .i64 n, .slice A la ca, .slice B lb cb] 24)).alloc (.cells #[.int .i64 0, .int .i64 0, .int .i64 0, .int .i64 0, .int .i64 0, .int .i64 0, .int .i64 0] 116)) (w.heap.size + 1) 116 #[.int .i64 0, .int .i64 0, .int .i64 0, .int .i64 0, .int .i64 0, .int .i64 0, .int .i64 0] := by
    have := Blk.new (w.alloc (.cells #[.int .i64 4, .int .i64 n, .slice A la ca, .slice B lb cb] 24)) 116 #[.int .i64 0, .int .i64 0, .int .i64 0, .int .i64 0, .int .i64 0, .int .i64 0, .int .i64 0]
    simp only [World.size_alloc] at this
    exact this
  go_enter Try.func43, Try.ntmps43
  go_wp2
  generalize ((w.alloc (.cells #[.int .i64 4, .int .i64 n, .slice A la ca, .slice B lb cb] 24)).alloc (.cells #[.int .i64 0, .int .i64 0, .int .i64 0, .int .i64 0, .int .i64 0, .int .i64 0, .int .i64 0] 116)) = wq at *
  generalize hg : w.heap.size = g at *
  have hg := Lib.hid hg
  have hS1 : ∀ W, Chg (fun _ => False) wq W → W.cell? ⟨g, 0, none⟩ = some (.int .i64 4) ∧ Chg (fun _ => False) wq W := fun W hW => ⟨((hst.chg hW (fun h => h)).cell 0).trans rfl, hW⟩
  have hgq := Nat.le_refl wq.heap.size
  have c0 := Chg.refl (fun _ => False) wq
  have hSq := hS1 wq c0
  go_cut [4] from 13 (fun v4 W => ∃ g4, v4 = .pointer (some ⟨g4, 0, none⟩) ∧ Blk W g4 116 #[.int .i64 0, .int .i64 9223372036854775807, .int .i64 0, .int .i64 1, .int .i64 1, .int .i64 64, .int .i64 64] ∧ Chg (fun _ => False) wq W)
  case first =>
    go_region_held3 (fun W => W.cell? ⟨g, 0, none⟩ = some (.int .i64 4) ∧ Chg (fun _ => False) wq W)
      (first
        | with_reducible exact hS1 _ c0.drew
        | with_reducible exact hS1 _ (c0.alloc _)
        | with_reducible exact hS1 _ (c0.alloc _).drew
        | with_reducible exact hS1 _ (c0.drew.alloc _)
        | with_reducible exact hS1 _ dX
        | with_reducible exact hS1 _ (dX.alloc _)
        | with_reducible exact hS1 _ (of_region_keep dX hgq _ _ _ _ _ _ _))
      (first
        | (go_at_call 44
           refine (rules_val _).mono ?_
           rintro e1 w1 ⟨rfl, hch1⟩
           go_split_ands
           have dX : Chg (fun _ => False) wq w1 := Chg.trans (by assumption) hch1 (fun _ h _ => h)
           first
             | (have hz : Blk w1 wq.heap.size 116 #[.int .i64 0, .int .i64 0, .int .i64 0, .int .i64 0, .int .i64 0, .int .i64 0, .int .i64 0] := by first | exact (Blk.new wq _ _).drew.chg hch1 (fun h => h) | exact (Blk.new wq _ _).chg hch1 (fun h => h)
                have z0 : w1.cell? ⟨wq.heap.size, 0, none⟩ = some (.int .i64 0) := (hz.cell 0).trans rfl
                have z1 : w1.cell? ⟨wq.heap.size, 1, none⟩ = some (.int .i64 0) := (hz.cell 1).trans rfl
                have z2 : w1.cell? ⟨wq.heap.size, 2, none⟩ = some (.int .i64 0) := (hz.cell 2).trans rfl
                have z3 : w1.cell? ⟨wq.heap.size, 3, none⟩ = some (.int .i64 0) := (hz.cell 3).trans rfl
                have z4 : w1.cell? ⟨wq.heap.size, 4, none⟩ = some (.int .i64 0) := (hz.cell 4).trans rfl
                have z5 : w1.cell? ⟨wq.heap.size, 5, none⟩ = some (.int .i64 0) := (hz.cell 5).trans rfl
                have z6 : w1.cell? ⟨wq.heap.size, 6, none⟩ = some (.int .i64 0) := (hz.cell 6).trans rfl
                have zf : ∀ i, w1.frozen? ⟨wq.heap.size, i, none⟩ = false := fun i => hz.frozen i)
             | skip))
    all_goals
      try clear z0 z1 z2 z3 z4 z5 z6 zf
      go_wp2_with fail
      go_meet
      first
        | with_reducible exact ⟨_, rfl, Blk.new w1 _ _, dX.alloc _⟩
        | exact ⟨_, rfl, ((((((hz.set 0 _).set 1 _).set 2 _).set 3 _).set 4 _).set 5 _).set 6 _, of_region_keep dX hgq _ _ _ _ _ _ _⟩
  case rest =>
    obtain ⟨g4, rfl, hb4, hcc⟩ := hcut
    have hcw := Lib.hid (hwq.trans hcc (fun _ h _ => h))
    have hbg := hst.chg hcc (fun h => h)
    have hbr := hre.chg hcc (fun h => h)
    have p0 : wc.cell? ⟨g, 0, none⟩ = some (.int .i64 4) := (hbg.cell 0).trans rfl
    have p1 : wc.cell? ⟨g, 1, none⟩ = some (.int .i64 n) := (hbg.cell 1).trans rfl
    have p2 : wc.cell? ⟨g, 2, none⟩ = some (.slice A la ca) := (hbg.cell 2).trans rfl
    have p3 : wc.cell? ⟨g, 3, none⟩ = some (.slice B lb cb) := (hbg.cell 3).trans rfl
    have y0 : wc.cell? ⟨g + 1, 0, none⟩ = some (.int .i64 0) := (hbr.cell 0).trans rfl
    have yf : ∀ i, wc.frozen? ⟨g + 1, i, none⟩ = false := fun i => hbr.frozen i
    have z0 : wc.cell? ⟨g4, 0, none⟩ = some (.int .i64 0) := (hb4.cell 0).trans rfl
    have z1 : wc.cell? ⟨g4, 1, none⟩ = some (.int .i64 9223372036854775807) := (hb4.cell 1).trans rfl
    have z2 : wc.cell? ⟨g4, 2, none⟩ = some (.int .i64 0) := (hb4.cell 2).trans rfl
    have z3 : wc.cell? ⟨g4, 3, none⟩ = some (.int .i64 1) := (hb4.cell 3).trans rfl
    have z4 : wc.cell? ⟨g4, 4, none⟩ = some (.int .i64 1) := (hb4.cell 4).trans rfl
    have z5 : wc.cell? ⟨g4, 5, none⟩ = some (.int .i64 64) := (hb4.cell 5).trans rfl
    have z6 : wc.cell? ⟨g4, 6, none⟩ = some (.int .i64 64) := (hb4.cell 6).trans rfl
    clear hwq hst hre hS1 hgq c0 hSq hcc
    go_wp2_with (first
      | (go_at_call 45
         refine (hby.out _ (hcw.out)).mono ?_
         rintro e2 w2 ⟨rfl, hc2⟩
         have hb42 := hb4.chg hc2 (fun h => h)
         have hbr2 := hbr.chg hc2 (fun h => h)
         have hbg2 := hbg.chg hc2 (fun h => h)
         have r1 : w2.cell? ⟨g, 1, none⟩ = some (.int .i64 n) := (hbg2.cell 1).trans rfl
         have x0 : w2.cell? ⟨g4, 0, none⟩ = some (.int .i64 0) := (hb42.cell 0).trans rfl
         have x1 : w2.cell? ⟨g4, 1, none⟩ = some (.int .i64 9223372036854775807) := (hb42.cell 1).trans rfl
         have x2 : w2.cell? ⟨g4, 2, none⟩ = some (.int .i64 0) := (hb42.cell 2).trans rfl
         have x3 : w2.cell? ⟨g4, 3, none⟩ = some (.int .i64 1) := (hb42.cell 3).trans rfl
         have x4 : w2.cell? ⟨g4, 4, none⟩ = some (.int .i64 1) := (hb42.cell 4).trans rfl
         have x5 : w2.cell? ⟨g4, 5, none⟩ = some (.int .i64 64) := (hb42.cell 5).trans rfl
         have x6 : w2.cell? ⟨g4, 6, none⟩ = some (.int .i64 64) := (hb42.cell 6).trans rfl))
    have hcw2 := hcw.out.trans hc2 (fun _ h _ => h)
    go_quiet (fail)
    have hbn := hbr2.drewN nq
    go_wp2_with (first
      | (refine wpList_store_row rfl 116 (.tmp 2) (.tmp 54) rfl (g + 1) _ rfl rfl 116 _ hbn info_rule rfl (by simp [Value.oneCell']) ?_))
    refine bodyPost_ret (results_cell_tmp_row rfl _ _ (g + 1) _ _ _ _ rfl (blk_setRow hbn) Try.underlying116 rfl info_rule) rfl ?_
    refine ⟨rfl, ?_⟩
    exact chg_setRow (hcw2.drewN nq) (.inr (by have := hg.out; omega)) _

set_option maxHeartbeats 1000000 in
set_option maxRecDepth 100000 in
theorem of_over4 (n : Int) (hn0 : 31 < n) (hn1 : n ≤ 9223372036854775807) (A B : Option Addr) (la ca lb cb : Nat) (w : World) (hidx : ∀ w, (Instr.index 119 rulesV (.int .i64 4)).run Try.prog w = .ok (.agg #[.int .i64 0, .int .i64 9223372036854775807, .int .i64 0, .int .i64 1, .int .i64 1, .int .i64 64, .int .i64 64]) w)
    (hby : ∀ W, Chg (fun _ => False) w W → Calls Try.prog 45 #[.agg #[.int .i64 0, .int .i64 9223372036854775807, .int .i64 0, .int .i64 1, .int .i64 1, .int .i64 64, .int .i64 64], .agg #[.int .i64 4, .int .i64 n, .slice A la ca, .slice B lb cb]] W fun r w' => r = .returned (.bool true) ∧ Chg (fun _ => False) W w')
    : Calls Try.prog 43 #[.agg #[.int .i64 4, .int .i64 n, .slice A la ca, .slice B lb cb]] w fun e w' => e = .returned (.tuple #[.agg #[.int .i64 0, .int .i64 0, .int .i64 0, .int .i64 0, .int .i64 0, .int .i64 0, .int .i64 0], .int .i64 12]) ∧ Chg (fun _ => False) w w' := by
  have hby := Lib.hid hby
  have hwq : Chg (fun _ => False) w ((w.alloc (.cells #[.int .i64 4, .int .i64 n, .slice A la ca, .slice B lb cb] 24)).alloc (.cells #[.int .i64 0, .int .i64 0, .int .i64 0, .int .i64 0, .int .i64 0, .int .i64 0, .int .i64 0] 116)) := ((Chg.refl _ _).alloc _).alloc _
  have hst : Blk ((w.alloc (.cells #[.int .i64 4, .int .i64 n, .slice A la ca, .slice B lb cb] 24)).alloc (.cells #[.int .i64 0, .int .i64 0, .int .i64 0, .int .i64 0, .int .i64 0, .int .i64 0, .int .i64 0] 116)) w.heap.size 24 #[.int .i64 4, .int .i64 n, .slice A la ca, .slice B lb cb] := (Blk.new _ _ _).alloc _
  have hre : Blk ((w.alloc (.cells #[.int .i64 4, .int .i64 n, .slice A la ca, .slice B lb cb] 24)).alloc (.cells #[.int .i64 0, .int .i64 0, .int .i64 0, .int .i64 0, .int .i64 0, .int .i64 0, .int .i64 0] 116)) (w.heap.size + 1) 116 #[.int .i64 0, .int .i64 0, .int .i64 0, .int .i64 0, .int .i64 0, .int .i64 0, .int .i64 0] := by
    have := Blk.new (w.alloc (.cells #[.int .i64 4, .int .i64 n, .slice A la ca, .slice B lb cb] 24)) 116 #[.int .i64 0, .int .i64 0, .int .i64 0, .int .i64 0, .int .i64 0, .int .i64 0, .int .i64 0]
    simp only [World.size_alloc] at this
    exact this
  go_enter Try.func43, Try.ntmps43
  go_wp2
  generalize ((w.alloc (.cells #[.int .i64 4, .int .i64 n, .slice A la ca, .slice B lb cb] 24)).alloc (.cells #[.int .i64 0, .int .i64 0, .int .i64 0, .int .i64 0, .int .i64 0, .int .i64 0, .int .i64 0] 116)) = wq at *
  generalize hg : w.heap.size = g at *
  have hg := Lib.hid hg
  have hS1 : ∀ W, Chg (fun _ => False) wq W → W.cell? ⟨g, 0, none⟩ = some (.int .i64 4) ∧ Chg (fun _ => False) wq W := fun W hW => ⟨((hst.chg hW (fun h => h)).cell 0).trans rfl, hW⟩
  have hgq := Nat.le_refl wq.heap.size
  have c0 := Chg.refl (fun _ => False) wq
  have hSq := hS1 wq c0
  go_cut [4] from 13 (fun v4 W => ∃ g4, v4 = .pointer (some ⟨g4, 0, none⟩) ∧ Blk W g4 116 #[.int .i64 0, .int .i64 9223372036854775807, .int .i64 0, .int .i64 1, .int .i64 1, .int .i64 64, .int .i64 64] ∧ Chg (fun _ => False) wq W)
  case first =>
    go_region_held3 (fun W => W.cell? ⟨g, 0, none⟩ = some (.int .i64 4) ∧ Chg (fun _ => False) wq W)
      (first
        | with_reducible exact hS1 _ c0.drew
        | with_reducible exact hS1 _ (c0.alloc _)
        | with_reducible exact hS1 _ (c0.alloc _).drew
        | with_reducible exact hS1 _ (c0.drew.alloc _)
        | with_reducible exact hS1 _ dX
        | with_reducible exact hS1 _ (dX.alloc _)
        | with_reducible exact hS1 _ (of_region_keep dX hgq _ _ _ _ _ _ _))
      (first
        | (go_at_call 44
           refine (rules_val _).mono ?_
           rintro e1 w1 ⟨rfl, hch1⟩
           go_split_ands
           have dX : Chg (fun _ => False) wq w1 := Chg.trans (by assumption) hch1 (fun _ h _ => h)
           first
             | (have hz : Blk w1 wq.heap.size 116 #[.int .i64 0, .int .i64 0, .int .i64 0, .int .i64 0, .int .i64 0, .int .i64 0, .int .i64 0] := by first | exact (Blk.new wq _ _).drew.chg hch1 (fun h => h) | exact (Blk.new wq _ _).chg hch1 (fun h => h)
                have z0 : w1.cell? ⟨wq.heap.size, 0, none⟩ = some (.int .i64 0) := (hz.cell 0).trans rfl
                have z1 : w1.cell? ⟨wq.heap.size, 1, none⟩ = some (.int .i64 0) := (hz.cell 1).trans rfl
                have z2 : w1.cell? ⟨wq.heap.size, 2, none⟩ = some (.int .i64 0) := (hz.cell 2).trans rfl
                have z3 : w1.cell? ⟨wq.heap.size, 3, none⟩ = some (.int .i64 0) := (hz.cell 3).trans rfl
                have z4 : w1.cell? ⟨wq.heap.size, 4, none⟩ = some (.int .i64 0) := (hz.cell 4).trans rfl
                have z5 : w1.cell? ⟨wq.heap.size, 5, none⟩ = some (.int .i64 0) := (hz.cell 5).trans rfl
                have z6 : w1.cell? ⟨wq.heap.size, 6, none⟩ = some (.int .i64 0) := (hz.cell 6).trans rfl
                have zf : ∀ i, w1.frozen? ⟨wq.heap.size, i, none⟩ = false := fun i => hz.frozen i)
             | skip))
    all_goals
      try clear z0 z1 z2 z3 z4 z5 z6 zf
      go_wp2_with fail
      go_meet
      first
        | with_reducible exact ⟨_, rfl, Blk.new w1 _ _, dX.alloc _⟩
        | exact ⟨_, rfl, ((((((hz.set 0 _).set 1 _).set 2 _).set 3 _).set 4 _).set 5 _).set 6 _, of_region_keep dX hgq _ _ _ _ _ _ _⟩
  case rest =>
    obtain ⟨g4, rfl, hb4, hcc⟩ := hcut
    have hcw := Lib.hid (hwq.trans hcc (fun _ h _ => h))
    have hbg := hst.chg hcc (fun h => h)
    have hbr := hre.chg hcc (fun h => h)
    have p0 : wc.cell? ⟨g, 0, none⟩ = some (.int .i64 4) := (hbg.cell 0).trans rfl
    have p1 : wc.cell? ⟨g, 1, none⟩ = some (.int .i64 n) := (hbg.cell 1).trans rfl
    have p2 : wc.cell? ⟨g, 2, none⟩ = some (.slice A la ca) := (hbg.cell 2).trans rfl
    have p3 : wc.cell? ⟨g, 3, none⟩ = some (.slice B lb cb) := (hbg.cell 3).trans rfl
    have y0 : wc.cell? ⟨g + 1, 0, none⟩ = some (.int .i64 0) := (hbr.cell 0).trans rfl
    have yf : ∀ i, wc.frozen? ⟨g + 1, i, none⟩ = false := fun i => hbr.frozen i
    have z0 : wc.cell? ⟨g4, 0, none⟩ = some (.int .i64 0) := (hb4.cell 0).trans rfl
    have z1 : wc.cell? ⟨g4, 1, none⟩ = some (.int .i64 9223372036854775807) := (hb4.cell 1).trans rfl
    have z2 : wc.cell? ⟨g4, 2, none⟩ = some (.int .i64 0) := (hb4.cell 2).trans rfl
    have z3 : wc.cell? ⟨g4, 3, none⟩ = some (.int .i64 1) := (hb4.cell 3).trans rfl
    have z4 : wc.cell? ⟨g4, 4, none⟩ = some (.int .i64 1) := (hb4.cell 4).trans rfl
    have z5 : wc.cell? ⟨g4, 5, none⟩ = some (.int .i64 64) := (hb4.cell 5).trans rfl
    have z6 : wc.cell? ⟨g4, 6, none⟩ = some (.int .i64 64) := (hb4.cell 6).trans rfl
    clear hwq hst hre hS1 hgq c0 hSq hcc
    go_wp2_with (first
      | (go_at_call 45
         refine (hby.out _ (hcw.out)).mono ?_
         rintro e2 w2 ⟨rfl, hc2⟩
         have hb42 := hb4.chg hc2 (fun h => h)
         have hbr2 := hbr.chg hc2 (fun h => h)
         have hbg2 := hbg.chg hc2 (fun h => h)
         have r1 : w2.cell? ⟨g, 1, none⟩ = some (.int .i64 n) := (hbg2.cell 1).trans rfl
         have x0 : w2.cell? ⟨g4, 0, none⟩ = some (.int .i64 0) := (hb42.cell 0).trans rfl
         have x1 : w2.cell? ⟨g4, 1, none⟩ = some (.int .i64 9223372036854775807) := (hb42.cell 1).trans rfl
         have x2 : w2.cell? ⟨g4, 2, none⟩ = some (.int .i64 0) := (hb42.cell 2).trans rfl
         have x3 : w2.cell? ⟨g4, 3, none⟩ = some (.int .i64 1) := (hb42.cell 3).trans rfl
         have x4 : w2.cell? ⟨g4, 4, none⟩ = some (.int .i64 1) := (hb42.cell 4).trans rfl
         have x5 : w2.cell? ⟨g4, 5, none⟩ = some (.int .i64 64) := (hb42.cell 5).trans rfl
         have x6 : w2.cell? ⟨g4, 6, none⟩ = some (.int .i64 64) := (hb42.cell 6).trans rfl))
    have hcw2 := hcw.out.trans hc2 (fun _ h _ => h)
    go_quiet (fail)
    have hbn := hbr2.drewN nq
    go_wp2_with (first
      | (refine wpList_store_row rfl 116 (.tmp 2) (.tmp 53) rfl (g + 1) _ rfl rfl 116 _ hbn info_rule rfl (by simp [Value.oneCell']) ?_))
    refine bodyPost_ret (results_cell_tmp_row rfl _ _ (g + 1) _ _ _ _ rfl (blk_setRow hbn) Try.underlying116 rfl info_rule) rfl ?_
    refine ⟨rfl, ?_⟩
    exact chg_setRow (hcw2.drewN nq) (.inr (by have := hg.out; omega)) _

set_option maxHeartbeats 1000000 in
set_option maxRecDepth 100000 in
theorem of_over14 (n : Int) (hn0 : 14 < n) (hn1 : n ≤ 9223372036854775807) (A B : Option Addr) (la ca lb cb : Nat) (w : World) (hidx : ∀ w, (Instr.index 119 rulesV (.int .i64 14)).run Try.prog w = .ok (.agg #[.int .i64 1, .int .i64 9223372036854775807, .int .i64 3, .int .i64 2, .int .i64 1, .int .i64 192, .int .i64 128]) w)
    (hby : ∀ W, Chg (fun _ => False) w W → Calls Try.prog 45 #[.agg #[.int .i64 1, .int .i64 9223372036854775807, .int .i64 3, .int .i64 2, .int .i64 1, .int .i64 192, .int .i64 128], .agg #[.int .i64 14, .int .i64 n, .slice A la ca, .slice B lb cb]] W fun r w' => r = .returned (.bool true) ∧ Chg (fun _ => False) W w')
    : Calls Try.prog 43 #[.agg #[.int .i64 14, .int .i64 n, .slice A la ca, .slice B lb cb]] w fun e w' => e = .returned (.tuple #[.agg #[.int .i64 0, .int .i64 0, .int .i64 0, .int .i64 0, .int .i64 0, .int .i64 0, .int .i64 0], .int .i64 12]) ∧ Chg (fun _ => False) w w' := by
  have hby := Lib.hid hby
  have hwq : Chg (fun _ => False) w ((w.alloc (.cells #[.int .i64 14, .int .i64 n, .slice A la ca, .slice B lb cb] 24)).alloc (.cells #[.int .i64 0, .int .i64 0, .int .i64 0, .int .i64 0, .int .i64 0, .int .i64 0, .int .i64 0] 116)) := ((Chg.refl _ _).alloc _).alloc _
  have hst : Blk ((w.alloc (.cells #[.int .i64 14, .int .i64 n, .slice A la ca, .slice B lb cb] 24)).alloc (.cells #[.int .i64 0, .int .i64 0, .int .i64 0, .int .i64 0, .int .i64 0, .int .i64 0, .int .i64 0] 116)) w.heap.size 24 #[.int .i64 14, .int .i64 n, .slice A la ca, .slice B lb cb] := (Blk.new _ _ _).alloc _
  have hre : Blk ((w.alloc (.cells #[.int .i64 14, .int .i64 n, .slice A la ca, .slice B lb cb] 24)).alloc (.cells #[.int .i64 0, .int .i64 0, .int .i64 0, .int .i64 0, .int .i64 0, .int .i64 0, .int .i64 0] 116)) (w.heap.size + 1) 116 #[.int .i64 0, .int .i64 0, .int .i64 0, .int .i64 0, .int .i64 0, .int .i64 0, .int .i64 0] := by
    have := Blk.new (w.alloc (.cells #[.int .i64 14, .int .i64 n, .slice A la ca, .slice B lb cb] 24)) 116 #[.int .i64 0, .int .i64 0, .int .i64 0, .int .i64 0, .int .i64 0, .int .i64 0, .int .i64 0]
    simp only [World.size_alloc] at this
    exact this
  go_enter Try.func43, Try.ntmps43
  go_wp2
  generalize ((w.alloc (.cells #[.int .i64 14, .int .i64 n, .slice A la ca, .slice B lb cb] 24)).alloc (.cells #[.int .i64 0, .int .i64 0, .int .i64 0, .int .i64 0, .int .i64 0, .int .i64 0, .int .i64 0] 116)) = wq at *
  generalize hg : w.heap.size = g at *
  have hg := Lib.hid hg
  have hS1 : ∀ W, Chg (fun _ => False) wq W → W.cell? ⟨g, 0, none⟩ = some (.int .i64 14) ∧ Chg (fun _ => False) wq W := fun W hW => ⟨((hst.chg hW (fun h => h)).cell 0).trans rfl, hW⟩
  have hgq := Nat.le_refl wq.heap.size
  have c0 := Chg.refl (fun _ => False) wq
  have hSq := hS1 wq c0
  go_cut [4] from 13 (fun v4 W => ∃ g4, v4 = .pointer (some ⟨g4, 0, none⟩) ∧ Blk W g4 116 #[.int .i64 1, .int .i64 9223372036854775807, .int .i64 3, .int .i64 2, .int .i64 1, .int .i64 192, .int .i64 128] ∧ Chg (fun _ => False) wq W)
  case first =>
    go_region_held3 (fun W => W.cell? ⟨g, 0, none⟩ = some (.int .i64 14) ∧ Chg (fun _ => False) wq W)
      (first
        | with_reducible exact hS1 _ c0.drew
        | with_reducible exact hS1 _ (c0.alloc _)
        | with_reducible exact hS1 _ (c0.alloc _).drew
        | with_reducible exact hS1 _ (c0.drew.alloc _)
        | with_reducible exact hS1 _ dX
        | with_reducible exact hS1 _ (dX.alloc _)
        | with_reducible exact hS1 _ (of_region_keep dX hgq _ _ _ _ _ _ _))
      (first
        | (go_at_call 44
           refine (rules_val _).mono ?_
           rintro e1 w1 ⟨rfl, hch1⟩
           go_split_ands
           have dX : Chg (fun _ => False) wq w1 := Chg.trans (by assumption) hch1 (fun _ h _ => h)
           first
             | (have hz : Blk w1 wq.heap.size 116 #[.int .i64 0, .int .i64 0, .int .i64 0, .int .i64 0, .int .i64 0, .int .i64 0, .int .i64 0] := by first | exact (Blk.new wq _ _).drew.chg hch1 (fun h => h) | exact (Blk.new wq _ _).chg hch1 (fun h => h)
                have z0 : w1.cell? ⟨wq.heap.size, 0, none⟩ = some (.int .i64 0) := (hz.cell 0).trans rfl
                have z1 : w1.cell? ⟨wq.heap.size, 1, none⟩ = some (.int .i64 0) := (hz.cell 1).trans rfl
                have z2 : w1.cell? ⟨wq.heap.size, 2, none⟩ = some (.int .i64 0) := (hz.cell 2).trans rfl
                have z3 : w1.cell? ⟨wq.heap.size, 3, none⟩ = some (.int .i64 0) := (hz.cell 3).trans rfl
                have z4 : w1.cell? ⟨wq.heap.size, 4, none⟩ = some (.int .i64 0) := (hz.cell 4).trans rfl
                have z5 : w1.cell? ⟨wq.heap.size, 5, none⟩ = some (.int .i64 0) := (hz.cell 5).trans rfl
                have z6 : w1.cell? ⟨wq.heap.size, 6, none⟩ = some (.int .i64 0) := (hz.cell 6).trans rfl
                have zf : ∀ i, w1.frozen? ⟨wq.heap.size, i, none⟩ = false := fun i => hz.frozen i)
             | skip))
    all_goals
      try clear z0 z1 z2 z3 z4 z5 z6 zf
      go_wp2_with fail
      go_meet
      first
        | with_reducible exact ⟨_, rfl, Blk.new w1 _ _, dX.alloc _⟩
        | exact ⟨_, rfl, ((((((hz.set 0 _).set 1 _).set 2 _).set 3 _).set 4 _).set 5 _).set 6 _, of_region_keep dX hgq _ _ _ _ _ _ _⟩
  case rest =>
    obtain ⟨g4, rfl, hb4, hcc⟩ := hcut
    have hcw := Lib.hid (hwq.trans hcc (fun _ h _ => h))
    have hbg := hst.chg hcc (fun h => h)
    have hbr := hre.chg hcc (fun h => h)
    have p0 : wc.cell? ⟨g, 0, none⟩ = some (.int .i64 14) := (hbg.cell 0).trans rfl
    have p1 : wc.cell? ⟨g, 1, none⟩ = some (.int .i64 n) := (hbg.cell 1).trans rfl
    have p2 : wc.cell? ⟨g, 2, none⟩ = some (.slice A la ca) := (hbg.cell 2).trans rfl
    have p3 : wc.cell? ⟨g, 3, none⟩ = some (.slice B lb cb) := (hbg.cell 3).trans rfl
    have y0 : wc.cell? ⟨g + 1, 0, none⟩ = some (.int .i64 0) := (hbr.cell 0).trans rfl
    have yf : ∀ i, wc.frozen? ⟨g + 1, i, none⟩ = false := fun i => hbr.frozen i
    have z0 : wc.cell? ⟨g4, 0, none⟩ = some (.int .i64 1) := (hb4.cell 0).trans rfl
    have z1 : wc.cell? ⟨g4, 1, none⟩ = some (.int .i64 9223372036854775807) := (hb4.cell 1).trans rfl
    have z2 : wc.cell? ⟨g4, 2, none⟩ = some (.int .i64 3) := (hb4.cell 2).trans rfl
    have z3 : wc.cell? ⟨g4, 3, none⟩ = some (.int .i64 2) := (hb4.cell 3).trans rfl
    have z4 : wc.cell? ⟨g4, 4, none⟩ = some (.int .i64 1) := (hb4.cell 4).trans rfl
    have z5 : wc.cell? ⟨g4, 5, none⟩ = some (.int .i64 192) := (hb4.cell 5).trans rfl
    have z6 : wc.cell? ⟨g4, 6, none⟩ = some (.int .i64 128) := (hb4.cell 6).trans rfl
    clear hwq hst hre hS1 hgq c0 hSq hcc
    go_wp2_with (first
      | (go_at_call 45
         refine (hby.out _ (hcw.out)).mono ?_
         rintro e2 w2 ⟨rfl, hc2⟩
         have hb42 := hb4.chg hc2 (fun h => h)
         have hbr2 := hbr.chg hc2 (fun h => h)
         have hbg2 := hbg.chg hc2 (fun h => h)
         have r1 : w2.cell? ⟨g, 1, none⟩ = some (.int .i64 n) := (hbg2.cell 1).trans rfl
         have x0 : w2.cell? ⟨g4, 0, none⟩ = some (.int .i64 1) := (hb42.cell 0).trans rfl
         have x1 : w2.cell? ⟨g4, 1, none⟩ = some (.int .i64 9223372036854775807) := (hb42.cell 1).trans rfl
         have x2 : w2.cell? ⟨g4, 2, none⟩ = some (.int .i64 3) := (hb42.cell 2).trans rfl
         have x3 : w2.cell? ⟨g4, 3, none⟩ = some (.int .i64 2) := (hb42.cell 3).trans rfl
         have x4 : w2.cell? ⟨g4, 4, none⟩ = some (.int .i64 1) := (hb42.cell 4).trans rfl
         have x5 : w2.cell? ⟨g4, 5, none⟩ = some (.int .i64 192) := (hb42.cell 5).trans rfl
         have x6 : w2.cell? ⟨g4, 6, none⟩ = some (.int .i64 128) := (hb42.cell 6).trans rfl))
    have hcw2 := hcw.out.trans hc2 (fun _ h _ => h)
    go_quiet (fail)
    have hbn := hbr2.drewN nq
    go_wp2_with (first
      | (refine wpList_store_row rfl 116 (.tmp 2) (.tmp 53) rfl (g + 1) _ rfl rfl 116 _ hbn info_rule rfl (by simp [Value.oneCell']) ?_))
    refine bodyPost_ret (results_cell_tmp_row rfl _ _ (g + 1) _ _ _ _ rfl (blk_setRow hbn) Try.underlying116 rfl info_rule) rfl ?_
    refine ⟨rfl, ?_⟩
    exact chg_setRow (hcw2.drewN nq) (.inr (by have := hg.out; omega)) _

end Go.Proofs.Ytkgmbomfkdkofaa
