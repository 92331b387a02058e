/- params.of at paste and join. -/
import Derived.Test.YtkgmbomfkdkofaaChk
namespace Go.Proofs.Ytkgmbomfkdkofaa
open Go Go.RowKit

set_option maxHeartbeats 1000000 in
set_option maxRecDepth 100000 in
theorem of_13 (n : Int) (hn0 : 1 ≤ n) (hn1 : n ≤ 4) (A B : Option Addr) (la ca lb cb : Nat) (w : World) (hidx : ∀ w, (Instr.index 119 rulesV (.int .i64 13)).run Try.prog w = .ok (.agg #[.int .i64 1, .int .i64 4, .int .i64 3, .int .i64 (-1), .int .i64 1, .int .i64 0, .int .i64 96]) w)
    (hby : ∀ W, Chg (fun _ => False) w W → Calls Try.prog 45 #[.agg #[.int .i64 1, .int .i64 4, .int .i64 3, .int .i64 (-1), .int .i64 1, .int .i64 0, .int .i64 96], .agg #[.int .i64 13, .int .i64 n, .slice A la ca, .slice B lb cb]] W fun r w' => r = .returned (.bool true) ∧ Chg (fun _ => False) W w') :
    Calls Try.prog 43 #[.agg #[.int .i64 13, .int .i64 n, .slice A la ca, .slice B lb cb]] w fun e w' => e = .returned (.tuple #[.agg #[.int .i64 1, .int .i64 4, .int .i64 3, .int .i64 (-1), .int .i64 1, .int .i64 0, .int .i64 96], .int .i64 0]) ∧ Chg (fun _ => False) w w' := by
  have hby := Lib.hid hby
  have hwq : Chg (fun _ => False) w ((w.alloc (.cells #[.int .i64 13, .int .i64 n, .slice A la ca, .slice B lb cb] 24)).alloc (.cells #[.int .i64 0, .int .i64 0, .int .i64 0, .int .i64 0, .int .i64 0, .int .i64 0, .int .i64 0] 116)) := ((Chg.refl _ _).alloc _).alloc _
  have hst : Blk ((w.alloc (.cells #[.int .i64 13, .int .i64 n, .slice A la ca, .slice B lb cb] 24)).alloc (.cells #[.int .i64 0, .int .i64 0, .int .i64 0, .int .i64 0, .int .i64 0, .int .i64 0, .int .i64 0] 116)) w.heap.size 24 #[.int .i64 13, .int .i64 n, .slice A la ca, .slice B lb cb] := (Blk.new _ _ _).alloc _
  have hre : Blk ((w.alloc (.cells #[.int .i64 13, .int .i64 n, .slice A la ca, .slice B lb cb] 24)).alloc (.cells #[.int .i64 0, .int .i64 0, .int .i64 0, .int .i64 0, .int .i64 0, .int .i64 0, .int .i64 0] 116)) (w.heap.size + 1) 116 #[.int .i64 0, .int .i64 0, .int .i64 0, .int .i64 0, .int .i64 0, .int .i64 0, .int .i64 0] := by
    have := Blk.new (w.alloc (.cells #[.int .i64 13, .int .i64 n, .slice A la ca, .slice B lb cb] 24)) 116 #[.int .i64 0, .int .i64 0, .int .i64 0, .int .i64 0, .int .i64 0, .int .i64 0, .int .i64 0]
    simp only [World.size_alloc] at this
    exact this
  go_enter Try.func43, Try.ntmps43
  go_wp2
  generalize ((w.alloc (.cells #[.int .i64 13, .int .i64 n, .slice A la ca, .slice B lb cb] 24)).alloc (.cells #[.int .i64 0, .int .i64 0, .int .i64 0, .int .i64 0, .int .i64 0, .int .i64 0, .int .i64 0] 116)) = wq at *
  generalize hg : w.heap.size = g at *
  have hg := Lib.hid hg
  have hS1 : ∀ W, Chg (fun _ => False) wq W → W.cell? ⟨g, 0, none⟩ = some (.int .i64 13) ∧ Chg (fun _ => False) wq W := fun W hW => ⟨((hst.chg hW (fun h => h)).cell 0).trans rfl, hW⟩
  have hgq := Nat.le_refl wq.heap.size
  have c0 := Chg.refl (fun _ => False) wq
  have hSq := hS1 wq c0
  go_cut [4] from 13 (fun v4 W => ∃ g4, v4 = .pointer (some ⟨g4, 0, none⟩) ∧ Blk W g4 116 #[.int .i64 1, .int .i64 4, .int .i64 3, .int .i64 (-1), .int .i64 1, .int .i64 0, .int .i64 96] ∧ Chg (fun _ => False) wq W)
  case first =>
    go_region_held3 (fun W => W.cell? ⟨g, 0, none⟩ = some (.int .i64 13) ∧ Chg (fun _ => False) wq W)
      (first
        | with_reducible exact hS1 _ c0.drew
        | with_reducible exact hS1 _ (c0.alloc _)
        | with_reducible exact hS1 _ (c0.alloc _).drew
        | with_reducible exact hS1 _ (c0.drew.alloc _)
        | with_reducible exact hS1 _ dX
        | with_reducible exact hS1 _ (dX.alloc _)
        | with_reducible exact hS1 _ (of_region_keep dX hgq _ _ _ _ _ _ _))
      (first
        | (go_at_call 44
           refine (rules_val _).mono ?_
           rintro e1 w1 ⟨rfl, hch1⟩
           go_split_ands
           have dX : Chg (fun _ => False) wq w1 := Chg.trans (by assumption) hch1 (fun _ h _ => h)
           first
             | (have hz : Blk w1 wq.heap.size 116 #[.int .i64 0, .int .i64 0, .int .i64 0, .int .i64 0, .int .i64 0, .int .i64 0, .int .i64 0] := by first | exact (Blk.new wq _ _).drew.chg hch1 (fun h => h) | exact (Blk.new wq _ _).chg hch1 (fun h => h)
                have z0 : w1.cell? ⟨wq.heap.size, 0, none⟩ = some (.int .i64 0) := (hz.cell 0).trans rfl
                have z1 : w1.cell? ⟨wq.heap.size, 1, none⟩ = some (.int .i64 0) := (hz.cell 1).trans rfl
                have z2 : w1.cell? ⟨wq.heap.size, 2, none⟩ = some (.int .i64 0) := (hz.cell 2).trans rfl
                have z3 : w1.cell? ⟨wq.heap.size, 3, none⟩ = some (.int .i64 0) := (hz.cell 3).trans rfl
                have z4 : w1.cell? ⟨wq.heap.size, 4, none⟩ = some (.int .i64 0) := (hz.cell 4).trans rfl
                have z5 : w1.cell? ⟨wq.heap.size, 5, none⟩ = some (.int .i64 0) := (hz.cell 5).trans rfl
                have z6 : w1.cell? ⟨wq.heap.size, 6, none⟩ = some (.int .i64 0) := (hz.cell 6).trans rfl
                have zf : ∀ i, w1.frozen? ⟨wq.heap.size, i, none⟩ = false := fun i => hz.frozen i)
             | skip))
    all_goals
      try clear z0 z1 z2 z3 z4 z5 z6 zf
      go_wp2_with fail
      go_meet
      first
        | with_reducible exact ⟨_, rfl, Blk.new w1 _ _, dX.alloc _⟩
        | exact ⟨_, rfl, ((((((hz.set 0 _).set 1 _).set 2 _).set 3 _).set 4 _).set 5 _).set 6 _, of_region_keep dX hgq _ _ _ _ _ _ _⟩
  case rest =>
    obtain ⟨g4, rfl, hb4, hcc⟩ := hcut
    have hcw := Lib.hid (hwq.trans hcc (fun _ h _ => h))
    have hbg := hst.chg hcc (fun h => h)
    have hbr := hre.chg hcc (fun h => h)
    have p0 : wc.cell? ⟨g, 0, none⟩ = some (.int .i64 13) := (hbg.cell 0).trans rfl
    have p1 : wc.cell? ⟨g, 1, none⟩ = some (.int .i64 n) := (hbg.cell 1).trans rfl
    have p2 : wc.cell? ⟨g, 2, none⟩ = some (.slice A la ca) := (hbg.cell 2).trans rfl
    have p3 : wc.cell? ⟨g, 3, none⟩ = some (.slice B lb cb) := (hbg.cell 3).trans rfl
    have y0 : wc.cell? ⟨g + 1, 0, none⟩ = some (.int .i64 0) := (hbr.cell 0).trans rfl
    have yf : ∀ i, wc.frozen? ⟨g + 1, i, none⟩ = false := fun i => hbr.frozen i
    have z0 : wc.cell? ⟨g4, 0, none⟩ = some (.int .i64 1) := (hb4.cell 0).trans rfl
    have z1 : wc.cell? ⟨g4, 1, none⟩ = some (.int .i64 4) := (hb4.cell 1).trans rfl
    have z2 : wc.cell? ⟨g4, 2, none⟩ = some (.int .i64 3) := (hb4.cell 2).trans rfl
    have z3 : wc.cell? ⟨g4, 3, none⟩ = some (.int .i64 (-1)) := (hb4.cell 3).trans rfl
    have z4 : wc.cell? ⟨g4, 4, none⟩ = some (.int .i64 1) := (hb4.cell 4).trans rfl
    have z5 : wc.cell? ⟨g4, 5, none⟩ = some (.int .i64 0) := (hb4.cell 5).trans rfl
    have z6 : wc.cell? ⟨g4, 6, none⟩ = some (.int .i64 96) := (hb4.cell 6).trans rfl
    clear hwq hst hre hS1 hgq c0 hSq hcc
    go_wp2_with (first
      | (go_at_call 45
         refine (hby.out _ (hcw.out)).mono ?_
         rintro e2 w2 ⟨rfl, hc2⟩
         have hb42 := hb4.chg hc2 (fun h => h)
         have hbr2 := hbr.chg hc2 (fun h => h)
         have hbg2 := hbg.chg hc2 (fun h => h)
         have r1 : w2.cell? ⟨g, 1, none⟩ = some (.int .i64 n) := (hbg2.cell 1).trans rfl
         have x0 : w2.cell? ⟨g4, 0, none⟩ = some (.int .i64 1) := (hb42.cell 0).trans rfl
         have x1 : w2.cell? ⟨g4, 1, none⟩ = some (.int .i64 4) := (hb42.cell 1).trans rfl
         have x2 : w2.cell? ⟨g4, 2, none⟩ = some (.int .i64 3) := (hb42.cell 2).trans rfl
         have x3 : w2.cell? ⟨g4, 3, none⟩ = some (.int .i64 (-1)) := (hb42.cell 3).trans rfl
         have x4 : w2.cell? ⟨g4, 4, none⟩ = some (.int .i64 1) := (hb42.cell 4).trans rfl
         have x5 : w2.cell? ⟨g4, 5, none⟩ = some (.int .i64 0) := (hb42.cell 5).trans rfl
         have x6 : w2.cell? ⟨g4, 6, none⟩ = some (.int .i64 96) := (hb42.cell 6).trans rfl))
    go_quiet (fail)
    have hbn := hbr2.drewN nq
    go_wp2_with (first
      | (refine wpList_store_row rfl 116 (.tmp 2) (.tmp 54) rfl (g + 1) _ rfl rfl 116 _ hbn info_rule rfl (by simp [Value.oneCell']) ?_))
    refine bodyPost_ret (results_cell_tmp_row rfl _ _ (g + 1) _ _ _ _ rfl (blk_setRow hbn) Try.underlying116 rfl info_rule) rfl ?_
    refine ⟨rfl, ?_⟩
    exact chg_setRow (((hcw.out.trans hc2 (fun _ h _ => h))).drewN nq) (.inr (by have := hg.out; omega)) _

set_option maxHeartbeats 1000000 in
set_option maxRecDepth 100000 in
theorem of_14 (n : Int) (hn0 : 1 ≤ n) (hn1 : n ≤ 14) (A B : Option Addr) (la ca lb cb : Nat) (w : World) (hidx : ∀ w, (Instr.index 119 rulesV (.int .i64 14)).run Try.prog w = .ok (.agg #[.int .i64 1, .int .i64 9223372036854775807, .int .i64 3, .int .i64 2, .int .i64 1, .int .i64 192, .int .i64 128]) w)
    (hby : ∀ W, Chg (fun _ => False) w W → Calls Try.prog 45 #[.agg #[.int .i64 1, .int .i64 9223372036854775807, .int .i64 3, .int .i64 2, .int .i64 1, .int .i64 192, .int .i64 128], .agg #[.int .i64 14, .int .i64 n, .slice A la ca, .slice B lb cb]] W fun r w' => r = .returned (.bool true) ∧ Chg (fun _ => False) W w') :
    Calls Try.prog 43 #[.agg #[.int .i64 14, .int .i64 n, .slice A la ca, .slice B lb cb]] w fun e w' => e = .returned (.tuple #[.agg #[.int .i64 1, .int .i64 9223372036854775807, .int .i64 3, .int .i64 2, .int .i64 1, .int .i64 192, .int .i64 128], .int .i64 0]) ∧ Chg (fun _ => False) w w' := by
  have hby := Lib.hid hby
  have hwq : Chg (fun _ => False) w ((w.alloc (.cells #[.int .i64 14, .int .i64 n, .slice A la ca, .slice B lb cb] 24)).alloc (.cells #[.int .i64 0, .int .i64 0, .int .i64 0, .int .i64 0, .int .i64 0, .int .i64 0, .int .i64 0] 116)) := ((Chg.refl _ _).alloc _).alloc _
  have hst : Blk ((w.alloc (.cells #[.int .i64 14, .int .i64 n, .slice A la ca, .slice B lb cb] 24)).alloc (.cells #[.int .i64 0, .int .i64 0, .int .i64 0, .int .i64 0, .int .i64 0, .int .i64 0, .int .i64 0] 116)) w.heap.size 24 #[.int .i64 14, .int .i64 n, .slice A la ca, .slice B lb cb] := (Blk.new _ _ _).alloc _
  have hre : Blk ((w.alloc (.cells #[.int .i64 14, .int .i64 n, .slice A la ca, .slice B lb cb] 24)).alloc (.cells #[.int .i64 0, .int .i64 0, .int .i64 0, .int .i64 0, .int .i64 0, .int .i64 0, .int .i64 0] 116)) (w.heap.size + 1) 116 #[.int .i64 0, .int .i64 0, .int .i64 0, .int .i64 0, .int .i64 0, .int .i64 0, .int .i64 0] := by
    have := Blk.new (w.alloc (.cells #[.int .i64 14, .int .i64 n, .slice A la ca, .slice B lb cb] 24)) 116 #[.int .i64 0, .int .i64 0, .int .i64 0, .int .i64 0, .int .i64 0, .int .i64 0, .int .i64 0]
    simp only [World.size_alloc] at this
    exact this
  go_enter Try.func43, Try.ntmps43
  go_wp2
  generalize ((w.alloc (.cells #[.int .i64 14, .int .i64 n, .slice A la ca, .slice B lb cb] 24)).alloc (.cells #[.int .i64 0, .int .i64 0, .int .i64 0, .int .i64 0, .int .i64 0, .int .i64 0, .int .i64 0] 116)) = wq at *
  generalize hg : w.heap.size = g at *
  have hg := Lib.hid hg
  have hS1 : ∀ W, Chg (fun _ => False) wq W → W.cell? ⟨g, 0, none⟩ = some (.int .i64 14) ∧ Chg (fun _ => False) wq W := fun W hW => ⟨((hst.chg hW (fun h => h)).cell 0).trans rfl, hW⟩
  have hgq := Nat.le_refl wq.heap.size
  have c0 := Chg.refl (fun _ => False) wq
  have hSq := hS1 wq c0
  go_cut [4] from 13 (fun v4 W => ∃ g4, v4 = .pointer (some ⟨g4, 0, none⟩) ∧ Blk W g4 116 #[.int .i64 1, .int .i64 9223372036854775807, .int .i64 3, .int .i64 2, .int .i64 1, .int .i64 192, .int .i64 128] ∧ Chg (fun _ => False) wq W)
  case first =>
    go_region_held3 (fun W => W.cell? ⟨g, 0, none⟩ = some (.int .i64 14) ∧ Chg (fun _ => False) wq W)
      (first
        | with_reducible exact hS1 _ c0.drew
        | with_reducible exact hS1 _ (c0.alloc _)
        | with_reducible exact hS1 _ (c0.alloc _).drew
        | with_reducible exact hS1 _ (c0.drew.alloc _)
        | with_reducible exact hS1 _ dX
        | with_reducible exact hS1 _ (dX.alloc _)
        | with_reducible exact hS1 _ (of_region_keep dX hgq _ _ _ _ _ _ _))
      (first
        | (go_at_call 44
           refine (rules_val _).mono ?_
           rintro e1 w1 ⟨rfl, hch1⟩
           go_split_ands
           have dX : Chg (fun _ => False) wq w1 := Chg.trans (by assumption) hch1 (fun _ h _ => h)
           first
             | (have hz : Blk w1 wq.heap.size 116 #[.int .i64 0, .int .i64 0, .int .i64 0, .int .i64 0, .int .i64 0, .int .i64 0, .int .i64 0] := by first | exact (Blk.new wq _ _).drew.chg hch1 (fun h => h) | exact (Blk.new wq _ _).chg hch1 (fun h => h)
                have z0 : w1.cell? ⟨wq.heap.size, 0, none⟩ = some (.int .i64 0) := (hz.cell 0).trans rfl
                have z1 : w1.cell? ⟨wq.heap.size, 1, none⟩ = some (.int .i64 0) := (hz.cell 1).trans rfl
                have z2 : w1.cell? ⟨wq.heap.size, 2, none⟩ = some (.int .i64 0) := (hz.cell 2).trans rfl
                have z3 : w1.cell? ⟨wq.heap.size, 3, none⟩ = some (.int .i64 0) := (hz.cell 3).trans rfl
                have z4 : w1.cell? ⟨wq.heap.size, 4, none⟩ = some (.int .i64 0) := (hz.cell 4).trans rfl
                have z5 : w1.cell? ⟨wq.heap.size, 5, none⟩ = some (.int .i64 0) := (hz.cell 5).trans rfl
                have z6 : w1.cell? ⟨wq.heap.size, 6, none⟩ = some (.int .i64 0) := (hz.cell 6).trans rfl
                have zf : ∀ i, w1.frozen? ⟨wq.heap.size, i, none⟩ = false := fun i => hz.frozen i)
             | skip))
    all_goals
      try clear z0 z1 z2 z3 z4 z5 z6 zf
      go_wp2_with fail
      go_meet
      first
        | with_reducible exact ⟨_, rfl, Blk.new w1 _ _, dX.alloc _⟩
        | exact ⟨_, rfl, ((((((hz.set 0 _).set 1 _).set 2 _).set 3 _).set 4 _).set 5 _).set 6 _, of_region_keep dX hgq _ _ _ _ _ _ _⟩
  case rest =>
    obtain ⟨g4, rfl, hb4, hcc⟩ := hcut
    have hcw := Lib.hid (hwq.trans hcc (fun _ h _ => h))
    have hbg := hst.chg hcc (fun h => h)
    have hbr := hre.chg hcc (fun h => h)
    have p0 : wc.cell? ⟨g, 0, none⟩ = some (.int .i64 14) := (hbg.cell 0).trans rfl
    have p1 : wc.cell? ⟨g, 1, none⟩ = some (.int .i64 n) := (hbg.cell 1).trans rfl
    have p2 : wc.cell? ⟨g, 2, none⟩ = some (.slice A la ca) := (hbg.cell 2).trans rfl
    have p3 : wc.cell? ⟨g, 3, none⟩ = some (.slice B lb cb) := (hbg.cell 3).trans rfl
    have y0 : wc.cell? ⟨g + 1, 0, none⟩ = some (.int .i64 0) := (hbr.cell 0).trans rfl
    have yf : ∀ i, wc.frozen? ⟨g + 1, i, none⟩ = false := fun i => hbr.frozen i
    have z0 : wc.cell? ⟨g4, 0, none⟩ = some (.int .i64 1) := (hb4.cell 0).trans rfl
    have z1 : wc.cell? ⟨g4, 1, none⟩ = some (.int .i64 9223372036854775807) := (hb4.cell 1).trans rfl
    have z2 : wc.cell? ⟨g4, 2, none⟩ = some (.int .i64 3) := (hb4.cell 2).trans rfl
    have z3 : wc.cell? ⟨g4, 3, none⟩ = some (.int .i64 2) := (hb4.cell 3).trans rfl
    have z4 : wc.cell? ⟨g4, 4, none⟩ = some (.int .i64 1) := (hb4.cell 4).trans rfl
    have z5 : wc.cell? ⟨g4, 5, none⟩ = some (.int .i64 192) := (hb4.cell 5).trans rfl
    have z6 : wc.cell? ⟨g4, 6, none⟩ = some (.int .i64 128) := (hb4.cell 6).trans rfl
    clear hwq hst hre hS1 hgq c0 hSq hcc
    go_wp2_with (first
      | (go_at_call 45
         refine (hby.out _ (hcw.out)).mono ?_
         rintro e2 w2 ⟨rfl, hc2⟩
         have hb42 := hb4.chg hc2 (fun h => h)
         have hbr2 := hbr.chg hc2 (fun h => h)
         have hbg2 := hbg.chg hc2 (fun h => h)
         have r1 : w2.cell? ⟨g, 1, none⟩ = some (.int .i64 n) := (hbg2.cell 1).trans rfl
         have x0 : w2.cell? ⟨g4, 0, none⟩ = some (.int .i64 1) := (hb42.cell 0).trans rfl
         have x1 : w2.cell? ⟨g4, 1, none⟩ = some (.int .i64 9223372036854775807) := (hb42.cell 1).trans rfl
         have x2 : w2.cell? ⟨g4, 2, none⟩ = some (.int .i64 3) := (hb42.cell 2).trans rfl
         have x3 : w2.cell? ⟨g4, 3, none⟩ = some (.int .i64 2) := (hb42.cell 3).trans rfl
         have x4 : w2.cell? ⟨g4, 4, none⟩ = some (.int .i64 1) := (hb42.cell 4).trans rfl
         have x5 : w2.cell? ⟨g4, 5, none⟩ = some (.int .i64 192) := (hb42.cell 5).trans rfl
         have x6 : w2.cell? ⟨g4, 6, none⟩ = some (.int .i64 128) := (hb42.cell 6).trans rfl))
    go_quiet (fail)
    have hbn := hbr2.drewN nq
    go_wp2_with (first
      | (refine wpList_store_row rfl 116 (.tmp 2) (.tmp 54) rfl (g + 1) _ rfl rfl 116 _ hbn info_rule rfl (by simp [Value.oneCell']) ?_))
    refine bodyPost_ret (results_cell_tmp_row rfl _ _ (g + 1) _ _ _ _ rfl (blk_setRow hbn) Try.underlying116 rfl info_rule) rfl ?_
    refine ⟨rfl, ?_⟩
    exact chg_setRow (((hcw.out.trans hc2 (fun _ h _ => h))).drewN nq) (.inr (by have := hg.out; omega)) _

end Go.Proofs.Ytkgmbomfkdkofaa

/- filter.Check of parameters that may be. -/
namespace Go.Proofs.Ytkgmbomfkdkofaa
open Go Go.RowKit

def OfOk (w : World) (e : Ending) (w' : World) : Prop := ∃ a0 a1 a2 a3 a4 a5 a6 : Int, e = .returned (.tuple #[.agg #[.int .i64 a0, .int .i64 a1, .int .i64 a2, .int .i64 a3, .int .i64 a4, .int .i64 a5, .int .i64 a6], .int .i64 0]) ∧ Chg (fun _ => False) w w'

theorem holds_of {p : Prm} (h : refCheck p = 0) : refHolds p ≤ 2048 := by
  unfold refCheck at h
  split at h
  · cases h
  · split at h
    · cases h
    · split at h
      · cases h
      · omega

theorem of_ok (D : Nat → Prop) (p : Prm) (hp : refCheck p = 0) (hk : p.kind = 8 ∨ p.kind = 9 ∨ p.kind = 10 ∨ p.kind = 12 ∨ p.kind = 13 ∨ p.kind = 14 ∨ p.kind = 15 ∨ p.kind = 16) (v : Value) (w : World) (h : PAt w D v p) :
    Calls Try.prog 43 #[v] w (OfOk w) := by
  obtain ⟨A, ca, B, cb, rfl, hA, hB⟩ := h
  obtain ⟨kind, n, a, b⟩ := p
  dsimp only at *
  have hr := refRow_of hp
  have hh := holds_of hp
  have hz : ∀ (c : Bs), ze c = true → c.length = 0 := fun c hc => by unfold ze at hc; simpa using hc
  have hbare : ∀ l m x i o hs e, ((ze a && ze b) = true) → ∀ W : World, Calls Try.prog 45 #[.agg #[.int .i64 l, .int .i64 m, .int .i64 0, .int .i64 i, .int .i64 o, .int .i64 hs, .int .i64 e], .agg #[.int .i64 x, .int .i64 n, .slice A a.length ca, .slice B b.length cb]] W fun r w' => r = .returned (.bool true) ∧ Chg (fun _ => False) W w' := fun l m x i o hs e hze W => by
    simp only [Bool.and_eq_true] at hze
    rw [hz a hze.1, hz b hze.2]
    exact bytes_bare _ _ _ _ _ _ _ _ _ _ _ _ _
  have hpart : ∀ l m x i o hs e, ((ze b && oneB a) = true) → ∀ W : World, Chg (fun _ => False) w W → Calls Try.prog 45 #[.agg #[.int .i64 l, .int .i64 m, .int .i64 3, .int .i64 i, .int .i64 o, .int .i64 hs, .int .i64 e], .agg #[.int .i64 x, .int .i64 n, .slice A a.length ca, .slice B b.length cb]] W fun r w' => r = .returned (.bool true) ∧ Chg (fun _ => False) W w' := fun l m x i o hs e hze W hW => by
    simp only [Bool.and_eq_true] at hze
    have h1 := hze.2
    unfold oneB at h1
    simp only [decide_eq_true_eq] at h1
    obtain ⟨c, rfl⟩ := List.length_eq_one_iff.1 h1.1
    rw [hz b hze.1]
    exact bytes_part D _ _ _ _ _ _ _ _ _ _ _ _ c (fun e => h1.2 (by rw [e])) W (hA.chg hW (fun _ _ _ h => h))
  have hfin : ∀ a0 a1 a2 a3 a4 a5 a6 : Int, Calls Try.prog 43 #[.agg #[.int .i64 kind, .int .i64 n, .slice A a.length ca, .slice B b.length cb]] w (fun e w' => e = .returned (.tuple #[.agg #[.int .i64 a0, .int .i64 a1, .int .i64 a2, .int .i64 a3, .int .i64 a4, .int .i64 a5, .int .i64 a6], .int .i64 0]) ∧ Chg (fun _ => False) w w') → Calls Try.prog 43 #[.agg #[.int .i64 kind, .int .i64 n, .slice A a.length ca, .slice B b.length cb]] w (OfOk w) := fun _ _ _ _ _ _ _ h => h.mono fun e w' h => ⟨_, _, _, _, _, _, _, h⟩
  rcases hk with rfl | rfl | rfl | rfl | rfl | rfl | rfl | rfl
  · simp [refRow, wi] at hr
    exact hfin _ _ _ _ _ _ _ (of_flat 8 n 0 1 0 1 1 128 (by omega) (by omega) (by omega) (by omega) A B _ ca _ cb w (fun _ => by kernel_rfl) (fun W _ => hbare _ _ _ _ _ _ _ (by simp [hr]) W))
  · simp [refRow] at hr
    exact hfin _ _ _ _ _ _ _ (of_flat 9 n 0 0 0 1 1 0 (by omega) (by omega) (by omega) (by omega) A B _ ca _ cb w (fun _ => by kernel_rfl) (fun W _ => hbare _ _ _ _ _ _ _ (by simp [hr]) W))
  · simp [refRow, wi] at hr
    exact hfin _ _ _ _ _ _ _ (of_flat 10 n 0 1000000000 0 1 1 64 (by omega) (by omega) (by omega) (by omega) A B _ ca _ cb w (fun _ => by kernel_rfl) (fun W _ => hbare _ _ _ _ _ _ _ (by simp [hr]) W))
  · simp [refRow, wi] at hr
    exact hfin _ _ _ _ _ _ _ (of_flat 12 n 1 4 0 (-1) 1 0 (by omega) (by omega) (by omega) (by omega) A B _ ca _ cb w (fun _ => by kernel_rfl) (fun W _ => hbare _ _ _ _ _ _ _ (by simp [hr]) W))
  · simp [refRow, wi] at hr
    exact hfin _ _ _ _ _ _ _ (of_13 n (by omega) (by omega) A B _ ca _ cb w (fun _ => by kernel_rfl) (fun W hW => hpart _ _ _ _ _ _ _ (by simp [hr]) W hW))
  · simp [refRow] at hr
    have h14 : n ≤ 14 := by
      unfold refHolds at hh
      dsimp only at hh
      split at hh
      · omega
      · simp at hh; omega
    exact hfin _ _ _ _ _ _ _ (of_14 n (by omega) (by omega) A B _ ca _ cb w (fun _ => by kernel_rfl) (fun W hW => hpart _ _ _ _ _ _ _ (by simp [hr]) W hW))
  · simp [refRow, wi] at hr
    exact hfin _ _ _ _ _ _ _ (of_flat 15 n 1 4 0 1 (-1) 0 (by omega) (by omega) (by omega) (by omega) A B _ ca _ cb w (fun _ => by kernel_rfl) (fun W _ => hbare _ _ _ _ _ _ _ (by simp [hr]) W))
  · simp [refRow, wi] at hr
    exact hfin _ _ _ _ _ _ _ (of_flat 16 n 1 4 0 1 (-1) 64 (by omega) (by omega) (by omega) (by omega) A B _ ca _ cb w (fun _ => by kernel_rfl) (fun W _ => hbare _ _ _ _ _ _ _ (by simp [hr]) W))

def OkPost (w : World) (e : Ending) (w' : World) : Prop := e = .returned (.int .i64 0) ∧ Chg (fun _ => False) w w'

set_option maxRecDepth 100000 in
theorem pcheck_ok (D : Nat → Prop) (p : Prm) (hp : refCheck p = 0) (hk : p.kind = 8 ∨ p.kind = 9 ∨ p.kind = 10 ∨ p.kind = 12 ∨ p.kind = 13 ∨ p.kind = 14 ∨ p.kind = 15 ∨ p.kind = 16) (v : Value) (w : World) (h : PAt w D v p) :
    Calls Try.prog 42 #[v] w (OkPost w) := by
  have ho := fun (W : World) (hW : Chg (fun _ => False) w W) => of_ok D p hp hk v W (h.chg hW (fun _ _ _ h => h))
  have ho := Lib.hid ho
  obtain ⟨A, ca, B, cb, rfl, hA, hB⟩ := h
  clear hA hB hp hk
  go_enter Try.func42, Try.ntmps42
  go_wp2_with (first
    | (go_at_call 43
       refine (ho.out _ ((Chg.refl _ _).alloc _)).mono ?_
       rintro e1 w1 ⟨a0, a1, a2, a3, a4, a5, a6, rfl, hc1⟩))
  go_ret
  exact ⟨rfl, (((Chg.refl _ _).alloc _).trans hc1 (fun _ h _ => h)).alloc _⟩

set_option maxRecDepth 100000 in
theorem fcheck_ok (D : Nat → Prop) (p : Prm) (hp : refCheck p = 0) (hk : p.kind = 8 ∨ p.kind = 9 ∨ p.kind = 10 ∨ p.kind = 12 ∨ p.kind = 13 ∨ p.kind = 14 ∨ p.kind = 15 ∨ p.kind = 16) (v : Value) (w : World) (h : PAt w D v p) :
    Calls Try.prog 28 #[v, .int .i64 p.kind] w (OkPost w) := by
  have ho := fun (W : World) (hW : Chg (fun _ => False) w W) => pcheck_ok D p hp hk v W (h.chg hW (fun _ _ _ h => h))
  have ho := Lib.hid ho
  obtain ⟨A, ca, B, cb, rfl, hA, hB⟩ := h
  have hst : Blk (w.alloc (.cells #[.int .i64 p.kind, .int .i64 p.n, .slice A p.a.length ca, .slice B p.b.length cb] 24)) w.heap.size 24 #[.int .i64 p.kind, .int .i64 p.n, .slice A p.a.length ca, .slice B p.b.length cb] := Blk.new _ _ _
  clear hA hB hp hk
  go_enter Try.func28, Try.ntmps28
  go_wp2_with (first
    | (go_at_call 42
       refine (ho.out _ ((Chg.refl _ _).alloc _)).mono ?_
       rintro e1 w1 ⟨rfl, hc1⟩
       have q0 : w1.cell? ⟨w.heap.size, 0, none⟩ = some (.int .i64 p.kind) := ((hst.chg hc1 (fun h => h)).cell 0).trans rfl))
  go_ret
  exact ⟨rfl, ((Chg.refl _ _).alloc _).trans hc1 (fun _ h _ => h)⟩
end Go.Proofs.Ytkgmbomfkdkofaa
