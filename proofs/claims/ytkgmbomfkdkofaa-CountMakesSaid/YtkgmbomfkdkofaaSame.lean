/- The contracts of penstocklaw04.Same and Begins, where they hold. -/
import Derived.Test.YtkgmbomfkdkofaaStrm
import Derived.Deep.RegionHeld3
import Derived.Deep.DrawnRows
import Derived.BigQuiet
import Derived.Outline
namespace Go.Proofs.Ytkgmbomfkdkofaa
open Go Go.RowKit

/-- string(b), whatever the slice. -/
theorem conv_rd (w : World) (D : Nat → Prop) (A : Option Addr) (b : Bs) (c : Nat) (h : Rd w D 1 A b.length (u8s b)) :
    (convert 22 9 (.slice A b.length c)).run Try.prog w = .ok (strv b) w := by
  rcases Nat.eq_zero_or_pos b.length with h0 | hp
  · have hb : b = [] := List.eq_nil_of_length_eq_zero h0
    subst hb
    cases A with
    | none => exact run_convert_bytes_nil w 22 5 Try.underlying22 Try.underlying5 0 c 9 Try.underlying9
    | some ad =>
      rw [run_convert_bytes_string w 22 9 5 _ _ c Try.underlying22 Try.underlying5 Try.underlying9]
      exact run_bytesToString w ad 0 c [] (by simp [loadCells, loadCellsFrom])
  · obtain ⟨g, o, rfl, _, _, hc⟩ := h.2 hp
    exact conv_str g o c b (fun i x hx => hc i _ (u8s_at hx))

theorem strs_bs {w : World} {D : Nat → Prop} {A : Option Addr} {n c : Nat} {l : List Strm} (h : StrmsAt w D (.slice A n c) l) {k : Nat} (hk : k < l.length) :
    n = l.length ∧ ∃ g o A2 c2, A = some ⟨g, o, none⟩ ∧ g < w.heap.size ∧ D g ∧ w.cell? ⟨g, o + k * 5, none⟩ = some (.slice A2 l[k].bs.length c2) ∧ Rd w D 1 A2 l[k].bs.length (u8s l[k].bs) := by
  obtain ⟨h1, g, o, A2, c2, h2, h3, h4, h5, _, _, _, _, h6, _⟩ := h.at_ hk
  exact ⟨h1, g, o, A2, c2, h2, h3, h4, h5, h6⟩

/-- An answer, and nothing of what was there has changed. -/
def TruePost (w : World) (e : Ending) (w' : World) : Prop := e = .returned (.bool true) ∧ Chg (fun _ => False) w w'

/-- What Same knows of a stream that is wanted. -/
def WOk (need err : Int) (ins : List Strm) (x : Strm) : Prop :=
  (x.ended = true ∧ need = -1 ∧ err = 0) ∨ (x.ended = false ∧ need = -1 ∧ err = x.code ∧ err ≠ 0) ∨
    (x.ended = false ∧ err = 0 ∧ ∃ k : Nat, need = (k : Int) ∧ ∃ h : k < ins.length, x.code = ins[k].code ∧ x.stage = ins[k].stage ∧ x.id = ins[k].id)

theorem out_at (outs : Nat → Bs) (need err held : Int) (taken : Nat → Nat) (bad : Bool) (k : Nat) (hk : k < 4) : (gotC outs need err held taken bad)[k]? = some (strv (outs k)) := by
  obtain rfl | rfl | rfl | rfl : k = 0 ∨ k = 1 ∨ k = 2 ∨ k = 3 := by omega
  all_goals rfl

def SameRel (W : World) (g : Nat) (gc : Array Value) (wr : World) : Prop := Blk wr g 42 gc ∧ Chg (fun _ => False) W wr

set_option maxHeartbeats 2000000 in
set_option maxRecDepth 100000 in
theorem same_any (D : Nat → Prop) (outs : Nat → Bs) (need err held : Int) (taken : Nat → Nat) (ins want : List Strm) (A C : Option Addr) (ca cc : Nat) (w : World)
    (hins : StrmsAt w D (.slice A ins.length ca) ins) (hwant : StrmsAt w D (.slice C want.length cc) want) (hwl : want.length ≤ 100)
    (h1 : ∀ i, i < 4 → outs i = ((want[i]?).map Strm.bs).getD []) (h2 : ∀ x ∈ want, WOk need err ins x) :
    Calls Try.prog 19 #[.agg (gotC outs need err held taken false), .slice A ins.length ca, .slice C want.length cc] w (TruePost w) := by
  generalize hg : w.heap.size = g
  have hst : Blk (w.alloc (.cells (gotC outs need err held taken false) 42)) g 42 (gotC outs need err held taken false) := by rw [← hg]; exact Blk.new _ _ _
  have hc0 : Chg (fun _ => False) w (w.alloc (.cells (gotC outs need err held taken false) 42)) := (Chg.refl _ _).alloc _
  have hbad : (w.alloc (.cells (gotC outs need err held taken false) 42)).cell? ⟨g, 11, none⟩ = some (.bool false) := (hst.cell 11).trans rfl
  go_enter Try.func19, Try.ntmps19
  go_wp2
  go_loopw [7] (fun i wr => ∃ k : Nat, k ≤ 4 ∧ i = .int .i64 k ∧ SameRel w g (gotC outs need err held taken false) wr) (fun i _ => 4 - (intOf i).toNat)
  case atStart => exact ⟨0, by omega, rfl, hst, hc0⟩
  case round =>
    obtain ⟨k, hk, rfl, hb, hch⟩ := hrel
    by_cases hlt : k < 4
    · have hout : wr.cell? ⟨g, k, none⟩ = some (strv (outs k)) := (hb.cell k).trans (out_at _ _ _ _ _ _ k hlt)
      have e1 := h1 k hlt
      clear hst hc0 hbad h1 h2
      by_cases hw : k < want.length
      · obtain ⟨_, g2, o2, A2, c2, rfl, hg2, _, q1, hr⟩ := strs_bs hwant hw
        rw [List.getElem?_eq_getElem hw] at e1
        simp only [Option.map_some, Option.getD_some] at e1
        rw [e1] at hout
        have q1' : wr.cell? ⟨g2, o2 + k * 5, none⟩ = some (.slice A2 want[k].bs.length c2) := (hch.cell (p := ⟨g2, o2 + k * 5, none⟩) hg2 (fun h => h)).trans q1
        have hcv := conv_rd wr D A2 want[k].bs c2 (hr.chg hch (fun _ _ _ h => h))
        generalize want[k].bs = b at *
        have hw' : (k : Int) < (want.length : Int) := by omega
        have hlt' : (k : Int) < 4 := by omega
        have hk0 : (0 : Int) ≤ (k : Int) := by omega
        have hxx := Lib.hid e1
        clear q1 hr e1
        go_wp2
        go_roundw
        case rel => exact ⟨k + 1, by omega, by go_num, hb, hch⟩
        case measure => simp [intOf]; omega
      · rw [List.getElem?_eq_none (by omega)] at e1
        simp only [Option.map_none, Option.getD_none] at e1
        rw [e1] at hout
        have hw' : ¬ (k : Int) < (want.length : Int) := by omega
        have hlt' : (k : Int) < 4 := by omega
        have hk0 : (0 : Int) ≤ (k : Int) := by omega
        have hxx := Lib.hid e1
        clear e1
        go_wp2
        go_roundw
        case rel => exact ⟨k + 1, by omega, by go_num, hb, hch⟩
        case measure => simp [intOf]; omega
    · have hlt' : ¬ (k : Int) < 4 := by omega
      clear hst hc0 hbad h1
      go_wp2
      go_loopw [9] (fun i wr => ∃ k : Nat, k ≤ want.length ∧ i = .int .i64 k ∧ SameRel w g (gotC outs need err held taken false) wr) (fun i _ => want.length - (intOf i).toNat)
      case atStart => exact ⟨0, by omega, rfl, hb, hch⟩
      case round =>
        clear hb hch
        obtain ⟨m, hm, rfl, hb, hch⟩ := hrel
        by_cases hw : m < want.length
        · obtain ⟨z0, g2, o2, A2, c2, rfl, hg2, z1, q0, q1, q2, q3, q4, z2, z3⟩ := hwant.at_ hw
          clear z0 z1 z2 z3
          have x2 := h2 _ (List.getElem_mem hw)
          have p0 := (hch.cell (p := ⟨g2, o2 + m * 5, none⟩) hg2 (fun h => h)).trans q0
          have p1 := (hch.cell (p := ⟨g2, o2 + m * 5 + 1, none⟩) hg2 (fun h => h)).trans q1
          have p2 := (hch.cell (p := ⟨g2, o2 + m * 5 + 2, none⟩) hg2 (fun h => h)).trans q2
          have p3 := (hch.cell (p := ⟨g2, o2 + m * 5 + 3, none⟩) hg2 (fun h => h)).trans q3
          have p4 := (hch.cell (p := ⟨g2, o2 + m * 5 + 4, none⟩) hg2 (fun h => h)).trans q4
          have c4 : wr.cell? ⟨g, 4, none⟩ = some (.int .i64 need) := (hb.cell 4).trans rfl
          have c5 : wr.cell? ⟨g, 5, none⟩ = some (.int .i64 err) := (hb.cell 5).trans rfl
          have hw' : (m : Int) < (want.length : Int) := by omega
          have hk0 : (0 : Int) ≤ (m : Int) := by omega
          generalize want[m] = x at *
          clear h2 q0 q1 q2 q3 q4 hwant
          have hgl := hb.lt
          rcases x2 with ⟨h1, h2, h3⟩ | ⟨h1, h2, h3, h4⟩ | ⟨h1, h2, k2, h3, h4, h5, h6, h7⟩
          · rw [h1] at p1
            rw [h2] at c4
            rw [h3] at c5
            clear h1 h2 h3
            go_wp2
            go_roundw
            case rel => exact ⟨m + 1, by omega, by go_num, hb.alloc _, hch.alloc _⟩
            case measure => simp [intOf]; omega
          · rw [h1] at p1
            rw [h2] at c4
            rw [h3] at c5
            have t1 : (x.code == 0) = false := by rw [beq_eq_false_iff_ne]; rw [← h3]; exact h4
            clear h1 h2 h3 h4
            go_wp2
            go_roundw
            case rel => exact ⟨m + 1, by omega, by go_num, hb.alloc _, hch.alloc _⟩
            case measure => simp [intOf]; omega
          · obtain ⟨z0, g3, o3, A3, c3, hA, hg3, z1, z2, z3, q2, q3, q4, z4, z5⟩ := hins.at_ h4
            clear z0 z1 z2 z3 z4 z5
            have r2 := (hch.cell (p := ⟨g3, o3 + k2 * 5 + 2, none⟩) hg3 (fun h => h)).trans q2
            have r3 := (hch.cell (p := ⟨g3, o3 + k2 * 5 + 3, none⟩) hg3 (fun h => h)).trans q3
            have r4 := (hch.cell (p := ⟨g3, o3 + k2 * 5 + 4, none⟩) hg3 (fun h => h)).trans q4
            rw [← h5] at r2
            rw [← h6] at r3
            rw [← h7] at r4
            subst hA
            rw [h1] at p1
            rw [h3] at c4
            rw [h2] at c5
            have hk2 : (k2 : Int) < (ins.length : Int) := by omega
            have hk20 : (0 : Int) ≤ (k2 : Int) := by omega
            have hk21 : ¬ (k2 : Int) < 0 := by omega
            have hk22 : ¬ (ins.length : Int) ≤ (k2 : Int) := by omega
            have hk23 : decide ((ins.length : Int) ≤ (k2 : Int)) = false := decide_eq_false hk22
            have hk24 : decide (ins.length ≤ k2) = false := decide_eq_false (by omega)
            have hgl2 : g2 < wr.heap.size := by have := hch.size; omega
            have hgl3 : g3 < wr.heap.size := by have := hch.size; omega
            have hb' := hb.alloc (.cells #[.slice A2 x.bs.length c2, .bool false, .int .i64 x.code, .int .i64 x.stage, .int .i64 x.id] 64)
            have hch' := hch.alloc (.cells #[.slice A2 x.bs.length c2, .bool false, .int .i64 x.code, .int .i64 x.stage, .int .i64 x.id] 64)
            clear h1 h2 h3 h4 h5 h6 h7 hins q2 q3 q4
            go_wp2
            go_quiet (fail)
            go_wp2
            go_roundw
            case rel => exact ⟨m + 1, by omega, by go_num, hb'.drewN _, hch'.drewN _⟩
            case measure => simp [intOf]; omega
        · have hw' : ¬ (m : Int) < (want.length : Int) := by omega
          clear h2
          go_wp2
          go_ret
          exact ⟨rfl, hch⟩

end Go.Proofs.Ytkgmbomfkdkofaa
