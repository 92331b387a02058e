/- slices.Sort at []byte: partitionEqualOrdered computes what the plain function says (written by genpart.py). -/
import Derived.Test.YtkgmbomfkdkofaaSortA
import Derived.Sort.WalkC
import Derived.Sort.WalkC4
namespace Go.Proofs.Ytkgmbomfkdkofaa
open Go Go.RowKit Go.Sort

/-- A place is answered, the row holds d', and nothing else has changed. -/
def PartPost (blk off : Nat) (r : Nat × Array Int) (w : World) (e : Ending) (w' : World) : Prop := e = .returned (.int .i64 r.1) ∧ Holds e8 w' blk off r.2 ∧ Chg (fun k => k = blk) w w'

set_option maxHeartbeats 6400000 in
set_option maxRecDepth 100000 in
theorem partEq8 (blk off cap a b pivot : Nat) (d : Array Int) (w : World) (hH : Holds e8 w blk off d) (hap : a ≤ pivot) (hpb : pivot < b) (hb : b ≤ d.size) (hsz : d.size < 1000000) :
    Calls Try.prog 60 #[.slice (some ⟨blk, off, none⟩) d.size cap, .int .i64 a, .int .i64 b, .int .i64 pivot] w (PartPost blk off (Sort.partitionEqual ltInt d a b pivot) w) := by
  have hla : a < d.size := by omega
  have hlp : pivot < d.size := by omega
  obtain ⟨G0, hG0⟩ : ∃ G0 : Nat → Int, ∀ t, G0 t = d[t]! := ⟨fun t => d[t]!, fun _ => rfl⟩
  have ca : w.cell? ⟨blk, off + a, none⟩ = some (.int .u8 (G0 a)) := by rw [hG0]; exact (hH a hla).1
  have fa := (hH a hla).2
  have cp : w.cell? ⟨blk, off + pivot, none⟩ = some (.int .u8 (G0 pivot)) := by rw [hG0]; exact (hH pivot hlp).1
  have fp := (hH pivot hlp).2
  obtain ⟨v', hy'⟩ := cell?_setCell_some (w := w) (p := ⟨blk, off + a, none⟩) (x := .int .u8 (G0 pivot)) (q := ⟨blk, off + pivot, none⟩) cp
  have hsw := holds_swp8 hH (j := a) (k := pivot) hla hlp
  rw [← hG0, ← hG0] at hsw
  replace hsw := Lib.hid hsw
  replace hG0 := Lib.hid hG0
  replace hH := Lib.hid hH
  go_enter Try.func60, Try.ntmps60
  go_wp2
  go_region
  go_wp2
  go_loopw [9, 10] (fun vi vj wr => ∃ (i j : Nat) (dk : Array Int), vi = .int .i64 i ∧ vj = .int .i64 j ∧ a < i ∧ i ≤ j + 1 ∧ j < b ∧ dk.size = d.size ∧ Holds e8 wr blk off dk ∧ Chg (fun k => k = blk) w wr ∧
      Hid (partEqLoop ltInt a i j dk = partEqLoop ltInt a (a + 1) (b - 1) (swp d a pivot))) (fun vi vj _ => (intOf vj).toNat + 1 - (intOf vi).toNat)
  case atStart => exact ⟨a + 1, b - 1, swp d a pivot, by go_num, by go_num, by omega, by omega, by omega, size_swp _ _ _, holds_drewN8 hsw.out _, ((((Chg.refl (fun k => k = blk) w).setCell (p := ⟨blk, _, none⟩) (.inl rfl) _).setCell (p := ⟨blk, _, none⟩) (.inl rfl) _).drewN _), Lib.hid rfl⟩
  case round =>
    clear ca fa cp fp hy' hsw hG0 hH v'
    obtain ⟨i, j, dk, rfl, rfl, hai, hij, hjb, hds, HH1, ch1, HO⟩ := hrel
    obtain ⟨G, hG⟩ : ∃ G : Nat → Int, ∀ t, G t = dk[t]! := ⟨fun t => dk[t]!, fun _ => rfl⟩
    replace hG := Lib.hid hG
    go_wp2
    go_loopw [9] (fun vi w1 => ∃ i' : Nat, vi = .int .i64 i' ∧ i ≤ i' ∧ i' ≤ j + 1 ∧ (Holds e8 w1 blk off dk ∧ Chg (fun k => k = blk) w w1) ∧ Hid (scanUp (fun x => !ltInt dk[a]! x) dk j i' = scanUp (fun x => !ltInt dk[a]! x) dk j i)) (fun vi _ => j + 1 - (intOf vi).toNat)
    case atStart => exact ⟨i, rfl, Nat.le_refl _, hij, ⟨HH1, ch1⟩, Lib.hid rfl⟩
    case round =>
      clear HH1 ch1
      obtain ⟨i', rfl, hii, hij', ⟨HHa, cha⟩, hsc⟩ := hrel
      have hcwa : ∀ t, t < d.size → wr.cell? ⟨blk, off + t, none⟩ = some (.int .u8 (G t)) := fun t ht => by rw [hG.out]; exact (HHa t (by omega)).1
      have hfwa : ∀ t, t < d.size → wr.frozen? ⟨blk, off + t, none⟩ = false := fun t ht => (HHa t (by omega)).2
      replace HHa := Lib.hid HHa
      by_cases hle : i' ≤ j
      · have hle' : (i' : Int) ≤ (j : Int) := by omega
        go_wp2_with fail
        go_quiet (first | (go_at_call 59; exact Calls.quiet_of_same (less8 _ _ _)))
        go_wp2
        · have ht : (!ltInt (G a) (G i')) = true := by assumption
          go_roundw
          case rel => exact ⟨i' + 1, by go_num, by omega, by omega, ⟨holds_drewN8 HHa.out _, cha.drewN _⟩, Lib.hid ((scanUp_go (fun x => !ltInt dk[a]! x) dk j i' hle (by rw [← hG.out a, ← hG.out i']; exact ht)).symm.trans hsc.out)⟩
          case measure => simp [intOf]; omega
        · have ht : (!ltInt (G a) (G i')) = false := by assumption
          have hi2 := Lib.hid ((scanUp_end (fun x => !ltInt dk[a]! x) dk j i' (Or.inr (by rw [← hG.out a, ← hG.out i']; exact ht))).symm.trans hsc.out)
          have HH2 := holds_drewN8 HHa.out nq
          have ch2 := cha.drewN nq
          clear ht hcwa hfwa
          generalize wr.drewN nq = W2 at HH2 ch2 ⊢
          go_loopw [10] (fun vj w2 => ∃ j' : Nat, vj = .int .i64 j' ∧ j' ≤ j ∧ i' ≤ j' + 1 ∧ (Holds e8 w2 blk off dk ∧ Chg (fun k => k = blk) w w2) ∧ Hid (scanDown (fun x => ltInt dk[a]! x) dk i' j' = scanDown (fun x => ltInt dk[a]! x) dk i' j)) (fun vj _ => (intOf vj).toNat)
          case atStart => exact ⟨j, rfl, Nat.le_refl _, hij', ⟨HH2, ch2⟩, Lib.hid rfl⟩
          case round =>
            clear HH2 ch2
            obtain ⟨j', rfl, hjj, hij2, ⟨HH3, ch3⟩, hsd⟩ := hrel
            have hcw3 : ∀ t, t < d.size → wr.cell? ⟨blk, off + t, none⟩ = some (.int .u8 (G t)) := fun t ht => by rw [hG.out]; exact (HH3 t (by omega)).1
            have hfw3 : ∀ t, t < d.size → wr.frozen? ⟨blk, off + t, none⟩ = false := fun t ht => (HH3 t (by omega)).2
            replace HH3 := Lib.hid HH3
            by_cases hle2 : i' ≤ j'
            · have hle2' : (i' : Int) ≤ (j' : Int) := by omega
              go_wp2_with fail
              go_quiet (first | (go_at_call 59; exact Calls.quiet_of_same (less8 _ _ _)))
              go_wp2
              · have ht : ltInt (G a) (G j') = true := by assumption
                go_roundw
                case rel => exact ⟨j' - 1, by go_num, by omega, by omega, ⟨holds_drewN8 HH3.out _, ch3.drewN _⟩, Lib.hid ((scanDown_go (fun x => ltInt dk[a]! x) dk i' j' hle2 (by omega) (by rw [← hG.out a, ← hG.out j']; exact ht)).symm.trans hsd.out)⟩
                case measure => simp [intOf]; omega
              · have ht : ltInt (G a) (G j') = false := by assumption
                have hj2 := Lib.hid ((scanDown_end (fun x => ltInt dk[a]! x) dk i' j' (Or.inr (by rw [← hG.out a, ← hG.out j']; exact ht))).symm.trans hsd.out)
                have HH4 := holds_drewN8 HH3.out nq
                have ch4 := ch3.drewN nq
                clear ht hcw3 hfw3
                generalize wr.drewN nq = W4 at HH4 ch4 ⊢
                have hlt3 := scans_lt ltInt a i j dk (by omega) hi2.out hj2.out hle2
                have hcw4 : ∀ t, t < d.size → W4.cell? ⟨blk, off + t, none⟩ = some (.int .u8 (G t)) := fun t ht => by rw [hG.out]; exact (HH4 t (by omega)).1
                have hfw4 : ∀ t, t < d.size → W4.frozen? ⟨blk, off + t, none⟩ = false := fun t ht => (HH4 t (by omega)).2
                have hsw := Lib.hid (show Holds e8 ((W4.setCell ⟨blk, off + i', none⟩ (e8 (G j'))).setCell ⟨blk, off + j', none⟩ (e8 (G i'))) blk off (swp dk i' j') by rw [hG.out, hG.out]; exact holds_swp8 HH4 (by omega) (by omega))
                have hnx := Lib.hid (partEq_go ltInt a i j dk hi2.out hj2.out (by omega))
                replace HH4 := Lib.hid HH4
                go_wp2
                go_region
                all_goals
                  go_wp2
                  go_roundw
                  case rel => exact ⟨i' + 1, j' - 1, swp dk i' j', by go_num, by go_num, by omega, by omega, by omega, by rw [size_swp]; exact hds, holds_drewN8 hsw.out _, (((ch4.setCell (p := ⟨blk, _, none⟩) (.inl rfl) _).setCell (p := ⟨blk, _, none⟩) (.inl rfl) _).drewN _), Lib.hid (hnx.out.symm.trans HO.out)⟩
                  case measure => simp [intOf]; omega
            · have hle2' : ¬ (i' : Int) ≤ (j' : Int) := by omega
              have hz1 := Lib.hid (show decide ((i' : Int) ≤ (j' : Int)) = false from decide_eq_false hle2')
              have hz2 := Lib.hid (show decide (i' ≤ j') = false from decide_eq_false hle2)
              go_wp2_with fail
              replace hz1 := hz1.out
              replace hz2 := hz2.out
              go_quiet (first | (go_at_call 59; exact Calls.quiet_of_same (less8 _ _ _)))
              have hj2 := Lib.hid ((scanDown_end (fun x => ltInt dk[a]! x) dk i' j' (Or.inl hle2)).symm.trans hsd.out)
              have HH4 := holds_drewN8 HH3.out nq
              have ch4 := ch3.drewN nq
              clear hcw3 hfw3 hz1 hz2
              generalize wr.drewN nq = W4 at HH4 ch4 ⊢
              have e := partEq_break ltInt a i j dk hi2.out hj2.out (by omega)
              go_wp2
              go_ret
              refine ⟨?_, ?_, ch4⟩
              · unfold Sort.partitionEqual; rw [← HO.out, e]; rfl
              · unfold Sort.partitionEqual; rw [← HO.out, e]; exact HH4
      · have hle' : ¬ (i' : Int) ≤ (j : Int) := by omega
        have hz1 := Lib.hid (show decide ((i' : Int) ≤ (j : Int)) = false from decide_eq_false hle')
        have hz2 := Lib.hid (show decide (i' ≤ j) = false from decide_eq_false hle)
        go_wp2_with fail
        replace hz1 := hz1.out
        replace hz2 := hz2.out
        go_quiet (first | (go_at_call 59; exact Calls.quiet_of_same (less8 _ _ _)))
        go_wp2
        have hi2 := Lib.hid ((scanUp_end (fun x => !ltInt dk[a]! x) dk j i' (Or.inl hle)).symm.trans hsc.out)
        have HH2 := holds_drewN8 HHa.out nq
        have ch2 := cha.drewN nq
        clear hcwa hfwa hz1 hz2
        generalize wr.drewN nq = W2 at HH2 ch2 ⊢
        go_loopw [10] (fun vj w2 => ∃ j' : Nat, vj = .int .i64 j' ∧ j' ≤ j ∧ i' ≤ j' + 1 ∧ (Holds e8 w2 blk off dk ∧ Chg (fun k => k = blk) w w2) ∧ Hid (scanDown (fun x => ltInt dk[a]! x) dk i' j' = scanDown (fun x => ltInt dk[a]! x) dk i' j)) (fun vj _ => (intOf vj).toNat)
        case atStart => exact ⟨j, rfl, Nat.le_refl _, hij', ⟨HH2, ch2⟩, Lib.hid rfl⟩
        case round =>
          clear HH2 ch2
          obtain ⟨j', rfl, hjj, hij2, ⟨HH3, ch3⟩, hsd⟩ := hrel
          have hcw3 : ∀ t, t < d.size → wr.cell? ⟨blk, off + t, none⟩ = some (.int .u8 (G t)) := fun t ht => by rw [hG.out]; exact (HH3 t (by omega)).1
          have hfw3 : ∀ t, t < d.size → wr.frozen? ⟨blk, off + t, none⟩ = false := fun t ht => (HH3 t (by omega)).2
          replace HH3 := Lib.hid HH3
          by_cases hle2 : i' ≤ j'
          · exfalso; omega
          · have hle2' : ¬ (i' : Int) ≤ (j' : Int) := by omega
            have hz1 := Lib.hid (show decide ((i' : Int) ≤ (j' : Int)) = false from decide_eq_false hle2')
            have hz2 := Lib.hid (show decide (i' ≤ j') = false from decide_eq_false hle2)
            go_wp2_with fail
            replace hz1 := hz1.out
            replace hz2 := hz2.out
            go_quiet (first | (go_at_call 59; exact Calls.quiet_of_same (less8 _ _ _)))
            have hj2 := Lib.hid ((scanDown_end (fun x => ltInt dk[a]! x) dk i' j' (Or.inl hle2)).symm.trans hsd.out)
            have HH4 := holds_drewN8 HH3.out nq
            have ch4 := ch3.drewN nq
            clear hcw3 hfw3 hz1 hz2
            generalize wr.drewN nq = W4 at HH4 ch4 ⊢
            have e := partEq_break ltInt a i j dk hi2.out hj2.out (by omega)
            go_wp2
            go_ret
            refine ⟨?_, ?_, ch4⟩
            · unfold Sort.partitionEqual; rw [← HO.out, e]; rfl
            · unfold Sort.partitionEqual; rw [← HO.out, e]; exact HH4
end Go.Proofs.Ytkgmbomfkdkofaa

/- slices.Sort at []byte: partitionOrdered computes what the plain function says (written by genpart.py). -/
namespace Go.Proofs.Ytkgmbomfkdkofaa
open Go Go.RowKit Go.Sort

def Part2Post (blk off : Nat) (r : Nat × Bool × Array Int) (w : World) (e : Ending) (w' : World) : Prop := e = .returned (.tuple #[.int .i64 r.1, .bool r.2.1]) ∧ Holds e8 w' blk off r.2.2 ∧ Chg (fun k => k = blk) w w'

set_option maxHeartbeats 12800000 in
set_option maxRecDepth 100000 in
theorem part8 (blk off cap a b pivot : Nat) (d : Array Int) (w : World) (hH : Holds e8 w blk off d) (hap : a ≤ pivot) (hpb : pivot < b) (hb : b ≤ d.size) (hsz : d.size < 1000000) :
    Calls Try.prog 61 #[.slice (some ⟨blk, off, none⟩) d.size cap, .int .i64 a, .int .i64 b, .int .i64 pivot] w (Part2Post blk off (Sort.partition ltInt d a b pivot) w) := by
  have hla : a < d.size := by omega
  have hlp : pivot < d.size := by omega
  obtain ⟨G0, hG0⟩ : ∃ G0 : Nat → Int, ∀ t, G0 t = d[t]! := ⟨fun t => d[t]!, fun _ => rfl⟩
  have ca : w.cell? ⟨blk, off + a, none⟩ = some (.int .u8 (G0 a)) := by rw [hG0]; exact (hH a hla).1
  have fa := (hH a hla).2
  have cp : w.cell? ⟨blk, off + pivot, none⟩ = some (.int .u8 (G0 pivot)) := by rw [hG0]; exact (hH pivot hlp).1
  have fp := (hH pivot hlp).2
  obtain ⟨v', hy'⟩ := cell?_setCell_some (w := w) (p := ⟨blk, off + a, none⟩) (x := .int .u8 (G0 pivot)) (q := ⟨blk, off + pivot, none⟩) cp
  have hsw := holds_swp8 hH (j := a) (k := pivot) hla hlp
  rw [← hG0, ← hG0] at hsw
  replace hsw := Lib.hid hsw
  replace hG0 := Lib.hid hG0
  replace hH := Lib.hid hH
  go_enter Try.func61, Try.ntmps61
  go_wp2
  go_region
  go_wp2
  have HH1 := holds_drewN8 hsw.out 1
  have ch1 : Chg (fun k => k = blk) w (((w.setCell ⟨blk, off + a, none⟩ (.int .u8 (G0 pivot))).setCell ⟨blk, off + pivot, none⟩ (.int .u8 (G0 a))).drewN 1) := ((((Chg.refl (fun k => k = blk) w).setCell (p := ⟨blk, _, none⟩) (.inl rfl) _).setCell (p := ⟨blk, _, none⟩) (.inl rfl) _).drewN _)
  obtain ⟨dk, hdk⟩ : ∃ dk, dk = Sort.swp d a pivot := ⟨_, rfl⟩
  rw [← hdk] at HH1
  have hds : dk.size = d.size := by rw [hdk, size_swp]
  have e1 : ((a : Int) + 1) = ((a + 1 : Nat) : Int) := by omega
  have e2 : ((b : Int) - 1) = ((b - 1 : Nat) : Int) := by omega
  rw [e1, e2]
  clear e1 e2
  obtain ⟨i, hi⟩ : ∃ i, i = a + 1 := ⟨_, rfl⟩
  obtain ⟨j, hj⟩ : ∃ j, j = b - 1 := ⟨_, rfl⟩
  rw [← hi, ← hj]
  have hai : a < i := by omega
  have hij : i ≤ j + 1 := by omega
  have hjb : j < b := by omega
  have HI := Lib.hid hi
  have HJ := Lib.hid hj
  have HDK := Lib.hid hdk
  clear hi hj hdk ca fa cp fp hy' hsw hG0 hH v'
  obtain ⟨G, hG⟩ : ∃ G : Nat → Int, ∀ t, G t = dk[t]! := ⟨fun t => dk[t]!, fun _ => rfl⟩
  replace hG := Lib.hid hG
  go_loopw [10] (fun vi w1 => ∃ i' : Nat, vi = .int .i64 i' ∧ i ≤ i' ∧ i' ≤ j + 1 ∧ (Holds e8 w1 blk off dk ∧ Chg (fun k => k = blk) w w1) ∧ Hid (scanUp (fun x => ltInt x dk[a]!) dk j i' = scanUp (fun x => ltInt x dk[a]!) dk j i)) (fun vi _ => j + 1 - (intOf vi).toNat)
  case atStart => exact ⟨i, rfl, Nat.le_refl _, hij, ⟨HH1, ch1⟩, Lib.hid rfl⟩
  case round =>
    clear HH1 ch1
    obtain ⟨i', rfl, hii, hij', ⟨HHa, cha⟩, hsc⟩ := hrel
    have hcwa : ∀ t, t < d.size → wr.cell? ⟨blk, off + t, none⟩ = some (.int .u8 (G t)) := fun t ht => by rw [hG.out]; exact (HHa t (by omega)).1
    have hfwa : ∀ t, t < d.size → wr.frozen? ⟨blk, off + t, none⟩ = false := fun t ht => (HHa t (by omega)).2
    replace HHa := Lib.hid HHa
    by_cases hle : i' ≤ j
    · have hle' : (i' : Int) ≤ (j : Int) := by omega
      go_wp2_with fail
      go_quiet (first | (go_at_call 59; exact Calls.quiet_of_same (less8 _ _ _)))
      go_wp2
      · have ht : ltInt (G i') (G a) = true := by assumption
        go_roundw
        case rel => exact ⟨i' + 1, by go_num, by omega, by omega, ⟨holds_drewN8 HHa.out _, cha.drewN _⟩, Lib.hid ((scanUp_go (fun x => ltInt x dk[a]!) dk j i' hle (by rw [← hG.out a, ← hG.out i']; exact ht)).symm.trans hsc.out)⟩
        case measure => simp [intOf]; omega
      · have ht : ltInt (G i') (G a) = false := by assumption
        have hi2 := Lib.hid ((scanUp_end (fun x => ltInt x dk[a]!) dk j i' (Or.inr (by rw [← hG.out a, ← hG.out i']; exact ht))).symm.trans hsc.out)
        have HH2 := holds_drewN8 HHa.out nq
        have ch2 := cha.drewN nq
        clear ht hcwa hfwa
        generalize wr.drewN nq = W2 at HH2 ch2 ⊢
        go_loopw [11] (fun vj w2 => ∃ j' : Nat, vj = .int .i64 j' ∧ j' ≤ j ∧ i' ≤ j' + 1 ∧ (Holds e8 w2 blk off dk ∧ Chg (fun k => k = blk) w w2) ∧ Hid (scanDown (fun x => !ltInt x dk[a]!) dk i' j' = scanDown (fun x => !ltInt x dk[a]!) dk i' j)) (fun vj _ => (intOf vj).toNat)
        case atStart => exact ⟨j, rfl, Nat.le_refl _, hij', ⟨HH2, ch2⟩, Lib.hid rfl⟩
        case round =>
          clear HH2 ch2
          obtain ⟨j', rfl, hjj, hij2, ⟨HH3, ch3⟩, hsd⟩ := hrel
          have hcw3 : ∀ t, t < d.size → wr.cell? ⟨blk, off + t, none⟩ = some (.int .u8 (G t)) := fun t ht => by rw [hG.out]; exact (HH3 t (by omega)).1
          have hfw3 : ∀ t, t < d.size → wr.frozen? ⟨blk, off + t, none⟩ = false := fun t ht => (HH3 t (by omega)).2
          replace HH3 := Lib.hid HH3
          by_cases hle2 : i' ≤ j'
          · have hle2' : (i' : Int) ≤ (j' : Int) := by omega
            go_wp2_with fail
            go_quiet (first | (go_at_call 59; exact Calls.quiet_of_same (less8 _ _ _)))
            go_wp2
            · have ht : (!ltInt (G j') (G a)) = true := by assumption
              go_roundw
              case rel => exact ⟨j' - 1, by go_num, by omega, by omega, ⟨holds_drewN8 HH3.out _, ch3.drewN _⟩, Lib.hid ((scanDown_go (fun x => !ltInt x dk[a]!) dk i' j' hle2 (by omega) (by rw [← hG.out a, ← hG.out j']; exact ht)).symm.trans hsd.out)⟩
              case measure => simp [intOf]; omega
            · have ht : (!ltInt (G j') (G a)) = false := by assumption
              have hj2 := Lib.hid ((scanDown_end (fun x => !ltInt x dk[a]!) dk i' j' (Or.inr (by rw [← hG.out a, ← hG.out j']; exact ht))).symm.trans hsd.out)
              have HH4 := holds_drewN8 HH3.out nq
              have ch4 := ch3.drewN nq
              clear ht hcw3 hfw3
              generalize wr.drewN nq = W4 at HH4 ch4 ⊢
              have hlt3 := part_scans_lt ltInt a i j dk (by omega) hi2.out hj2.out hle2
              have hcw4 : ∀ t, t < d.size → W4.cell? ⟨blk, off + t, none⟩ = some (.int .u8 (G t)) := fun t ht => by rw [hG.out]; exact (HH4 t (by omega)).1
              have hfw4 : ∀ t, t < d.size → W4.frozen? ⟨blk, off + t, none⟩ = false := fun t ht => (HH4 t (by omega)).2
              have hsw := Lib.hid (show Holds e8 ((W4.setCell ⟨blk, off + i', none⟩ (e8 (G j'))).setCell ⟨blk, off + j', none⟩ (e8 (G i'))) blk off (swp dk i' j') by rw [hG.out, hG.out]; exact holds_swp8 HH4 (by omega) (by omega))
              obtain ⟨R, hR⟩ : ∃ R, R = partLoop ltInt a (i' + 1) (j' - 1) (swp dk i' j') := ⟨_, rfl⟩
              have hfirst := Lib.hid (show Sort.partition ltInt d a b pivot = (R.1, false, swp R.2 R.1 a) by rw [hR]; exact part_first_go ltInt d a b pivot HI.out HJ.out HDK.out hi2.out hj2.out (by omega))
              replace hR := Lib.hid hR
              replace HH4 := Lib.hid HH4
              go_wp2
              go_region
              all_goals
                go_wp2
                go_loopw [10, 11] (fun vi vj wr => ∃ (i j : Nat) (dk : Array Int), vi = .int .i64 i ∧ vj = .int .i64 j ∧ a < i ∧ i ≤ j + 1 ∧ j < b ∧ dk.size = d.size ∧ Holds e8 wr blk off dk ∧ Chg (fun k => k = blk) w wr ∧ Hid (partLoop ltInt a i j dk = R)) (fun vi vj _ => (intOf vj).toNat + 1 - (intOf vi).toNat)
                case atStart => exact ⟨i' + 1, j' - 1, swp dk i' j', by go_num, by go_num, by omega, by omega, by omega, by rw [size_swp]; exact hds, holds_drewN8 hsw.out _, (((ch4.setCell (p := ⟨blk, _, none⟩) (.inl rfl) _).setCell (p := ⟨blk, _, none⟩) (.inl rfl) _).drewN _), Lib.hid hR.out.symm⟩
                case round =>
                  clear hcw4 hfw4 hsw HH4 ch4 hlt3 hj2 hi2 hle2 hle2' hle hle' hij2 hij' hii hjj HI HJ HDK hR HHa cha HH3 ch3 hsc hsd hG
                  rename_i _ G0 _ _ _ _ _ _ _ _
                  obtain ⟨i, j, dk, rfl, rfl, hai, hij, hjb, hds, HH1, ch1, HO⟩ := hrel
                  obtain ⟨G, hG⟩ : ∃ G : Nat → Int, ∀ t, G t = dk[t]! := ⟨fun t => dk[t]!, fun _ => rfl⟩
                  replace hG := Lib.hid hG
                  go_wp2
                  go_loopw [10] (fun vi w1 => ∃ i' : Nat, vi = .int .i64 i' ∧ i ≤ i' ∧ i' ≤ j + 1 ∧ (Holds e8 w1 blk off dk ∧ Chg (fun k => k = blk) w w1) ∧ Hid (scanUp (fun x => ltInt x dk[a]!) dk j i' = scanUp (fun x => ltInt x dk[a]!) dk j i)) (fun vi _ => j + 1 - (intOf vi).toNat)
                  case atStart => exact ⟨i, rfl, Nat.le_refl _, hij, ⟨HH1, ch1⟩, Lib.hid rfl⟩
                  case round =>
                    clear HH1 ch1
                    obtain ⟨i', rfl, hii, hij', ⟨HHa, cha⟩, hsc⟩ := hrel
                    have hcwa : ∀ t, t < d.size → wr.cell? ⟨blk, off + t, none⟩ = some (.int .u8 (G t)) := fun t ht => by rw [hG.out]; exact (HHa t (by omega)).1
                    have hfwa : ∀ t, t < d.size → wr.frozen? ⟨blk, off + t, none⟩ = false := fun t ht => (HHa t (by omega)).2
                    replace HHa := Lib.hid HHa
                    by_cases hle : i' ≤ j
                    · have hle' : (i' : Int) ≤ (j : Int) := by omega
                      go_wp2_with fail
                      go_quiet (first | (go_at_call 59; exact Calls.quiet_of_same (less8 _ _ _)))
                      go_wp2
                      · have ht : ltInt (G i') (G a) = true := by assumption
                        go_roundw
                        case rel => exact ⟨i' + 1, by go_num, by omega, by omega, ⟨holds_drewN8 HHa.out _, cha.drewN _⟩, Lib.hid ((scanUp_go (fun x => ltInt x dk[a]!) dk j i' hle (by rw [← hG.out a, ← hG.out i']; exact ht)).symm.trans hsc.out)⟩
                        case measure => simp [intOf]; omega
                      · have ht : ltInt (G i') (G a) = false := by assumption
                        have hi2 := Lib.hid ((scanUp_end (fun x => ltInt x dk[a]!) dk j i' (Or.inr (by rw [← hG.out a, ← hG.out i']; exact ht))).symm.trans hsc.out)
                        have HH2 := holds_drewN8 HHa.out nq
                        have ch2 := cha.drewN nq
                        clear ht hcwa hfwa
                        generalize wr.drewN nq = W2 at HH2 ch2 ⊢
                        go_loopw [11] (fun vj w2 => ∃ j' : Nat, vj = .int .i64 j' ∧ j' ≤ j ∧ i' ≤ j' + 1 ∧ (Holds e8 w2 blk off dk ∧ Chg (fun k => k = blk) w w2) ∧ Hid (scanDown (fun x => !ltInt x dk[a]!) dk i' j' = scanDown (fun x => !ltInt x dk[a]!) dk i' j)) (fun vj _ => (intOf vj).toNat)
                        case atStart => exact ⟨j, rfl, Nat.le_refl _, hij', ⟨HH2, ch2⟩, Lib.hid rfl⟩
                        case round =>
                          clear HH2 ch2
                          obtain ⟨j', rfl, hjj, hij2, ⟨HH3, ch3⟩, hsd⟩ := hrel
                          have hcw3 : ∀ t, t < d.size → wr.cell? ⟨blk, off + t, none⟩ = some (.int .u8 (G t)) := fun t ht => by rw [hG.out]; exact (HH3 t (by omega)).1
                          have hfw3 : ∀ t, t < d.size → wr.frozen? ⟨blk, off + t, none⟩ = false := fun t ht => (HH3 t (by omega)).2
                          replace HH3 := Lib.hid HH3
                          by_cases hle2 : i' ≤ j'
                          · have hle2' : (i' : Int) ≤ (j' : Int) := by omega
                            go_wp2_with fail
                            go_quiet (first | (go_at_call 59; exact Calls.quiet_of_same (less8 _ _ _)))
                            go_wp2
                            · have ht : (!ltInt (G j') (G a)) = true := by assumption
                              go_roundw
                              case rel => exact ⟨j' - 1, by go_num, by omega, by omega, ⟨holds_drewN8 HH3.out _, ch3.drewN _⟩, Lib.hid ((scanDown_go (fun x => !ltInt x dk[a]!) dk i' j' hle2 (by omega) (by rw [← hG.out a, ← hG.out j']; exact ht)).symm.trans hsd.out)⟩
                              case measure => simp [intOf]; omega
                            · have ht : (!ltInt (G j') (G a)) = false := by assumption
                              have hj2 := Lib.hid ((scanDown_end (fun x => !ltInt x dk[a]!) dk i' j' (Or.inr (by rw [← hG.out a, ← hG.out j']; exact ht))).symm.trans hsd.out)
                              have HH4 := holds_drewN8 HH3.out nq
                              have ch4 := ch3.drewN nq
                              clear ht hcw3 hfw3
                              generalize wr.drewN nq = W4 at HH4 ch4 ⊢
                              have hlt3 := part_scans_lt ltInt a i j dk (by omega) hi2.out hj2.out hle2
                              have hcw4 : ∀ t, t < d.size → W4.cell? ⟨blk, off + t, none⟩ = some (.int .u8 (G t)) := fun t ht => by rw [hG.out]; exact (HH4 t (by omega)).1
                              have hfw4 : ∀ t, t < d.size → W4.frozen? ⟨blk, off + t, none⟩ = false := fun t ht => (HH4 t (by omega)).2
                              have hsw := Lib.hid (show Holds e8 ((W4.setCell ⟨blk, off + i', none⟩ (e8 (G j'))).setCell ⟨blk, off + j', none⟩ (e8 (G i'))) blk off (swp dk i' j') by rw [hG.out, hG.out]; exact holds_swp8 HH4 (by omega) (by omega))
                              have hnx := Lib.hid (part_go ltInt a i j dk hi2.out hj2.out (by omega))
                              replace HH4 := Lib.hid HH4
                              go_wp2
                              go_region
                              all_goals
                                go_wp2
                                go_roundw
                                case rel => exact ⟨i' + 1, j' - 1, swp dk i' j', by go_num, by go_num, by omega, by omega, by omega, by rw [size_swp]; exact hds, holds_drewN8 hsw.out _, (((ch4.setCell (p := ⟨blk, _, none⟩) (.inl rfl) _).setCell (p := ⟨blk, _, none⟩) (.inl rfl) _).drewN _), Lib.hid (hnx.out.symm.trans HO.out)⟩
                                case measure => simp [intOf]; omega
                          · have hle2' : ¬ (i' : Int) ≤ (j' : Int) := by omega
                            have hz1 := Lib.hid (show decide ((i' : Int) ≤ (j' : Int)) = false from decide_eq_false hle2')
                            have hz2 := Lib.hid (show decide (i' ≤ j') = false from decide_eq_false hle2)
                            go_wp2_with fail
                            replace hz1 := hz1.out
                            replace hz2 := hz2.out
                            go_quiet (first | (go_at_call 59; exact Calls.quiet_of_same (less8 _ _ _)))
                            have hj2 := Lib.hid ((scanDown_end (fun x => !ltInt x dk[a]!) dk i' j' (Or.inl hle2)).symm.trans hsd.out)
                            have HH4 := holds_drewN8 HH3.out nq
                            have ch4 := ch3.drewN nq
                            clear hcw3 hfw3 hz1 hz2
                            generalize wr.drewN nq = W4 at HH4 ch4 ⊢
                            have e9 := part_break ltInt a i j dk hi2.out hj2.out (by omega)
                            have e : Sort.partition ltInt d a b pivot = (j', false, swp dk j' a) := by rw [hfirst.out, ← HO.out, e9]
                            clear e9
                            have hcw4 : ∀ t, t < d.size → W4.cell? ⟨blk, off + t, none⟩ = some (.int .u8 (G t)) := fun t ht => by rw [hG.out]; exact (HH4 t (by omega)).1
                            have hfw4 : ∀ t, t < d.size → W4.frozen? ⟨blk, off + t, none⟩ = false := fun t ht => (HH4 t (by omega)).2
                            obtain ⟨v4, hy4⟩ := cell?_setCell_some (w := W4) (p := ⟨blk, off + j', none⟩) (x := .int .u8 (G a)) (q := ⟨blk, off + a, none⟩) (hcw4 a (by omega))
                            have hsw := Lib.hid (show Holds e8 ((W4.setCell ⟨blk, off + j', none⟩ (e8 (G a))).setCell ⟨blk, off + a, none⟩ (e8 (G j'))) blk off (swp dk j' a) by rw [hG.out, hG.out]; exact holds_swp8 HH4 (by omega) (by omega))
                            replace HH4 := Lib.hid HH4
                            replace e := Lib.hid e
                            go_wp2
                            go_region
                            all_goals
                              go_wp2
                              go_ret2
                              exact ⟨by rw [e.out]; rfl, by rw [e.out]; exact holds_drewN8 hsw.out _, (((ch4.setCell (p := ⟨blk, _, none⟩) (.inl rfl) _).setCell (p := ⟨blk, _, none⟩) (.inl rfl) _).drewN _)⟩
                    · have hle' : ¬ (i' : Int) ≤ (j : Int) := by omega
                      have hz1 := Lib.hid (show decide ((i' : Int) ≤ (j : Int)) = false from decide_eq_false hle')
                      have hz2 := Lib.hid (show decide (i' ≤ j) = false from decide_eq_false hle)
                      go_wp2_with fail
                      replace hz1 := hz1.out
                      replace hz2 := hz2.out
                      go_quiet (first | (go_at_call 59; exact Calls.quiet_of_same (less8 _ _ _)))
                      go_wp2
                      have hi2 := Lib.hid ((scanUp_end (fun x => ltInt x dk[a]!) dk j i' (Or.inl hle)).symm.trans hsc.out)
                      have HH2 := holds_drewN8 HHa.out nq
                      have ch2 := cha.drewN nq
                      clear hcwa hfwa hz1 hz2
                      generalize wr.drewN nq = W2 at HH2 ch2 ⊢
                      go_loopw [11] (fun vj w2 => ∃ j' : Nat, vj = .int .i64 j' ∧ j' ≤ j ∧ i' ≤ j' + 1 ∧ (Holds e8 w2 blk off dk ∧ Chg (fun k => k = blk) w w2) ∧ Hid (scanDown (fun x => !ltInt x dk[a]!) dk i' j' = scanDown (fun x => !ltInt x dk[a]!) dk i' j)) (fun vj _ => (intOf vj).toNat)
                      case atStart => exact ⟨j, rfl, Nat.le_refl _, hij', ⟨HH2, ch2⟩, Lib.hid rfl⟩
                      case round =>
                        clear HH2 ch2
                        obtain ⟨j', rfl, hjj, hij2, ⟨HH3, ch3⟩, hsd⟩ := hrel
                        have hcw3 : ∀ t, t < d.size → wr.cell? ⟨blk, off + t, none⟩ = some (.int .u8 (G t)) := fun t ht => by rw [hG.out]; exact (HH3 t (by omega)).1
                        have hfw3 : ∀ t, t < d.size → wr.frozen? ⟨blk, off + t, none⟩ = false := fun t ht => (HH3 t (by omega)).2
                        replace HH3 := Lib.hid HH3
                        by_cases hle2 : i' ≤ j'
                        · exfalso; omega
                        · have hle2' : ¬ (i' : Int) ≤ (j' : Int) := by omega
                          have hz1 := Lib.hid (show decide ((i' : Int) ≤ (j' : Int)) = false from decide_eq_false hle2')
                          have hz2 := Lib.hid (show decide (i' ≤ j') = false from decide_eq_false hle2)
                          go_wp2_with fail
                          replace hz1 := hz1.out
                          replace hz2 := hz2.out
                          go_quiet (first | (go_at_call 59; exact Calls.quiet_of_same (less8 _ _ _)))
                          have hj2 := Lib.hid ((scanDown_end (fun x => !ltInt x dk[a]!) dk i' j' (Or.inl hle2)).symm.trans hsd.out)
                          have HH4 := holds_drewN8 HH3.out nq
                          have ch4 := ch3.drewN nq
                          clear hcw3 hfw3 hz1 hz2
                          generalize wr.drewN nq = W4 at HH4 ch4 ⊢
                          have e9 := part_break ltInt a i j dk hi2.out hj2.out (by omega)
                          have e : Sort.partition ltInt d a b pivot = (j', false, swp dk j' a) := by rw [hfirst.out, ← HO.out, e9]
                          clear e9
                          have hcw4 : ∀ t, t < d.size → W4.cell? ⟨blk, off + t, none⟩ = some (.int .u8 (G t)) := fun t ht => by rw [hG.out]; exact (HH4 t (by omega)).1
                          have hfw4 : ∀ t, t < d.size → W4.frozen? ⟨blk, off + t, none⟩ = false := fun t ht => (HH4 t (by omega)).2
                          obtain ⟨v4, hy4⟩ := cell?_setCell_some (w := W4) (p := ⟨blk, off + j', none⟩) (x := .int .u8 (G a)) (q := ⟨blk, off + a, none⟩) (hcw4 a (by omega))
                          have hsw := Lib.hid (show Holds e8 ((W4.setCell ⟨blk, off + j', none⟩ (e8 (G a))).setCell ⟨blk, off + a, none⟩ (e8 (G j'))) blk off (swp dk j' a) by rw [hG.out, hG.out]; exact holds_swp8 HH4 (by omega) (by omega))
                          replace HH4 := Lib.hid HH4
                          replace e := Lib.hid e
                          go_wp2
                          go_region
                          all_goals
                            go_wp2
                            go_ret2
                            exact ⟨by rw [e.out]; rfl, by rw [e.out]; exact holds_drewN8 hsw.out _, (((ch4.setCell (p := ⟨blk, _, none⟩) (.inl rfl) _).setCell (p := ⟨blk, _, none⟩) (.inl rfl) _).drewN _)⟩
          · have hle2' : ¬ (i' : Int) ≤ (j' : Int) := by omega
            have hz1 := Lib.hid (show decide ((i' : Int) ≤ (j' : Int)) = false from decide_eq_false hle2')
            have hz2 := Lib.hid (show decide (i' ≤ j') = false from decide_eq_false hle2)
            go_wp2_with fail
            replace hz1 := hz1.out
            replace hz2 := hz2.out
            go_quiet (first | (go_at_call 59; exact Calls.quiet_of_same (less8 _ _ _)))
            have hj2 := Lib.hid ((scanDown_end (fun x => !ltInt x dk[a]!) dk i' j' (Or.inl hle2)).symm.trans hsd.out)
            have HH4 := holds_drewN8 HH3.out nq
            have ch4 := ch3.drewN nq
            clear hcw3 hfw3 hz1 hz2
            generalize wr.drewN nq = W4 at HH4 ch4 ⊢
            have e : Sort.partition ltInt d a b pivot = (j', true, swp dk j' a) := part_first_break ltInt d a b pivot HI.out HJ.out HDK.out hi2.out hj2.out (by omega)
            have hcw4 : ∀ t, t < d.size → W4.cell? ⟨blk, off + t, none⟩ = some (.int .u8 (G t)) := fun t ht => by rw [hG.out]; exact (HH4 t (by omega)).1
            have hfw4 : ∀ t, t < d.size → W4.frozen? ⟨blk, off + t, none⟩ = false := fun t ht => (HH4 t (by omega)).2
            obtain ⟨v4, hy4⟩ := cell?_setCell_some (w := W4) (p := ⟨blk, off + j', none⟩) (x := .int .u8 (G a)) (q := ⟨blk, off + a, none⟩) (hcw4 a (by omega))
            have hsw := Lib.hid (show Holds e8 ((W4.setCell ⟨blk, off + j', none⟩ (e8 (G a))).setCell ⟨blk, off + a, none⟩ (e8 (G j'))) blk off (swp dk j' a) by rw [hG.out, hG.out]; exact holds_swp8 HH4 (by omega) (by omega))
            replace HH4 := Lib.hid HH4
            replace e := Lib.hid e
            go_wp2
            go_region
            all_goals
              go_wp2
              go_ret2
              exact ⟨by rw [e.out]; rfl, by rw [e.out]; exact holds_drewN8 hsw.out _, (((ch4.setCell (p := ⟨blk, _, none⟩) (.inl rfl) _).setCell (p := ⟨blk, _, none⟩) (.inl rfl) _).drewN _)⟩
    · have hle' : ¬ (i' : Int) ≤ (j : Int) := by omega
      have hz1 := Lib.hid (show decide ((i' : Int) ≤ (j : Int)) = false from decide_eq_false hle')
      have hz2 := Lib.hid (show decide (i' ≤ j) = false from decide_eq_false hle)
      go_wp2_with fail
      replace hz1 := hz1.out
      replace hz2 := hz2.out
      go_quiet (first | (go_at_call 59; exact Calls.quiet_of_same (less8 _ _ _)))
      go_wp2
      have hi2 := Lib.hid ((scanUp_end (fun x => ltInt x dk[a]!) dk j i' (Or.inl hle)).symm.trans hsc.out)
      have HH2 := holds_drewN8 HHa.out nq
      have ch2 := cha.drewN nq
      clear hcwa hfwa hz1 hz2
      generalize wr.drewN nq = W2 at HH2 ch2 ⊢
      go_loopw [11] (fun vj w2 => ∃ j' : Nat, vj = .int .i64 j' ∧ j' ≤ j ∧ i' ≤ j' + 1 ∧ (Holds e8 w2 blk off dk ∧ Chg (fun k => k = blk) w w2) ∧ Hid (scanDown (fun x => !ltInt x dk[a]!) dk i' j' = scanDown (fun x => !ltInt x dk[a]!) dk i' j)) (fun vj _ => (intOf vj).toNat)
      case atStart => exact ⟨j, rfl, Nat.le_refl _, hij', ⟨HH2, ch2⟩, Lib.hid rfl⟩
      case round =>
        clear HH2 ch2
        obtain ⟨j', rfl, hjj, hij2, ⟨HH3, ch3⟩, hsd⟩ := hrel
        have hcw3 : ∀ t, t < d.size → wr.cell? ⟨blk, off + t, none⟩ = some (.int .u8 (G t)) := fun t ht => by rw [hG.out]; exact (HH3 t (by omega)).1
        have hfw3 : ∀ t, t < d.size → wr.frozen? ⟨blk, off + t, none⟩ = false := fun t ht => (HH3 t (by omega)).2
        replace HH3 := Lib.hid HH3
        by_cases hle2 : i' ≤ j'
        · exfalso; omega
        · have hle2' : ¬ (i' : Int) ≤ (j' : Int) := by omega
          have hz1 := Lib.hid (show decide ((i' : Int) ≤ (j' : Int)) = false from decide_eq_false hle2')
          have hz2 := Lib.hid (show decide (i' ≤ j') = false from decide_eq_false hle2)
          go_wp2_with fail
          replace hz1 := hz1.out
          replace hz2 := hz2.out
          go_quiet (first | (go_at_call 59; exact Calls.quiet_of_same (less8 _ _ _)))
          have hj2 := Lib.hid ((scanDown_end (fun x => !ltInt x dk[a]!) dk i' j' (Or.inl hle2)).symm.trans hsd.out)
          have HH4 := holds_drewN8 HH3.out nq
          have ch4 := ch3.drewN nq
          clear hcw3 hfw3 hz1 hz2
          generalize wr.drewN nq = W4 at HH4 ch4 ⊢
          have e : Sort.partition ltInt d a b pivot = (j', true, swp dk j' a) := part_first_break ltInt d a b pivot HI.out HJ.out HDK.out hi2.out hj2.out (by omega)
          have hcw4 : ∀ t, t < d.size → W4.cell? ⟨blk, off + t, none⟩ = some (.int .u8 (G t)) := fun t ht => by rw [hG.out]; exact (HH4 t (by omega)).1
          have hfw4 : ∀ t, t < d.size → W4.frozen? ⟨blk, off + t, none⟩ = false := fun t ht => (HH4 t (by omega)).2
          obtain ⟨v4, hy4⟩ := cell?_setCell_some (w := W4) (p := ⟨blk, off + j', none⟩) (x := .int .u8 (G a)) (q := ⟨blk, off + a, none⟩) (hcw4 a (by omega))
          have hsw := Lib.hid (show Holds e8 ((W4.setCell ⟨blk, off + j', none⟩ (e8 (G a))).setCell ⟨blk, off + a, none⟩ (e8 (G j'))) blk off (swp dk j' a) by rw [hG.out, hG.out]; exact holds_swp8 HH4 (by omega) (by omega))
          replace HH4 := Lib.hid HH4
          replace e := Lib.hid e
          go_wp2
          go_region
          all_goals
            go_wp2
            go_ret2
            exact ⟨by rw [e.out]; rfl, by rw [e.out]; exact holds_drewN8 hsw.out _, (((ch4.setCell (p := ⟨blk, _, none⟩) (.inl rfl) _).setCell (p := ⟨blk, _, none⟩) (.inl rfl) _).drewN _)⟩
end Go.Proofs.Ytkgmbomfkdkofaa
