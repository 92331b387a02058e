/- slices.Sort at []byte: cmp.Less, insertionSortOrdered, reverseRangeOrdered compute what the plain functions say. -/
import Derived.Test.YtkgmbomfkdkofaaStrm
import Derived.Sort.WalkA
import Derived.Sort.WalkB12
import Derived.WalkKit
import Derived.BigGuard
import Derived.BigCall
import Derived.CellFam
import Derived.Deep.Draws
import Derived.Deep.QuietTactic
import Derived.BigQuiet
import Derived.BigRegion
import Derived.Sort.WalkB3
namespace Go.Proofs.Ytkgmbomfkdkofaa
open Go Go.RowKit Go.Sort

/-- A byte's value. -/
abbrev e8 : Int → Value := Value.int .u8

theorem isNaN8 (x : Int) (w : World) : Calls Try.prog 69 #[.int .u8 x] w fun e w' => e = .returned (.bool false) ∧ w' = w := by
  go_enter Try.func69, Try.ntmps69
  go_wp2
  go_ret
  exact ⟨by simp, rfl⟩

theorem less8 (x y : Int) (w : World) : Calls Try.prog 59 #[.int .u8 x, .int .u8 y] w fun e w' => e = .returned (.bool (ltInt x y)) ∧ w' = w := by
  go_enter Try.func59, Try.ntmps59
  go_wp2_with (go_at_call 69; refine (isNaN8 _ _).mono ?_; rintro e w' ⟨rfl, rfl⟩)
  go_ret
  exact ⟨rfl, rfl⟩

/-- The row holds d', and nothing else has changed. -/
def RowP8 (blk off : Nat) (d' : Array Int) (w : World) (e : Ending) (w' : World) : Prop := e = .returned (.tuple #[]) ∧ Holds e8 w' blk off d' ∧ Chg (fun k => k = blk) w w'

theorem holds_swp8 {w : World} {blk off : Nat} {d : Array Int} (h : Holds e8 w blk off d) {j k : Nat} (hj : j < d.size) (hk : k < d.size) :
    Holds e8 ((w.setCell ⟨blk, off + j, none⟩ (e8 d[k]!)).setCell ⟨blk, off + k, none⟩ (e8 d[j]!)) blk off (swp d j k) := by
  have h2 := putRow_swp e8 w blk off d j k hj hk
  rw [putRow_self _ _ _ _ _ h] at h2
  rw [h2]
  exact holds_putRow _ _ _ _ d _ h (size_swp _ _ _)
theorem holds_drewN8 {w : World} {blk off : Nat} {d : Array Int} (h : Holds e8 w blk off d) (n : Nat) : Holds e8 (w.drewN n) blk off d := h
theorem holds_chg8 {w w' : World} {blk off : Nat} {d : Array Int} {S : Nat → Prop} (h : Holds e8 w blk off d) (hc : Chg S w w') (hb : blk < w.heap.size) (hS : ¬ S blk) : Holds e8 w' blk off d := fun j hj =>
  ⟨(hc.cell (p := ⟨blk, off + j, none⟩) hb hS).trans (h j hj).1, by
    have h1 := (h j hj).2
    have h2 := hc.block blk hb hS
    unfold World.frozen? at h1 ⊢
    rw [h2]
    exact h1⟩

set_option maxHeartbeats 1000000 in
theorem insertion8 (blk off cap a b : Nat) (d : Array Int) (w : World) (hH : Holds e8 w blk off d) (hab : a ≤ b) (hb : b ≤ d.size) (hsz : d.size < 1000000) :
    Calls Try.prog 53 #[.slice (some ⟨blk, off, none⟩) d.size cap, .int .i64 a, .int .i64 b] w (RowP8 blk off (Sort.insertionSort ltInt d a b) w) := by
  go_enter Try.func53, Try.ntmps53
  go_wp2
  go_loopw [6] (fun vi wr => ∃ (i : Nat) (dk : Array Int), vi = .int .i64 i ∧ a < i ∧ i ≤ b + 1 ∧ dk.size = d.size ∧ Holds e8 wr blk off dk ∧ Chg (fun k => k = blk) w wr ∧
      Hid (insOuter ltInt a b i dk = insOuter ltInt a b (a + 1) d)) (fun vi _ => b + 1 - (intOf vi).toNat)
  case atStart => exact ⟨a + 1, d, by go_num, by omega, by omega, rfl, hH, Chg.refl _ _, Lib.hid rfl⟩
  case round =>
    obtain ⟨i, dk, rfl, hai, hib, hsk, hHk, hch, HO⟩ := hrel
    by_cases hlt : i < b
    · have hlt' : (i : Int) < (b : Int) := by omega
      go_wp2
      obtain ⟨wo, rfl⟩ : ∃ wo, wo = wr := ⟨wr, rfl⟩
      go_loopw [7] (fun vj wq => ∃ (j : Nat) (dj : Array Int), vj = .int .i64 j ∧ a ≤ j ∧ j ≤ i ∧ dj.size = d.size ∧ Holds e8 wq blk off dj ∧ Chg (fun k => k = blk) w wq ∧
          Hid (insInner ltInt a j dj = insInner ltInt a i dk)) (fun vj _ => (intOf vj).toNat)
      case atStart => exact ⟨i, dk, rfl, by omega, Nat.le_refl _, hsk, hHk, hch, Lib.hid rfl⟩
      case round =>
        obtain ⟨j, dj, rfl, haj, hji, hsj, hHj, hcj, HI⟩ := hrel
        obtain ⟨G, hG⟩ : ∃ G : Nat → Int, ∀ t, G t = dj[t]! := ⟨fun t => dj[t]!, fun _ => rfl⟩
        have hcw : ∀ t, t < d.size → wr.cell? ⟨blk, off + t, none⟩ = some (.int .u8 (G t)) := fun t ht => by rw [hG]; exact (hHj t (by omega)).1
        have hfw : ∀ t, t < d.size → wr.frozen? ⟨blk, off + t, none⟩ = false := fun t ht => (hHj t (by omega)).2
        have hsw := fun (h : a < j) (q : Nat) => holds_swp8 (holds_drewN8 hHj q) (j := j) (k := j - 1) (by omega) (by omega)
        replace hG := Lib.hid hG
        replace hHj := Lib.hid hHj
        replace hsw := Lib.hid hsw
        by_cases hja : a < j
        · have hja' : (a : Int) < (j : Int) := by omega
          go_wp2
          go_quiet (first | (go_at_call 59; exact Calls.quiet_of_same (less8 _ _ _)))
          go_wp2
          · have hl : ltInt (G j) (G (j - 1)) = true := by assumption
            go_region
            all_goals
              go_wp2
              go_roundw
              case rel =>
                refine ⟨j - 1, swp dj j (j - 1), by congr 1; omega, by omega, by omega, by rw [size_swp]; exact hsj, ?_, ?_, ?_⟩
                · rw [hG.out, hG.out]
                  exact holds_drewN8 (hsw.out hja 0) _
                · exact (((hcj.drewN _).setCell (p := ⟨blk, _, none⟩) (.inl rfl) _).setCell (p := ⟨blk, _, none⟩) (.inl rfl) _)
                · exact Lib.hid (by rw [← HI.out, insInner_go ltInt a j dj hja (by rw [← hG.out, ← hG.out]; exact hl)])
              case measure => simp [intOf]; omega
          · have hl : ltInt (G j) (G (j - 1)) = false := by assumption
            go_roundw
            case rel => exact ⟨i + 1, dj, by go_num, by omega, by omega, hsj, holds_drewN8 hHj.out _, hcj.drewN _, Lib.hid (by rw [← HO.out, insOuter_go _ _ _ _ _ hlt, ← HI.out, insInner_stop _ _ _ _ (.inr (by rw [← hG.out, ← hG.out]; exact hl))])⟩
            case measure => simp [intOf]; omega
        · have hja' : ¬ (a : Int) < (j : Int) := by omega
          go_wp2
          go_quiet (first | (go_at_call 59; exact Calls.quiet_of_same (less8 _ _ _)))
          go_wp2
          go_roundw
          case rel => exact ⟨i + 1, dj, by go_num, by omega, by omega, hsj, holds_drewN8 hHj.out _, hcj.drewN _, Lib.hid (by rw [← HO.out, insOuter_go _ _ _ _ _ hlt, ← HI.out, insInner_stop _ _ _ _ (.inl (by omega))])⟩
          case measure => simp [intOf]; omega
    · have hlt' : ¬ (i : Int) < (b : Int) := by omega
      go_wp2
      go_end0
      exact ⟨rfl, by unfold Sort.insertionSort; rw [← HO.out, insOuter_stop _ _ _ _ _ hlt]; exact hHk, hch⟩

set_option maxHeartbeats 1000000 in
theorem reverse8 (blk off cap a b : Nat) (d : Array Int) (w : World) (hH : Holds e8 w blk off d) (hab : a ≤ b) (hb : b ≤ d.size) (hsz : d.size < 1000000) :
    Calls Try.prog 57 #[.slice (some ⟨blk, off, none⟩) d.size cap, .int .i64 a, .int .i64 b] w (RowP8 blk off (Sort.reverseRange d a b) w) := by
  go_enter Try.func57, Try.ntmps57
  go_wp2
  go_loopw [6, 7] (fun vi vj wr => ∃ (i jn : Nat) (jz : Int) (dk : Array Int), vi = .int .i64 i ∧ vj = .int .i64 jz ∧ ((i : Int) < jz → jz = jn ∧ jn < d.size) ∧ (¬ (i : Int) < jz → ¬ i < jn) ∧ dk.size = d.size ∧ Holds e8 wr blk off dk ∧ Chg (fun k => k = blk) w wr ∧
      Hid (reverseLoop i jn dk = reverseLoop a (b - 1) d)) (fun vi vj _ => (intOf vj - intOf vi).toNat)
  case atStart => exact ⟨a, b - 1, (b : Int) - 1, d, rfl, by go_num, fun h => ⟨by omega, by omega⟩, fun h => by omega, rfl, hH, Chg.refl _ _, Lib.hid rfl⟩
  case round =>
    obtain ⟨i, jn, jz, dk, rfl, rfl, h1, h2, hds, hHk, hch, HO⟩ := hrel
    by_cases hlt : (i : Int) < jz
    · obtain ⟨rfl, hjn⟩ := h1 hlt
      have hij : i < jn := by omega
      obtain ⟨G, hG⟩ : ∃ G : Nat → Int, ∀ t, G t = dk[t]! := ⟨fun t => dk[t]!, fun _ => rfl⟩
      have hcw : ∀ t, t < d.size → wr.cell? ⟨blk, off + t, none⟩ = some (.int .u8 (G t)) := fun t ht => by rw [hG]; exact (hHk t (by omega)).1
      have hfw : ∀ t, t < d.size → wr.frozen? ⟨blk, off + t, none⟩ = false := fun t ht => (hHk t (by omega)).2
      have hrl := Lib.hid (show reverseLoop i jn dk = reverseLoop (i + 1) (jn - 1) (swp dk i jn) by conv => lhs; rw [reverseLoop, if_pos hij])
      have hsw := holds_swp8 hHk (j := i) (k := jn) (by omega) (by omega)
      rw [← hG, ← hG] at hsw
      replace hsw := Lib.hid hsw
      replace hG := Lib.hid hG
      replace hHk := Lib.hid hHk
      clear h1 h2
      go_wp2
      go_region
      all_goals
        go_wp2
        go_roundw
        case rel => exact ⟨i + 1, jn - 1, (jn : Int) - 1, swp dk i jn, by go_num, by go_num, fun h => ⟨by omega, by omega⟩, fun h => by omega, by rw [size_swp]; exact hds, holds_drewN8 hsw.out _, (((hch.setCell (p := ⟨blk, _, none⟩) (.inl rfl) _).setCell (p := ⟨blk, _, none⟩) (.inl rfl) _).drewN _), Lib.hid (hrl.out.symm.trans HO.out)⟩
        case measure => simp [intOf]; omega
    · have hnot := h2 hlt
      go_wp2
      go_end0
      exact ⟨rfl, by rw [Sort.reverseRange, ← HO.out, reverseLoop, if_neg hnot]; exact hHk, hch⟩
end Go.Proofs.Ytkgmbomfkdkofaa

/- slices.Sort at []byte: siftDownOrdered, heapSortOrdered compute what the plain functions say. -/
namespace Go.Proofs.Ytkgmbomfkdkofaa
open Go Go.RowKit Go.Sort

set_option maxHeartbeats 3200000 in
set_option maxRecDepth 1000000 in
theorem sift8 (blk off n cap lo hi first : Nat) (d : Array Int) (hn : d.size = n) (w : World) (hH : Holds e8 w blk off d) (hlo : lo ≤ hi) (hb : first + hi ≤ d.size) (hsz : d.size < 1000000) :
    Calls Try.prog 64 #[.slice (some ⟨blk, off, none⟩) n cap, .int .i64 lo, .int .i64 hi, .int .i64 first] w (RowP8 blk off (Sort.siftDown ltInt hi first lo d) w) := by
  subst hn
  go_enter Try.func64, Try.ntmps64
  go_wp2
  go_loopw [8] (fun vi wr => ∃ (root : Nat) (dk : Array Int), vi = .int .i64 root ∧ root ≤ hi ∧ dk.size = d.size ∧ Holds e8 wr blk off dk ∧ Chg (fun k => k = blk) w wr ∧
      Hid (siftDown ltInt hi first root dk = siftDown ltInt hi first lo d)) (fun vi _ => hi - (intOf vi).toNat)
  case atStart => exact ⟨lo, d, rfl, hlo, rfl, hH, Chg.refl _ _, Lib.hid rfl⟩
  case round =>
    obtain ⟨root, dk, rfl, hr, hds, hHk, hch, HO⟩ := hrel
    obtain ⟨G, hG⟩ : ∃ G : Nat → Int, ∀ t, G t = dk[t]! := ⟨fun t => dk[t]!, fun _ => rfl⟩
    have hcw : ∀ t, t < d.size → wr.cell? ⟨blk, off + t, none⟩ = some (.int .u8 (G t)) := fun t ht => by rw [hG]; exact (hHk t (by omega)).1
    have hfw : ∀ t, t < d.size → wr.frozen? ⟨blk, off + t, none⟩ = false := fun t ht => (hHk t (by omega)).2
    have hsw := fun (j k : Nat) (hj : j < d.size) (hk : k < d.size) => holds_swp8 hHk (j := j) (k := k) (by omega) (by omega)
    have hE : hi ≤ 2 * root + 1 → Holds e8 wr blk off (siftDown ltInt hi first lo d) := fun h => by rw [← HO.out, sd_end ltInt dk h]; exact hHk
    have hRs : 2 * root + 2 < hi → ltInt (G (first + (2 * root + 1))) (G (first + (2 * root + 2))) = true → ltInt (G (first + root)) (G (first + (2 * root + 2))) = false → Holds e8 wr blk off (siftDown ltInt hi first lo d) := fun h1 h2 h3 => by
      rw [hG, hG] at h2 h3
      rw [← HO.out, sd_right_stop ltInt dk h1 h2 h3]; exact hHk
    have hRg : 2 * root + 2 < hi → ltInt (G (first + (2 * root + 1))) (G (first + (2 * root + 2))) = true → ltInt (G (first + root)) (G (first + (2 * root + 2))) = true → siftDown ltInt hi first (2 * root + 2) (swp dk (first + root) (first + (2 * root + 2))) = siftDown ltInt hi first lo d := fun h1 h2 h3 => by
      rw [hG, hG] at h2 h3
      rw [← HO.out, sd_right_go ltInt dk h1 h2 h3]
    have hLs : 2 * root + 1 < hi → (2 * root + 2 < hi → ltInt (G (first + (2 * root + 1))) (G (first + (2 * root + 2))) = false) → ltInt (G (first + root)) (G (first + (2 * root + 1))) = false → Holds e8 wr blk off (siftDown ltInt hi first lo d) := fun h0 h1 h3 => by
      rw [hG, hG] at h1 h3
      rw [← HO.out, sd_left_stop ltInt dk h0 h1 h3]; exact hHk
    have hLg : 2 * root + 1 < hi → (2 * root + 2 < hi → ltInt (G (first + (2 * root + 1))) (G (first + (2 * root + 2))) = false) → ltInt (G (first + root)) (G (first + (2 * root + 1))) = true → siftDown ltInt hi first (2 * root + 1) (swp dk (first + root) (first + (2 * root + 1))) = siftDown ltInt hi first lo d := fun h0 h1 h3 => by
      rw [hG, hG] at h1 h3
      rw [← HO.out, sd_left_go ltInt dk h0 h1 h3]
    replace hsw := Lib.hid hsw
    replace hG := Lib.hid hG
    replace hHk := Lib.hid hHk
    replace hE := Lib.hid hE
    replace hRs := Lib.hid hRs
    replace hRg := Lib.hid hRg
    replace hLs := Lib.hid hLs
    replace hLg := Lib.hid hLg
    by_cases h0 : hi ≤ 2 * root + 1
    · have h0z : (hi : Int) ≤ 2 * (root : Int) + 1 := by omega
      go_wp2
      go_end0
      exact ⟨rfl, hE.out h0, hch⟩
    · have h0z : ¬ ((hi : Int) ≤ 2 * (root : Int) + 1) := by omega
      by_cases h1 : 2 * root + 2 < hi
      · have h1z : 2 * (root : Int) + 1 + 1 < (hi : Int) := by omega
        go_wp2_with fail
        go_quiet (first | (go_at_call 59; exact Calls.quiet_of_same (less8 _ _ _)))
        go_wp2_with fail
        · have hL : ltInt (G (first + 2 * root + 1)) (G (first + 2 * root + 2)) = true := by assumption
          revert nq
          intro nq1
          have hcw2 : ∀ t, t < d.size → (wr.drewN nq1).cell? ⟨blk, off + t, none⟩ = some (.int .u8 (G t)) := hcw
          have hfw2 : ∀ t, t < d.size → (wr.drewN nq1).frozen? ⟨blk, off + t, none⟩ = false := hfw
          have hch2 := hch.drewN nq1
          have hH2 : ∀ d2, Holds e8 wr blk off d2 → Holds e8 (wr.drewN nq1) blk off d2 := fun d2 h => holds_drewN8 h nq1
          have hsw2 : ∀ (j k : Nat), j < d.size → k < d.size → Holds e8 (((wr.drewN nq1).setCell ⟨blk, off + j, none⟩ (e8 dk[k]!)).setCell ⟨blk, off + k, none⟩ (e8 dk[j]!)) blk off (swp dk j k) := fun j k hj hk => holds_drewN8 (hsw.out j k hj hk) nq1
          clear hcw hfw
          generalize wr.drewN nq1 = wr2 at hcw2 hfw2 hch2 hH2 hsw2 ⊢
          replace hH2 := Lib.hid hH2
          replace hsw2 := Lib.hid hsw2
          go_quiet (first | (go_at_call 59; exact Calls.quiet_of_same (less8 _ _ _)))
          go_wp2_with fail
          · have hS : ltInt (G (first + root)) (G (first + 2 * root + 2)) = false := by
              have : (!ltInt (G (first + root)) (G (first + 2 * root + 2))) = true := by assumption
              simpa using this
            (try simp only [Exit.inBlock, Exit.then])
            refine bodyPost_ret (results_none rfl _ _ _) rfl ?_
            exact ⟨rfl, holds_drewN8 (hH2.out _ (hRs.out h1 hL hS)) _, hch2.drewN _⟩
          · have hS : ltInt (G (first + root)) (G (first + 2 * root + 2)) = true := by
              have : (!ltInt (G (first + root)) (G (first + 2 * root + 2))) = false := by assumption
              simpa using this
            have hcw3 : ∀ t, t < d.size → (wr2.drewN nq).cell? ⟨blk, off + t, none⟩ = some (.int .u8 (G t)) := hcw2
            have hfw3 : ∀ t, t < d.size → (wr2.drewN nq).frozen? ⟨blk, off + t, none⟩ = false := hfw2
            have hch3 := hch2.drewN nq
            have hsw3 := holds_drewN8 (hsw2.out (first + root) (first + (2 * root + 2)) (by omega) (by omega)) nq
            have hsw3 : Holds e8 (((wr2.drewN nq).setCell ⟨blk, off + (first + root), none⟩ (e8 dk[first + (2 * root + 2)]!)).setCell ⟨blk, off + (first + (2 * root + 2)), none⟩ (e8 dk[first + root]!)) blk off (swp dk (first + root) (first + (2 * root + 2))) := hsw3
            rw [← hG.out, ← hG.out] at hsw3
            have hgo := Lib.hid (hRg.out h1 hL hS)
            clear hcw2 hfw2
            generalize wr2.drewN nq = wr3 at hcw3 hfw3 hch3 hsw3 ⊢
            replace hsw3 := Lib.hid hsw3
            go_region
            all_goals
              go_wp2
              go_roundw
              case rel => exact ⟨2 * root + 2, swp dk (first + root) (first + (2 * root + 2)), by go_num, by omega, by rw [size_swp]; exact hds, holds_drewN8 hsw3.out _, (((hch3.setCell (p := ⟨blk, _, none⟩) (.inl rfl) _).setCell (p := ⟨blk, _, none⟩) (.inl rfl) _).drewN _), hgo⟩
              case measure => simp [intOf]; omega
        · have hL : ltInt (G (first + 2 * root + 1)) (G (first + 2 * root + 2)) = false := by assumption
          revert nq
          intro nq1
          have hcw2 : ∀ t, t < d.size → (wr.drewN nq1).cell? ⟨blk, off + t, none⟩ = some (.int .u8 (G t)) := hcw
          have hfw2 : ∀ t, t < d.size → (wr.drewN nq1).frozen? ⟨blk, off + t, none⟩ = false := hfw
          have hch2 := hch.drewN nq1
          have hH2 : ∀ d2, Holds e8 wr blk off d2 → Holds e8 (wr.drewN nq1) blk off d2 := fun d2 h => holds_drewN8 h nq1
          have hsw2 : ∀ (j k : Nat), j < d.size → k < d.size → Holds e8 (((wr.drewN nq1).setCell ⟨blk, off + j, none⟩ (e8 dk[k]!)).setCell ⟨blk, off + k, none⟩ (e8 dk[j]!)) blk off (swp dk j k) := fun j k hj hk => holds_drewN8 (hsw.out j k hj hk) nq1
          clear hcw hfw
          generalize wr.drewN nq1 = wr2 at hcw2 hfw2 hch2 hH2 hsw2 ⊢
          replace hH2 := Lib.hid hH2
          replace hsw2 := Lib.hid hsw2
          go_quiet (first | (go_at_call 59; exact Calls.quiet_of_same (less8 _ _ _)))
          go_wp2_with fail
          · have hS : ltInt (G (first + root)) (G (first + 2 * root + 1)) = false := by
              have : (!ltInt (G (first + root)) (G (first + 2 * root + 1))) = true := by assumption
              simpa using this
            (try simp only [Exit.inBlock, Exit.then])
            refine bodyPost_ret (results_none rfl _ _ _) rfl ?_
            exact ⟨rfl, holds_drewN8 (hH2.out _ (hLs.out (by omega) (fun _ => hL) hS)) _, hch2.drewN _⟩
          · have hS : ltInt (G (first + root)) (G (first + 2 * root + 1)) = true := by
              have : (!ltInt (G (first + root)) (G (first + 2 * root + 1))) = false := by assumption
              simpa using this
            have hcw3 : ∀ t, t < d.size → (wr2.drewN nq).cell? ⟨blk, off + t, none⟩ = some (.int .u8 (G t)) := hcw2
            have hfw3 : ∀ t, t < d.size → (wr2.drewN nq).frozen? ⟨blk, off + t, none⟩ = false := hfw2
            have hch3 := hch2.drewN nq
            have hsw3 := holds_drewN8 (hsw2.out (first + root) (first + (2 * root + 1)) (by omega) (by omega)) nq
            have hsw3 : Holds e8 (((wr2.drewN nq).setCell ⟨blk, off + (first + root), none⟩ (e8 dk[first + (2 * root + 1)]!)).setCell ⟨blk, off + (first + (2 * root + 1)), none⟩ (e8 dk[first + root]!)) blk off (swp dk (first + root) (first + (2 * root + 1))) := hsw3
            rw [← hG.out, ← hG.out] at hsw3
            have hgo := Lib.hid (hLg.out (by omega) (fun _ => hL) hS)
            clear hcw2 hfw2
            generalize wr2.drewN nq = wr3 at hcw3 hfw3 hch3 hsw3 ⊢
            replace hsw3 := Lib.hid hsw3
            go_region
            all_goals
              go_wp2
              go_roundw
              case rel => exact ⟨2 * root + 1, swp dk (first + root) (first + (2 * root + 1)), by go_num, by omega, by rw [size_swp]; exact hds, holds_drewN8 hsw3.out _, (((hch3.setCell (p := ⟨blk, _, none⟩) (.inl rfl) _).setCell (p := ⟨blk, _, none⟩) (.inl rfl) _).drewN _), hgo⟩
              case measure => simp [intOf]; omega
      · have h1z : ¬ 2 * (root : Int) + 1 + 1 < (hi : Int) := by omega
        have hz1 := Lib.hid (show decide (2 * (root : Int) + 1 + 1 < (hi : Int)) = false from decide_eq_false h1z)
        go_wp2_with fail
        replace hz1 := hz1.out
        go_quiet (first | (go_at_call 59; exact Calls.quiet_of_same (less8 _ _ _)))
        go_wp2_with fail
        revert nq
        intro nq1
        have hcw2 : ∀ t, t < d.size → (wr.drewN nq1).cell? ⟨blk, off + t, none⟩ = some (.int .u8 (G t)) := hcw
        have hfw2 : ∀ t, t < d.size → (wr.drewN nq1).frozen? ⟨blk, off + t, none⟩ = false := hfw
        have hch2 := hch.drewN nq1
        have hH2 : ∀ d2, Holds e8 wr blk off d2 → Holds e8 (wr.drewN nq1) blk off d2 := fun d2 h => holds_drewN8 h nq1
        have hsw2 : ∀ (j k : Nat), j < d.size → k < d.size → Holds e8 (((wr.drewN nq1).setCell ⟨blk, off + j, none⟩ (e8 dk[k]!)).setCell ⟨blk, off + k, none⟩ (e8 dk[j]!)) blk off (swp dk j k) := fun j k hj hk => holds_drewN8 (hsw.out j k hj hk) nq1
        have hL : 2 * root + 2 < hi → ltInt (G (first + (2 * root + 1))) (G (first + (2 * root + 2))) = false := fun h => absurd h h1
        clear hcw hfw
        generalize wr.drewN nq1 = wr2 at hcw2 hfw2 hch2 hH2 hsw2 ⊢
        replace hH2 := Lib.hid hH2
        replace hsw2 := Lib.hid hsw2
        go_quiet (first | (go_at_call 59; exact Calls.quiet_of_same (less8 _ _ _)))
        go_wp2_with fail
        · have hS : ltInt (G (first + root)) (G (first + 2 * root + 1)) = false := by
            have : (!ltInt (G (first + root)) (G (first + 2 * root + 1))) = true := by assumption
            simpa using this
          (try simp only [Exit.inBlock, Exit.then])
          refine bodyPost_ret (results_none rfl _ _ _) rfl ?_
          exact ⟨rfl, holds_drewN8 (hH2.out _ (hLs.out (by omega) hL hS)) _, hch2.drewN _⟩
        · have hS : ltInt (G (first + root)) (G (first + 2 * root + 1)) = true := by
            have : (!ltInt (G (first + root)) (G (first + 2 * root + 1))) = false := by assumption
            simpa using this
          have hcw3 : ∀ t, t < d.size → (wr2.drewN nq).cell? ⟨blk, off + t, none⟩ = some (.int .u8 (G t)) := hcw2
          have hfw3 : ∀ t, t < d.size → (wr2.drewN nq).frozen? ⟨blk, off + t, none⟩ = false := hfw2
          have hch3 := hch2.drewN nq
          have hsw3 := holds_drewN8 (hsw2.out (first + root) (first + (2 * root + 1)) (by omega) (by omega)) nq
          have hsw3 : Holds e8 (((wr2.drewN nq).setCell ⟨blk, off + (first + root), none⟩ (e8 dk[first + (2 * root + 1)]!)).setCell ⟨blk, off + (first + (2 * root + 1)), none⟩ (e8 dk[first + root]!)) blk off (swp dk (first + root) (first + (2 * root + 1))) := hsw3
          rw [← hG.out, ← hG.out] at hsw3
          have hgo := Lib.hid (hLg.out (by omega) hL hS)
          clear hcw2 hfw2
          generalize wr2.drewN nq = wr3 at hcw3 hfw3 hch3 hsw3 ⊢
          replace hsw3 := Lib.hid hsw3
          go_region
          all_goals
            go_wp2
            go_roundw
            case rel => exact ⟨2 * root + 1, swp dk (first + root) (first + (2 * root + 1)), by go_num, by omega, by rw [size_swp]; exact hds, holds_drewN8 hsw3.out _, (((hch3.setCell (p := ⟨blk, _, none⟩) (.inl rfl) _).setCell (p := ⟨blk, _, none⟩) (.inl rfl) _).drewN _), hgo⟩
            case measure => simp [intOf]; omega

set_option maxHeartbeats 3200000 in
set_option maxRecDepth 1000000 in
theorem heap8 (blk off cap a b : Nat) (d : Array Int) (w : World) (hH : Holds e8 w blk off d) (hab : a ≤ b) (hb : b ≤ d.size) (hsz : d.size < 1000000) :
    Calls Try.prog 54 #[.slice (some ⟨blk, off, none⟩) d.size cap, .int .i64 a, .int .i64 b] w (RowP8 blk off (Sort.heapSort ltInt d a b) w) := by
  have ecast : ((b - a : Nat) : Int) = (b : Int) - (a : Int) := by omega
  go_enter Try.func54, Try.ntmps54
  go_wp2
  go_loopw [9] (fun vi wr => ∃ (k : Nat) (dk : Array Int), vi = .int .i64 ((k : Int) - 1) ∧ k ≤ (b - a - 1) / 2 + 1 ∧ dk.size = d.size ∧ Holds e8 wr blk off dk ∧ Chg (fun j => j = blk) w wr ∧
      Hid (heapBuild ltInt (b - a) a k dk = heapBuild ltInt (b - a) a ((b - a - 1) / 2 + 1) d)) (fun vi _ => (intOf vi + 1).toNat)
  case atStart => exact ⟨(b - a - 1) / 2 + 1, d, by rw [half_start hab], Nat.le_refl _, rfl, hH, Chg.refl _ _, Lib.hid rfl⟩
  case round =>
    obtain ⟨k, dk, rfl, hkk, hds, hHk, hch, HO⟩ := hrel
    cases k with
    | succ k =>
      have hcall := sift8 blk off d.size cap k (b - a) a dk hds wr hHk (by omega) (by omega) (by omega)
      rw [ecast] at hcall
      have hk0 : (0 : Int) ≤ (k : Int) := by omega
      replace hHk := Lib.hid hHk
      go_wp2_with (go_at_call 64; refine hcall.mono ?_; rintro e w1 ⟨rfl, hH1, hc1⟩)
      go_roundw
      case rel => exact ⟨k, siftDown ltInt (b - a) a k dk, by go_num, by omega, by rw [size_siftDown ltInt _ _ _ _ _ (Nat.le_refl _)]; exact hds, hH1, hch.trans hc1 (fun _ h _ => h), HO⟩
      case measure => simp [intOf]; try omega
    | zero =>
      have hB : dk = heapBuild ltInt (b - a) a ((b - a - 1) / 2 + 1) d := HO.out
      replace hB := Lib.hid hB
      rw [show (((0 : Nat) : Int) - 1) = -1 from rfl]
      go_wp2
      obtain ⟨wo, rfl⟩ : ∃ wo, wo = wr := ⟨wr, rfl⟩
      go_loopw [10] (fun vi wq => ∃ (k : Nat) (dj : Array Int), vi = .int .i64 ((k : Int) - 1) ∧ k ≤ b - a ∧ dj.size = d.size ∧ Holds e8 wq blk off dj ∧ Chg (fun j => j = blk) w wq ∧
          Hid (heapPop ltInt a k dj = heapPop ltInt a (b - a) dk)) (fun vi _ => (intOf vi + 1).toNat)
      case atStart => exact ⟨b - a, dk, by rw [ecast], Nat.le_refl _, hds, hHk, hch, Lib.hid rfl⟩
      case round =>
        obtain ⟨k, dj, rfl, hkk, hdj, hHj, hcj, HP⟩ := hrel
        cases k with
        | zero =>
          have e : dj = heapSort ltInt d a b := by rw [heapSort, ← hB.out, ← HP.out]; rfl
          go_wp2
          go_end0
          exact ⟨rfl, by rw [← e]; exact hHj, hcj⟩
        | succ k =>
          obtain ⟨G, hG⟩ : ∃ G : Nat → Int, ∀ t, G t = dj[t]! := ⟨fun t => dj[t]!, fun _ => rfl⟩
          have hcw : ∀ t, t < d.size → wr.cell? ⟨blk, off + t, none⟩ = some (.int .u8 (G t)) := fun t ht => by rw [hG]; exact (hHj t (by omega)).1
          have hfw : ∀ t, t < d.size → wr.frozen? ⟨blk, off + t, none⟩ = false := fun t ht => (hHj t (by omega)).2
          have hk0 : (0 : Int) ≤ (k : Int) := by omega
          have hsw := holds_swp8 hHj (j := a) (k := a + k) (by omega) (by omega)
          rw [← hG, ← hG] at hsw
          have hcall := fun (W : World) (h : Holds e8 W blk off (swp dj a (a + k))) => sift8 blk off d.size cap 0 k a (swp dj a (a + k)) (by rw [size_swp]; exact hdj) W h (Nat.zero_le _) (by rw [size_swp]; omega) (by rw [size_swp]; omega)
          replace hsw := Lib.hid hsw
          replace hG := Lib.hid hG
          replace hcall := Lib.hid hcall
          replace hHj := Lib.hid hHj
          have hfin : ∀ w1, Holds e8 w1 blk off (siftDown ltInt k a 0 (swp dj a (a + k))) → Chg (fun j => j = blk) w w1 → ∃ (k' : Nat) (d' : Array Int), Value.int .i64 ((k : Int) - 1) = .int .i64 ((k' : Int) - 1) ∧ k' ≤ b - a ∧ d'.size = d.size ∧ Holds e8 w1 blk off d' ∧ Chg (fun j => j = blk) w w1 ∧
              Hid (heapPop ltInt a k' d' = heapPop ltInt a (b - a) dk) := fun w1 h1 h2 => ⟨k, _, rfl, by omega, by rw [size_siftDown ltInt _ _ _ _ _ (Nat.le_refl _), size_swp]; exact hdj, h1, h2, HP⟩
          replace hfin := Lib.hid hfin
          rcases Nat.eq_zero_or_pos k with hk1 | hk1
          · subst hk1
            go_wp2_with fail
            go_region
            all_goals
              go_wp2_with (go_at_call 64; refine (hcall.out _ (holds_drewN8 hsw.out _)).mono ?_; rintro e w1 ⟨rfl, hH1, hc1⟩)
              go_wp2
              go_roundw
              case rel =>
                obtain ⟨k', d', h1, h2⟩ := hfin.out w1 hH1 ((((hcj.setCell (p := ⟨blk, _, none⟩) (.inl rfl) _).setCell (p := ⟨blk, _, none⟩) (.inl rfl) _).drewN _).trans hc1 (fun _ h _ => h))
                exact ⟨k', d', by rw [← h1]; try go_num, h2⟩
              case measure => simp [intOf]; try omega
          · go_wp2_with fail
            go_region
            all_goals
              go_wp2_with (go_at_call 64; refine (hcall.out _ (holds_drewN8 hsw.out _)).mono ?_; rintro e w1 ⟨rfl, hH1, hc1⟩)
              go_wp2
              go_roundw
              case rel =>
                obtain ⟨k', d', h1, h2⟩ := hfin.out w1 hH1 ((((hcj.setCell (p := ⟨blk, _, none⟩) (.inl rfl) _).setCell (p := ⟨blk, _, none⟩) (.inl rfl) _).drewN _).trans hc1 (fun _ h _ => h))
                exact ⟨k', d', by rw [← h1]; try go_num, h2⟩
              case measure => simp [intOf]; try omega
end Go.Proofs.Ytkgmbomfkdkofaa

/- slices.Sort at []byte: order2Ordered, medianOrdered, medianAdjacentOrdered, choosePivotOrdered answer places between the ends, and change nothing but the count of exchanges. -/
namespace Go.Proofs.Ytkgmbomfkdkofaa
open Go Go.RowKit Go.Sort

def Ord2Post (a b sb s : Nat) (w : World) (e : Ending) (w' : World) : Prop :=
  ∃ x y s' : Nat, e = .returned (.tuple #[.int .i64 x, .int .i64 y]) ∧ ((x = a ∧ y = b) ∨ (x = b ∧ y = a)) ∧ s' ≤ s + 1 ∧ Blk w' sb 3 #[.int .i64 s'] ∧ Chg (fun k => k = sb) w w'

set_option maxHeartbeats 1000000 in
theorem order28 (blk off n cap a b sb s : Nat) (d : Array Int) (hn : d.size = n) (w : World) (hH : Holds e8 w blk off d) (ha : a < n) (hb : b < n) (hS : Blk w sb 3 #[.int .i64 s]) (hs : s ≤ 1000) :
    Calls Try.prog 70 #[.slice (some ⟨blk, off, none⟩) n cap, .int .i64 a, .int .i64 b, .pointer (some ⟨sb, 0, none⟩)] w (Ord2Post a b sb s w) := by
  subst hn
  obtain ⟨G, hG⟩ : ∃ G : Nat → Int, ∀ t, G t = d[t]! := ⟨fun t => d[t]!, fun _ => rfl⟩
  have hcw : ∀ t, t < d.size → w.cell? ⟨blk, off + t, none⟩ = some (.int .u8 (G t)) := fun t ht => by rw [hG]; exact (hH t (by omega)).1
  have c0 : w.cell? ⟨sb, 0, none⟩ = some (.int .i64 s) := (hS.cell 0).trans rfl
  have f0 := hS.frozen 0
  have hS1 := hS.set 0 (.int .i64 ((s + 1 : Nat) : Int))
  replace hS := Lib.hid hS
  replace hS1 := Lib.hid hS1
  replace hH := Lib.hid hH
  replace hG := Lib.hid hG
  go_enter Try.func70, Try.ntmps70
  go_wp2
  go_quiet (first | (go_at_call 59; exact Calls.quiet_of_same (less8 _ _ _)))
  go_wp2
  · go_ret2
    exact ⟨b, a, s + 1, rfl, .inr ⟨rfl, rfl⟩, Nat.le_refl _, hS1.out, ((Chg.refl (fun k => k = sb) w).drewN _).setCell (p := ⟨sb, 0, none⟩) (.inl rfl) _⟩
  · go_ret2
    exact ⟨a, b, s, rfl, .inl ⟨rfl, rfl⟩, by omega, hS.out, (Chg.refl (fun k => k = sb) w).drewN _⟩

def MedPost (lo hi sb s : Nat) (w : World) (e : Ending) (w' : World) : Prop :=
  ∃ x s' : Nat, e = .returned (.int .i64 x) ∧ lo ≤ x ∧ x < hi ∧ s' ≤ s + 3 ∧ Blk w' sb 3 #[.int .i64 s'] ∧ Chg (fun k => k = sb) w w'

set_option maxHeartbeats 1000000 in
theorem median8 (blk off n cap a b c sb s lo hi : Nat) (d : Array Int) (hn : d.size = n) (w : World) (hH : Holds e8 w blk off d) (hbl : blk < w.heap.size) (hne : blk ≠ sb) (ha : lo ≤ a ∧ a < hi) (hb : lo ≤ b ∧ b < hi) (hc : lo ≤ c ∧ c < hi) (hhi : hi ≤ n) (hS : Blk w sb 3 #[.int .i64 s]) (hs : s ≤ 100) :
    Calls Try.prog 68 #[.slice (some ⟨blk, off, none⟩) n cap, .int .i64 a, .int .i64 b, .int .i64 c, .pointer (some ⟨sb, 0, none⟩)] w (MedPost lo hi sb s w) := by
  have t1 := Lib.hid trivial
  have t2 := Lib.hid trivial
  replace hH := Lib.hid hH
  replace hS := Lib.hid hS
  go_enter Try.func68, Try.ntmps68
  go_wp2_with (first
    | (go_at_call 70
       clear t1
       refine (order28 blk off n cap a b sb s d hn w hH.out (by omega) (by omega) hS.out (by omega)).mono ?_
       rintro e1 w1 ⟨x1, y1, s1, rfl, hxy1, hs1, hS1, hc1⟩
       have hx1 : (lo ≤ x1 ∧ x1 < hi) ∧ (lo ≤ y1 ∧ y1 < hi) := by rcases hxy1 with ⟨h1, h2⟩ | ⟨h1, h2⟩ <;> (rw [h1, h2]; exact ⟨by assumption, by assumption⟩)
       replace hxy1 := Lib.hid hxy1
       have hH1 := Lib.hid (holds_chg8 hH.out hc1 hbl hne)
       replace hS1 := Lib.hid hS1)
    | (go_at_call 70
       clear t2
       refine (order28 blk off n cap y1 c sb s1 d hn w1 hH1.out (by omega) (by omega) hS1.out (by omega)).mono ?_
       rintro e2 w2 ⟨x2, y2, s2, rfl, hxy2, hs2, hS2, hc2⟩
       have hx2 : (lo ≤ x2 ∧ x2 < hi) ∧ (lo ≤ y2 ∧ y2 < hi) := by rcases hxy2 with ⟨h1, h2⟩ | ⟨h1, h2⟩ <;> (rw [h1, h2]; first | exact ⟨hx1.2, hc⟩ | exact ⟨hc, hx1.2⟩)
       replace hxy2 := Lib.hid hxy2
       have hH2 := Lib.hid (holds_chg8 hH1.out hc2 (Nat.lt_of_lt_of_le hbl hc1.size) hne)
       replace hS2 := Lib.hid hS2)
    | (go_at_call 70
       refine (order28 blk off n cap x1 x2 sb s2 d hn w2 hH2.out (by omega) (by omega) hS2.out (by omega)).mono ?_
       rintro e3 w3 ⟨x3, y3, s3, rfl, hxy3, hs3, hS3, hc3⟩
       have hx3 : lo ≤ y3 ∧ y3 < hi := by rcases hxy3 with ⟨h1, h2⟩ | ⟨h1, h2⟩ <;> (rw [h2]; first | exact hx2.1 | exact hx1.1)
       replace hxy3 := Lib.hid hxy3
       replace hS3 := Lib.hid hS3))
  go_ret
  exact ⟨y3, s3, rfl, hx3.1, hx3.2, by omega, hS3.out, (hc1.trans hc2 (fun _ h _ => h)).trans hc3 (fun _ h _ => h)⟩

set_option maxHeartbeats 1000000 in
theorem medAdj8 (blk off n cap a sb s lo hi : Nat) (d : Array Int) (hn : d.size = n) (w : World) (hH : Holds e8 w blk off d) (hbl : blk < w.heap.size) (hne : blk ≠ sb) (ha : lo + 1 ≤ a ∧ a + 1 < hi) (hhi : hi ≤ n) (hsz : n < 1000000) (hS : Blk w sb 3 #[.int .i64 s]) (hs : s ≤ 100) :
    Calls Try.prog 67 #[.slice (some ⟨blk, off, none⟩) n cap, .int .i64 a, .pointer (some ⟨sb, 0, none⟩)] w (MedPost lo hi sb s w) := by
  have hm := median8 blk off n cap (a - 1) a (a + 1) sb s lo hi d hn w hH hbl hne (by omega) (by omega) (by omega) hhi hS hs
  rw [show ((a - 1 : Nat) : Int) = (a : Int) - 1 by omega, show ((a + 1 : Nat) : Int) = (a : Int) + 1 by omega] at hm
  have h1 : (1 : Int) ≤ (a : Int) := by omega
  clear hH hS
  go_enter Try.func67, Try.ntmps67
  go_wp2_with (go_at_call 68; refine hm.mono ?_; rintro e1 w1 ⟨x, s1, rfl, r1, r2, r3, r4, r5⟩)
  go_ret
  exact ⟨x, s1, rfl, r1, r2, r3, r4, r5⟩

def PivPost (a b : Nat) (w : World) (e : Ending) (w' : World) : Prop :=
  ∃ (x : Nat) (h : Int), e = .returned (.tuple #[.int .i64 x, .int .i64 h]) ∧ a ≤ x ∧ x < b ∧ (h = 0 ∨ h = 1 ∨ h = 2) ∧ Chg (fun _ => False) w w'

set_option maxHeartbeats 4000000 in
set_option maxRecDepth 100000 in
theorem pivot8 (blk off n cap a b : Nat) (d : Array Int) (hn : d.size = n) (w : World) (hH : Holds e8 w blk off d) (hbl : blk < w.heap.size) (hab : a < b) (hb : b ≤ n) (hsz : n < 1000000) :
    Calls Try.prog 56 #[.slice (some ⟨blk, off, none⟩) n cap, .int .i64 a, .int .i64 b] w (PivPost a b w) := by
  obtain ⟨l, hl⟩ : ∃ l, b = a + l := ⟨b - a, by omega⟩
  obtain ⟨m, hm⟩ : ∃ m, m = l / 4 := ⟨_, rfl⟩
  have hq1 : (b : Int) - (a : Int) = (l : Int) := by omega
  have hq2 : (l : Int).tdiv 4 = (m : Int) := by rw [Int.tdiv_eq_ediv_of_nonneg (by omega)]; omega
  have hq3 : (l : Int) / 4 = (m : Int) := by omega
  have hml : m * 4 ≤ l ∧ l < m * 4 + 4 := by omega
  have hH0 := holds_chg8 hH ((Chg.refl (fun _ => False) w).alloc (.cells #[.int .i64 0] 3)) hbl (fun h => h)
  have hS0 : Blk (w.alloc (.cells #[.int .i64 0] 3)) w.heap.size 3 #[.int .i64 ((0 : Nat) : Int)] := Blk.new _ _ _
  have hne : blk ≠ w.heap.size := by omega
  have hbl0 : blk < (w.alloc (.cells #[.int .i64 0] 3)).heap.size := by simp; omega
  have hc0 : Chg (fun _ => False) w (w.alloc (.cells #[.int .i64 0] 3)) := (Chg.refl (fun _ => False) w).alloc _
  replace hH0 := Lib.hid hH0
  replace hS0 := Lib.hid hS0
  replace hm := Lib.hid hm
  replace hl := Lib.hid hl
  have ha0 : (0 : Int) ≤ (a : Int) := by omega
  by_cases h8 : 8 ≤ l
  · have h8' : (8 : Int) ≤ (l : Int) := by omega
    have hmd := fun (x y z s : Nat) (W : World) (h : Holds e8 W blk off d) (h1 : blk < W.heap.size) (hx : a ≤ x ∧ x < b) (hy : a ≤ y ∧ y < b) (hz : a ≤ z ∧ z < b) (hS : Blk W w.heap.size 3 #[.int .i64 s]) (hs : s ≤ 100) => median8 blk off n cap x y z w.heap.size s a b d hn W h h1 hne hx hy hz hb hS hs
    by_cases h50 : 50 ≤ l
    · have h50' : (50 : Int) ≤ (l : Int) := by omega
      have hma := fun (x s : Nat) (xi : Int) (hxi : xi = (x : Int)) (W : World) (h : Holds e8 W blk off d) (h1 : blk < W.heap.size) (hx : a + 1 ≤ x ∧ x + 1 < b) (hS : Blk W w.heap.size 3 #[.int .i64 s]) (hs : s ≤ 100) => (show Calls Try.prog 67 #[.slice (some ⟨blk, off, none⟩) n cap, .int .i64 xi, .pointer (some ⟨w.heap.size, 0, none⟩)] W (MedPost a b w.heap.size s W) from by
        rw [hxi]; exact medAdj8 blk off n cap x w.heap.size s a b d hn W h h1 hne hx hb hsz hS hs)
      have t1 := Lib.hid trivial
      have t2 := Lib.hid trivial
      have hll := hl.out
      replace hmd := Lib.hid hmd
      replace hma := Lib.hid hma
      replace hll := Lib.hid hll
      go_enter Try.func56, Try.ntmps56
      go_wp2_with (first
        | (go_at_call 67
           clear t1
           refine (hma.out (a + m) 0 _ (by omega) _ hH0.out hbl0 (by have := hll.out; omega) hS0.out (by omega)).mono ?_
           rintro e1 w1 ⟨x1, s1, rfl, lo1, hi1, hs1, hS1, hc1⟩
           have hH1 := Lib.hid (holds_chg8 hH0.out hc1 hbl0 hne)
           have hb1 := Nat.lt_of_lt_of_le hbl0 hc1.size
           replace hS1 := Lib.hid hS1)
        | (go_at_call 67
           clear t2
           refine (hma.out (a + m * 2) s1 _ (by omega) _ hH1.out hb1 (by have := hll.out; omega) hS1.out (by omega)).mono ?_
           rintro e2 w2 ⟨x2, s2, rfl, lo2, hi2, hs2, hS2, hc2⟩
           have hH2 := Lib.hid (holds_chg8 hH1.out hc2 hb1 hne)
           have hb2 := Nat.lt_of_lt_of_le hb1 hc2.size
           replace hS2 := Lib.hid hS2)
        | (go_at_call 67
           refine (hma.out (a + m * 3) s2 _ (by omega) _ hH2.out hb2 (by have := hll.out; omega) hS2.out (by omega)).mono ?_
           rintro e3 w3 ⟨x3, s3, rfl, lo3, hi3, hs3, hS3, hc3⟩
           have hH3 := Lib.hid (holds_chg8 hH2.out hc3 hb2 hne)
           have hb3 := Nat.lt_of_lt_of_le hb2 hc3.size
           replace hS3 := Lib.hid hS3)
        | (go_at_call 68
           refine (hmd.out x1 x2 x3 s3 _ hH3.out hb3 ⟨lo1, hi1⟩ ⟨lo2, hi2⟩ ⟨lo3, hi3⟩ hS3.out (by omega)).mono ?_
           rintro e4 w4 ⟨x4, s4, rfl, lo4, hi4, hs4, hS4, hc4⟩
           have c4 : w4.cell? ⟨w.heap.size, 0, none⟩ = some (.int .i64 s4) := (hS4.cell 0).trans rfl
           have hcc : Chg (fun _ => False) w w4 := hc0.trans (((hc1.trans hc2 (fun _ h _ => h)).trans hc3 (fun _ h _ => h)).trans hc4 (fun _ h _ => h)) (fun k hk hlt => by omega)))
      all_goals
        go_ret2
        first
          | exact ⟨x4, 1, rfl, lo4, hi4, by simp, hcc⟩
          | exact ⟨x4, 2, rfl, lo4, hi4, by simp, hcc⟩
          | exact ⟨x4, 0, rfl, lo4, hi4, by simp, hcc⟩
    · have h50' : ¬ (50 : Int) ≤ (l : Int) := by omega
      have hll := hl.out
      have hm4 := hmd (a + m) (a + m * 2) (a + m * 3) 0 _ hH0.out hbl0 (by omega) (by omega) (by omega) hS0.out (by omega)
      rw [show ((a + m : Nat) : Int) = (a : Int) + (m : Int) by omega, show ((a + m * 2 : Nat) : Int) = (a : Int) + (m : Int) * 2 by omega, show ((a + m * 3 : Nat) : Int) = (a : Int) + (m : Int) * 3 by omega] at hm4
      replace hll := Lib.hid hll
      replace hm4 := Lib.hid hm4
      clear hmd
      go_enter Try.func56, Try.ntmps56
      go_wp2_with (first
        | (go_at_call 68
           refine hm4.out.mono ?_
           rintro e4 w4 ⟨x4, s4, rfl, lo4, hi4, hs4, hS4, hc4⟩
           have c4 : w4.cell? ⟨w.heap.size, 0, none⟩ = some (.int .i64 s4) := (hS4.cell 0).trans rfl
           have hcc : Chg (fun _ => False) w w4 := hc0.trans hc4 (fun k hk hlt => by omega)))
      all_goals
        go_ret2
        first
          | exact ⟨x4, 1, rfl, lo4, hi4, by simp, hcc⟩
          | exact ⟨x4, 2, rfl, lo4, hi4, by simp, hcc⟩
          | exact ⟨x4, 0, rfl, lo4, hi4, by simp, hcc⟩
  · have h8' : ¬ (8 : Int) ≤ (l : Int) := by omega
    have hx : a ≤ a + m * 2 ∧ a + m * 2 < b := by have := hl.out; omega
    have hxi : (a : Int) + (m : Int) * 2 = ((a + m * 2 : Nat) : Int) := by omega
    replace hxi := Lib.hid hxi
    go_enter Try.func56, Try.ntmps56
    go_wp2
    go_ret2
    exact ⟨a + m * 2, 1, by rw [← hxi.out]; rfl, hx.1, hx.2, by simp, hc0⟩
end Go.Proofs.Ytkgmbomfkdkofaa
