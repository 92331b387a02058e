/- slices.Sort at []byte: pdqsortOrdered sorts. -/
import Derived.Test.YtkgmbomfkdkofaaSortF
import Derived.Sort.AssemblyPlain
import Derived.Deep.Cut
import Derived.Lib.SlicesCompact
namespace Go.Proofs.Ytkgmbomfkdkofaa
open Go Go.RowKit Go.Sort

/-- The state of the sort's loop: what remains is the part from a' to b'. -/
structure PSt (a b : Nat) (d : Array Int) (a' b' : Nat) (dk : Array Int) : Prop where
  sz : dk.size = d.size
  bel : Below ltInt a' b' dk
  fin : ∀ R, PermIn a' b' dk R → SortedIn ltInt a' b' R → PermIn a b d R ∧ SortedIn ltInt a b R

theorem PSt.refl {a b : Nat} {d : Array Int} (h : Below ltInt a b d) : PSt a b d a b d := ⟨rfl, h, fun _ h1 h2 => ⟨h1, h2⟩⟩
theorem PSt.perm {a b a' b' : Nat} {d dk dl : Array Int} (h : PSt a b d a' b' dk) (hb : b' ≤ d.size) (p : PermIn a' b' dk dl) : PSt a b d a' b' dl :=
  ⟨p.1.trans h.sz, h.bel.perm (by rw [h.sz]; exact hb) p, fun R h1 h2 => h.fin R (permIn_trans _ _ _ a' b' p h1) h2⟩

def RowAt (w : World) (blk off : Nat) (dk : Array Int) (wr : World) : Prop := Holds e8 wr blk off dk ∧ Chg (fun k => k = blk) w wr
theorem RowAt.step {w wr w1 : World} {blk off : Nat} {dk dl : Array Int} (h : RowAt w blk off dk wr) (h1 : Holds e8 w1 blk off dl) (c : Chg (fun k => k = blk) wr w1) : RowAt w blk off dl w1 := ⟨h1, h.2.trans c (fun _ h _ => h)⟩
theorem RowAt.same {w wr w1 : World} {blk off : Nat} {dk : Array Int} (h : RowAt w blk off dk wr) (hb : blk < w.heap.size) (c : Chg (fun _ => False) wr w1) : RowAt w blk off dk w1 :=
  ⟨holds_chg8 h.1 c (Nat.lt_of_lt_of_le hb h.2.size) (fun h => h), h.2.trans c (fun _ h _ => h.elim)⟩
theorem RowAt.drewN {w wr : World} {blk off : Nat} {dk : Array Int} (h : RowAt w blk off dk wr) (n : Nat) : RowAt w blk off dk (wr.drewN n) := ⟨holds_drewN8 h.1 n, h.2.drewN n⟩

def SortPost (blk off a b : Nat) (d : Array Int) (w : World) (e : Ending) (w' : World) : Prop :=
  ∃ d', e = .returned (.tuple #[]) ∧ PermIn a b d d' ∧ SortedIn ltInt a b d' ∧ RowAt w blk off d' w'

theorem eighth8 {x y p q : Nat} (h1 : q ≤ p) (h2 : y ≤ x) : decide (((x : Int) - (y : Int)) / 8 ≤ (p : Int) - (q : Int)) = decide (p - q ≥ (x - y) / 8) :=
  decide_eq_decide.2 ⟨fun h => by omega, fun h => by omega⟩

set_option maxHeartbeats 6400000 in
set_option maxRecDepth 1000000 in
theorem pdq8 : ∀ (N blk off cap a b limit n : Nat) (d : Array Int) (w : World), b - a < N → d.size = n → Holds e8 w blk off d → blk < w.heap.size → a ≤ b → b ≤ n → n < 1000000 → limit < 1000000 → Below ltInt a b d →
    Calls Try.prog 51 #[.slice (some ⟨blk, off, none⟩) n cap, .int .i64 a, .int .i64 b, .int .i64 limit] w (SortPost blk off a b d w) := by
  intro N
  induction N with
  | zero => intro _ _ _ _ _ _ _ _ _ h; exact absurd h (Nat.not_lt_zero _)
  | succ N ih =>
    intro blk off cap a b limit n d w hN hn hH hblk hab hb hsz hlimit hBel0
    go_enter Try.func51, Try.ntmps51
    go_wp2
    go_loopg [1, 2, 3, 8, 9] (b - a) (fun k s1 s2 s3 s8 s9 wr => ∃ (a' b' lim : Nat) (wb wp : Bool) (dk : Array Int), s1 = .int .i64 a' ∧ s2 = .int .i64 b' ∧ s3 = .int .i64 lim ∧ s8 = .bool wb ∧ s9 = .bool wp ∧
      a' ≤ b' ∧ b' ≤ n ∧ b' - a' ≤ k ∧ k ≤ b - a ∧ lim ≤ limit ∧ Hid (PSt a b d a' b' dk) ∧ Hid (RowAt w blk off dk wr))
    case atStart => exact ⟨a, b, limit, true, true, d, rfl, rfl, rfl, rfl, rfl, hab, hb, Nat.le_refl _, Nat.le_refl _, Nat.le_refl _, Lib.hid (PSt.refl hBel0), Lib.hid ⟨hH, Chg.refl _ _⟩⟩
    case round =>
      obtain ⟨a', b', lim, wb, wp, dk, rfl, rfl, rfl, rfl, rfl, hab', hb', hk, hkN, hlim, hP, hR⟩ := hrel
      replace hH := Lib.hid hH
      have hds := hP.out.sz.trans hn
      have hbw := Nat.lt_of_lt_of_le hblk hR.out.2.size
      by_cases h12 : b' - a' ≤ 12
      · have h12z : (b' : Int) - (a' : Int) ≤ 12 := by omega
        have hc := insertion8 blk off cap a' b' dk wr hR.out.1 hab' (by omega) (by omega)
        rw [hds] at hc
        go_wp2_with (go_at_call 53; refine hc.mono ?_; rintro e w1 ⟨rfl, hw1, hc1⟩)
        (try simp only [Exit.inBlock, Exit.then]); refine bodyPost_ret (results_none rfl _ _ _) rfl ?_
        have hi := insertionSort_holds swo_ltInt dk a' b' hab' (by omega)
        have hf := hP.out.fin _ hi.1 hi.2
        exact ⟨_, rfl, hf.1, hf.2, hR.out.step hw1 hc1⟩
      · have h12z : ¬ ((b' : Int) - (a' : Int) ≤ 12) := by omega
        by_cases hl0 : lim = 0
        · subst hl0
          have hc := heap8 blk off cap a' b' dk wr hR.out.1 hab' (by omega) (by omega)
          rw [hds] at hc
          go_wp2_with (go_at_call 54; refine hc.mono ?_; rintro e w1 ⟨rfl, hw1, hc1⟩)
          (try simp only [Exit.inBlock, Exit.then]); refine bodyPost_ret (results_none rfl _ _ _) rfl ?_
          have hi := heapSort_holds swo_ltInt dk a' b' hab' (by omega)
          have hf := hP.out.fin _ hi.1 hi.2
          exact ⟨_, rfl, hf.1, hf.2, hR.out.step hw1 hc1⟩
        · have hl0z : ¬ ((lim : Int) = 0) := by omega
          go_upto_if 35 with fail
          go_cut [3] from 19 (fun s3 wc => ∃ (l1 : Nat) (d1 : Array Int), s3 = .int .i64 l1 ∧ l1 ≤ limit ∧ Hid (PSt a b d a' b' d1) ∧ Hid (RowAt w blk off d1 wc))
          case first =>
            cases wb
            · have hc := break8 blk off cap a' b' dk wr hR.out.1 hbw hab' (by omega) (by omega)
              rw [hds] at hc
              go_wp2_with (go_at_call 55; refine hc.mono ?_; rintro e w1 ⟨d1, rfl, hp1, hw1, hc1⟩)
              go_meet
              case rel => exact ⟨lim - 1, d1, by go_num, by omega, Lib.hid (hP.out.perm (by omega) hp1), Lib.hid (hR.out.step hw1 hc1)⟩
            · go_wp2_with fail
              go_meet
              case rel => exact ⟨lim, dk, rfl, hlim, hP, hR⟩
          case rest =>
            clear hP hR hds hbw
            obtain ⟨l1, d1, rfl, hl1, hP, hR⟩ := hcut
            have hds := hP.out.sz.trans hn
            have hbw := Nat.lt_of_lt_of_le hblk hR.out.2.size
            have hc17 := pivot8 blk off n cap a' b' d1 hds wc hR.out.1 hbw (by omega) (by omega) (by omega)
            go_upto_if 50 with (go_at_call 56; refine hc17.mono ?_; rintro e w2 ⟨pv, hv, rfl, hpv1, hpv2, hh, hc2⟩)
            have hR2 := Lib.hid (hR.out.same hblk hc2)
            clear hR hbw hc2 hc17
            have hbw := Nat.lt_of_lt_of_le hblk hR2.out.2.size
            go_cut [11, 12] from 19 (fun s11 s12 wc => ∃ (p2 : Nat) (h2 : Int) (d2 : Array Int), s11 = .int .i64 p2 ∧ s12 = .int .i64 h2 ∧ a' ≤ p2 ∧ p2 < b' ∧ Hid (PSt a b d a' b' d2) ∧ Hid (RowAt w blk off d2 wc))
            case first =>
              by_cases hh2 : hv = 2
              · subst hh2
                have hc18 := reverse8 blk off cap a' b' d1 w2 hR2.out.1 hab' (by omega) (by omega)
                rw [hds] at hc18
                go_wp2_with (go_at_call 57; refine hc18.mono ?_; rintro e w3 ⟨rfl, hw3, hc3⟩)
                go_meet
                case rel => exact ⟨b' - 1 - (pv - a'), 1, _, by go_num, rfl, by omega, by omega, Lib.hid (hP.out.perm (by omega) (reverseRange_holds d1 a' b' hab' (by omega))), Lib.hid (hR2.out.step hw3 hc3)⟩
              · go_wp2_with fail
                go_meet
                case rel => exact ⟨pv, hv, d1, rfl, rfl, hpv1, hpv2, hP, hR2⟩
            case rest =>
              clear hP hR2 hds hbw hh hpv1 hpv2
              obtain ⟨p2, h2, d2, rfl, rfl, hpv1, hpv2, hP, hR⟩ := hcut
              have hds := hP.out.sz.trans hn
              have hbw := Nat.lt_of_lt_of_le hblk hR.out.2.size
              go_upto_region 15 with fail
              go_cut [12, 68] from 19 (fun s12 s68 wx => ∃ c : Bool, s68 = .bool c ∧ wx = wc)
              case first =>
                by_cases hh1 : h2 = 1
                · subst hh1
                  cases wb <;> cases wp <;> (go_wp2_with fail; go_meet; exact ⟨_, rfl, rfl⟩)
                · cases wb <;> cases wp <;> (go_wp2_with fail; go_meet; exact ⟨_, rfl, rfl⟩)
              case rest =>
                obtain ⟨c, rfl, rfl⟩ := hcut
                go_upto_if 68 with fail
                go_cut [] from 19 (fun wx => ∃ d3, Hid (PSt a b d a' b' d3) ∧ Hid (RowAt w blk off d3 wx))
                case first =>
                  cases c
                  · go_wp2_with fail
                    go_meet
                    case rel => exact ⟨d2, hP, hR⟩
                  · have hc19 := partIns8 blk off cap a' b' d2 wc hR.out.1 (by omega) (by omega) (by omega)
                    rw [hds] at hc19
                    have hpi := partialInsertionSort_holds swo_ltInt d2 a' b' (by omega) (by omega) hP.out.bel
                    generalize Sort.partialInsertionSort ltInt d2 a' b' = pi at hc19 hpi
                    obtain ⟨d3, q3⟩ := pi
                    have hP3 := Lib.hid (hP.out.perm (by omega) hpi.1)
                    replace hpi := Lib.hid hpi
                    cases q3
                    · go_wp2_with (go_at_call 58; refine hc19.mono ?_; rintro e w4 ⟨rfl, hw4, hc4⟩)
                      go_meet
                      exact ⟨d3, hP3, Lib.hid (hR.out.step hw4 hc4)⟩
                    · go_wp2_with (go_at_call 58; refine hc19.mono ?_; rintro e w4 ⟨rfl, hw4, hc4⟩)
                      (try simp only [Exit.inBlock, Exit.then]); refine bodyPost_ret (results_none rfl _ _ _) rfl ?_
                      have hf := hP.out.fin _ hpi.out.1 (hpi.out.2 (by first | trivial | rfl))
                      exact ⟨d3, rfl, hf.1, hf.2, hR.out.step hw4 hc4⟩
                case rest =>
                  clear hP hR hds hbw
                  obtain ⟨d3, hP, hR⟩ := hcut
                  have hds := hP.out.sz.trans hn
                  have hbw := Nat.lt_of_lt_of_le hblk hR.out.2.size
                  obtain ⟨G, hG⟩ : ∃ G : Nat → Int, ∀ t, G t = d3[t]! := ⟨fun t => d3[t]!, fun _ => rfl⟩
                  have hcw : ∀ t, t < n → wc.cell? ⟨blk, off + t, none⟩ = some (.int .u8 (G t)) := fun t ht => by rw [hG]; exact (hR.out.1 t (by omega)).1
                  have hfw : ∀ t, t < n → wc.frozen? ⟨blk, off + t, none⟩ = false := fun t ht => (hR.out.1 t (by omega)).2
                  replace hG := Lib.hid hG
                  go_upto_region 17 with fail
                  go_cut [87] from 19 (fun s87 wx => ∃ c : Bool, s87 = .bool c ∧ Hid (c = true → 0 < a' ∧ ltInt d3[a' - 1]! d3[p2]! = false) ∧ Hid (RowAt w blk off d3 wx))
                  case first =>
                    rcases Nat.eq_zero_or_pos a' with ha0 | ha0
                    · have ha0z : decide ((a' : Int) > 0) = false := decide_eq_false (by omega)
                      go_big_quiet (first | (go_at_call 59; refine Calls.quiet_of_same (less8 _ _ _)))
                      go_wp2_with fail
                      go_meet
                      case rel => exact ⟨false, by simp, Lib.hid (fun h => by cases h), Lib.hid (hR.out.drewN nq)⟩
                    · have ha0z : (a' : Int) > 0 := by omega
                      go_big_quiet (first | (go_at_call 59; refine Calls.quiet_of_same (less8 _ _ _)))
                      go_wp2_with fail
                      go_meet
                      case rel => exact ⟨_, rfl, Lib.hid (fun h => ⟨ha0, by rw [← hG.out, ← hG.out]; simpa using h⟩), Lib.hid (hR.out.drewN nq)⟩
                  case rest =>
                    clear hR hbw
                    obtain ⟨c, rfl, h87, hR⟩ := hcut
                    clear hcw hfw
                    have hbw := Nat.lt_of_lt_of_le hblk hR.out.2.size
                    cases c
                    · have hc22 := part8 blk off cap a' b' p2 d3 wc hR.out.1 hpv1 hpv2 (by omega) (by omega)
                      rw [hds] at hc22
                      obtain ⟨mid, ap, d4, hx⟩ : ∃ mid ap d4, Sort.partition ltInt d3 a' b' p2 = (mid, ap, d4) := ⟨_, _, _, rfl⟩
                      obtain ⟨r1, r2, r3, r4, r5, r6, r7⟩ := round_part swo_ltInt (partition_holds ltInt) hpv1 hpv2 (show b' ≤ d3.size by omega) hP.out.bel hx
                      rw [hx] at hc22
                      clear hx
                      have s4 : d4.size = n := r3.trans hds
                      replace r3 := Lib.hid r3
                      replace r4 := Lib.hid r4
                      replace r5 := Lib.hid r5
                      replace r6 := Lib.hid r6
                      replace r7 := Lib.hid r7
                      go_upto_if 113 with (go_at_call 61; refine hc22.mono ?_; rintro e w7 ⟨rfl, hw7, hc7⟩)
                      have hR7 := Lib.hid (hR.out.step hw7 hc7)
                      clear hw7 hc7 hR hbw hc22 hG
                      have hbw := Nat.lt_of_lt_of_le hblk hR7.out.2.size
                      by_cases h4 : mid - a' < b' - mid
                      · have h4z : (mid : Int) - (a' : Int) < (b' : Int) - (mid : Int) := by omega
                        have hih := ih blk off cap a' mid l1 n d4 w7 (by omega) s4 hR7.out.1 hbw (by omega) (by omega) (by omega) (by omega) r4.out
                        go_wp2_with (go_at_call 51; refine hih.mono ?_; rintro e w8 ⟨d5, rfl, pL, sL, h8, c8⟩)
                        go_roundg (b' - (mid + 1))
                        case measure => omega
                        case rel =>
                          have hr := r6.out d5 pL sL
                          refine ⟨mid + 1, b', l1, decide (mid - a' ≥ (b' - a') / 8), ap, d5, by simp, rfl, rfl, ?_, rfl, by omega, by omega, Nat.le_refl _, by omega, hl1, Lib.hid ⟨?_, hr.1, fun R hR hS => ?_⟩, Lib.hid (hR7.out.step h8 c8)⟩
                          · exact congrArg Value.bool (eighth8 (by omega) (by omega))
                          · rw [pL.1, s4, hn]
                          · have hq := hr.2 R hR hS
                            exact hP.out.fin R hq.1 hq.2
                      · have h4z : ¬ ((mid : Int) - (a' : Int) < (b' : Int) - (mid : Int)) := by omega
                        have hih := ih blk off cap (mid + 1) b' l1 n d4 w7 (by omega) s4 hR7.out.1 hbw (by omega) (by omega) (by omega) (by omega) r5.out
                        go_wp2_with (go_at_call 51; refine hih.mono ?_; rintro e w8 ⟨d5, rfl, pL, sL, h8, c8⟩)
                        go_roundg (mid - a')
                        case measure => omega
                        case rel =>
                          have hr := r7.out d5 pL sL
                          refine ⟨a', mid, l1, decide (b' - mid ≥ (b' - a') / 8), ap, d5, rfl, rfl, rfl, ?_, rfl, by omega, by omega, Nat.le_refl _, by omega, hl1, Lib.hid ⟨?_, hr.1, fun R hR hS => ?_⟩, Lib.hid (hR7.out.step h8 c8)⟩
                          · exact congrArg Value.bool (eighth8 (by omega) (by omega))
                          · rw [pL.1, s4, hn]
                          · have hq := hr.2 R hR hS
                            exact hP.out.fin R hq.1 hq.2
                    · obtain ⟨ha0, hnl⟩ := h87.out rfl
                      have hc21 := partEq8 blk off cap a' b' p2 d3 wc hR.out.1 hpv1 hpv2 (by omega) (by omega)
                      rw [hds] at hc21
                      obtain ⟨mid, d4, hx⟩ : ∃ mid d4, Sort.partitionEqual ltInt d3 a' b' p2 = (mid, d4) := ⟨_, _, rfl⟩
                      obtain ⟨r1, r2, r3, r4, r5⟩ := round_eq swo_ltInt (partitionEqual_holds ltInt) ha0 hpv1 hpv2 (show b' ≤ d3.size by omega) hP.out.bel hnl hx
                      rw [hx] at hc21
                      clear hx hnl h87
                      have s4 : d4.size = n := r3.trans hds
                      replace r3 := Lib.hid r3
                      replace r4 := Lib.hid r4
                      replace r5 := Lib.hid r5
                      go_wp2_with (go_at_call 60; refine hc21.mono ?_; rintro e w7 ⟨rfl, hw7, hc7⟩)
                      go_roundg (b' - mid)
                      case measure => omega
                      case rel =>
                        refine ⟨mid, b', l1, wb, wp, d4, rfl, rfl, rfl, rfl, rfl, r2, by omega, Nat.le_refl _, by omega, hl1, Lib.hid ⟨?_, r4.out, fun R hR hS => ?_⟩, Lib.hid (hR.out.step hw7 hc7)⟩
                        · rw [s4, hn]
                        · have hq := r5.out R hR hS
                          exact hP.out.fin R hq.1 hq.2
end Go.Proofs.Ytkgmbomfkdkofaa

/- slices.Sort, slices.Index, slices.Contains at []byte. -/
namespace Go.Proofs.Ytkgmbomfkdkofaa
open Go Go.RowKit Go.Sort

theorem bitLen_le20 (x : Nat) (h : x < 1000000) : Lib.bitLen x ≤ 20 := Lib.bitLen_le x 20 (by omega) (by omega)

set_option maxRecDepth 100000 in
theorem sort8 (blk off cap n : Nat) (d : Array Int) (w : World) (hn : d.size = n) (hH : Holds e8 w blk off d) (hblk : blk < w.heap.size) (hsz : n < 1000000) :
    Calls Try.prog 48 #[.slice (some ⟨blk, off, none⟩) n cap] w (SortPost blk off 0 n d w) := by
  have hb := fun w => bits_len (n : Int) w (by omega) (by omega)
  have hp := pdq8 (n + 1) blk off cap 0 n (Lib.bitLen (n : Int).toNat) n d w (by omega) hn hH hblk (by omega) (Nat.le_refl _) hsz (Nat.lt_of_le_of_lt (bitLen_le20 _ (by simp; omega)) (by omega)) (.inl rfl)
  go_enter Try.func48, Try.ntmps48
  go_wp2_with (first
    | (go_at_call 52; refine (hb _).mono ?_; rintro e w1 ⟨rfl, rfl⟩)
    | (go_at_call 51; refine hp.mono ?_; rintro e w1 ⟨d', rfl, h1, h2, h3⟩))
  go_end0
  exact ⟨d', rfl, h1, h2, h3⟩
end Go.Proofs.Ytkgmbomfkdkofaa

/- The sort of no bytes. -/
namespace Go.Proofs.Ytkgmbomfkdkofaa
open Go Go.RowKit Go.Sort

def SamePost (w : World) (e : Ending) (w' : World) : Prop := e = .returned (.tuple #[]) ∧ Chg (fun _ => False) w w'

set_option maxRecDepth 100000 in
theorem ins_none (A : Option Addr) (c : Nat) (w : World) :
    Calls Try.prog 53 #[.slice A 0 c, .int .i64 0, .int .i64 0] w (SamePost w) := by
  go_enter Try.func53, Try.ntmps53
  go_wp2
  go_loopw [6] (fun vi wr => vi = .int .i64 1 ∧ Chg (fun _ => False) w wr) (fun _ _ => 0)
  case atStart => exact ⟨rfl, Chg.refl _ _⟩
  case round =>
    obtain ⟨rfl, hch⟩ := hrel
    go_wp2
    (try simp only [Exit.inBlock, Exit.then]); refine bodyPost_ret (results_none rfl _ _ _) rfl ?_
    exact ⟨rfl, hch⟩

set_option maxHeartbeats 1600000 in
set_option maxRecDepth 1000000 in
theorem pdq_none (A : Option Addr) (c : Nat) (lim : Int) (w : World) :
    Calls Try.prog 51 #[.slice A 0 c, .int .i64 0, .int .i64 0, .int .i64 lim] w (SamePost w) := by
  have hc := fun w => ins_none A c w
  go_enter Try.func51, Try.ntmps51
  go_wp2
  go_loopg [1, 2, 3, 8, 9] 0 (fun k s1 s2 s3 s8 s9 wr => s1 = .int .i64 0 ∧ s2 = .int .i64 0 ∧ s3 = .int .i64 lim ∧ s8 = .bool true ∧ s9 = .bool true ∧ Chg (fun _ => False) w wr)
  case atStart => exact ⟨rfl, rfl, rfl, rfl, rfl, Chg.refl _ _⟩
  case round =>
    obtain ⟨rfl, rfl, rfl, rfl, rfl, hch⟩ := hrel
    go_wp2_with (go_at_call 53; refine (hc _).mono ?_; rintro e w1 ⟨rfl, hc1⟩)
    (try simp only [Exit.inBlock, Exit.then]); refine bodyPost_ret (results_none rfl _ _ _) rfl ?_
    exact ⟨rfl, hch.trans hc1 (fun _ h _ => h)⟩

theorem sort_none (A : Option Addr) (c : Nat) (w : World) :
    Calls Try.prog 48 #[.slice A 0 c] w (SamePost w) := by
  have hb := fun w => bits_len (0 : Int) w (by omega) (by omega)
  have hp := fun lim w => pdq_none A c lim w
  go_enter Try.func48, Try.ntmps48
  go_wp2_with (first
    | (go_at_call 52; refine (hb _).mono ?_; rintro e w1 ⟨rfl, rfl⟩)
    | (go_at_call 51; refine (hp _ _).mono ?_; rintro e w1 ⟨rfl, hc1⟩))
  go_end0
  exact ⟨rfl, hc1⟩
end Go.Proofs.Ytkgmbomfkdkofaa

/- Sorted numbers: that Compact takes none away is that no two are alike. -/
namespace Go.Proofs.Ytkgmbomfkdkofaa
open Go Go.RowKit Go.Sort

theorem nodup_sorted {d : Array Int} (hs : SortedIn ltInt 0 d.size d) : (∀ j, j < d.size → Lib.keeps d j = true) ↔ d.toList.Nodup := by
  have hle : ∀ i j, i < j → j < d.size → d[i]! ≤ d[j]! := fun i j h1 h2 => by
    have := hs i j (Nat.zero_le _) h1 h2
    unfold ltInt at this
    simp at this
    exact this
  constructor
  · intro h
    have hne : ∀ j, j + 1 < d.size → d[j]! ≠ d[j + 1]! := fun j hj => by
      have := h (j + 1) hj
      unfold Lib.keeps at this
      simp at this
      intro e
      exact this (by simpa using e.symm)
    have hlt : ∀ i j, i < j → j < d.size → d[i]! < d[j]! := by
      intro i j h1 h2
      have a := hle i (j - 1 + 0) 
      rcases Nat.lt_or_ge i (j - 1) with h3 | h3
      · have a := hle i (j - 1) h3 (by omega)
        have b := hle (j - 1) j (by omega) h2
        have c := hne (j - 1) (by omega)
        rw [show j - 1 + 1 = j by omega] at c
        omega
      · have e : j = i + 1 := by omega
        subst e
        have b := hle i (i + 1) (by omega) h2
        have c := hne i h2
        omega
    rw [List.Nodup, List.pairwise_iff_getElem]
    intro i j hi hj hij e
    have := hlt i j hij (by simpa using hj)
    simp at hi hj
    rw [getElem!_pos d i hi, getElem!_pos d j hj] at this
    simp at e
    omega
  · intro h j hj
    unfold Lib.keeps
    simp only [decide_eq_true_eq]
    rcases Nat.eq_zero_or_pos j with h0 | h0
    · exact .inl h0
    · refine .inr fun e => ?_
      rw [List.Nodup, List.pairwise_iff_getElem] at h
      have := h (j - 1) j (by simp; omega) (by simpa using hj) (by omega)
      rw [getElem!_pos d j hj, getElem!_pos d (j - 1) (by omega)] at e
      simp at this
      exact this e.symm

theorem compact_len (d : Array Int) : (Lib.compactUpTo d d.size).length = d.size ↔ ∀ j, j < d.size → Lib.keeps d j = true := by
  unfold Lib.compactUpTo
  rw [List.length_map]
  have h := List.length_filter_eq_length_iff (p := Lib.keeps d) (l := List.range d.size)
  rw [List.length_range] at h
  rw [h]
  simp only [List.mem_range]
theorem compact_le (d : Array Int) : (Lib.compactUpTo d d.size).length ≤ d.size := by
  unfold Lib.compactUpTo
  rw [List.length_map]
  refine Nat.le_trans (List.length_filter_le _ _) ?_
  rw [List.length_range]
  exact Nat.le_refl _

theorem compact_nodup {n : Nat} {d d' : Array Int} (hn : d.size = n) (hp : PermIn 0 n d d') (hs : SortedIn ltInt 0 n d') :
    (Lib.compactUpTo d' d'.size).length = n ↔ d.toList.Nodup := by
  have hz : d'.size = n := by rw [hp.1, hn]
  have hpp : d'.toList.Perm d.toList := by
    have := hp.2.2
    rw [← hn] at this
    have e1 : d.extract 0 d.size = d := by simp
    have e2 : d'.extract 0 d.size = d' := by rw [← hp.1]; simp
    rwa [e1, e2] at this
  rw [← hz] at hs ⊢
  rw [compact_len, nodup_sorted hs, hpp.nodup_iff]

/-- The bytes' numbers. -/
def nums (a : Bs) : Array Int := (a.map fun x => (x.toNat : Int)).toArray
theorem nums_nodup (a : Bs) : (nums a).toList.Nodup ↔ a.Nodup := by
  unfold nums
  simp only [List.nodup_iff_pairwise_ne, List.pairwise_map]
  constructor
  · intro h
    exact h.imp fun hx e => hx (by rw [e])
  · intro h
    exact h.imp fun hx e => hx (UInt8.toNat_inj.1 (by omega))
theorem nums_size (a : Bs) : (nums a).size = a.length := by simp [nums]
end Go.Proofs.Ytkgmbomfkdkofaa
