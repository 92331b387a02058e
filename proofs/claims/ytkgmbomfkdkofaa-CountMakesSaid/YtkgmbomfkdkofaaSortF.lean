/- The contract of math/bits.Len (laid by the kit's tool; its marks turned by a program of mine). -/
import Derived.Test.YtkgmbomfkdkofaaStrm
import Derived.Shelf.Small.Bits
import Derived.Test.YtkgmbomfkdkofaaSortD
import Derived.Shelf.SlSortCmp.Xorshift
import Derived.Sort.WalkA6
namespace Go.Proofs.Ytkgmbomfkdkofaa
open Go Go.Shelf Go.RowKit
def lays125_ren : Go.Shelf.Ren := ⟨fun | 125 => 52 | 128 => 62 | 129 => 63 | n => n, fun | 46 => 126 | 3 => 3 | 51 => 137 | 53 => 139 | 4 => 4 | 5 => 5 | 9 => 9 | n => n, fun | n => n⟩
theorem lays125 : Go.Proofs.Lays.n125 Try.prog lays125_ren := {
  mixed := by kernel_rfl
  f125 := Try.func52.trans (congrArg some (by kernel_rfl))
  f128 := Try.func62.trans (congrArg some (by kernel_rfl))
  f129 := Try.func63.trans (congrArg some (by kernel_rfl))
  t3 := Try.underlying3
  a3 := Try.isAgg3
  z3 := Try.sizeOf3
  v3 := Try.zeroValue3
  t4 := Try.underlying4
  a4 := Try.isAgg4
  z4 := Try.sizeOf4
  v4 := Try.zeroValue4
  t5 := Try.underlying5
  a5 := Try.isAgg5
  z5 := Try.sizeOf5
  v5 := Try.zeroValue5
  t9 := Try.underlying9
  a9 := Try.isAgg9
  z9 := Try.sizeOf9
  v9 := Try.zeroValue9
  t46 := Try.underlying126
  a46 := Try.isAgg126
  z46 := Try.sizeOf126
  v46 := Try.zeroValue126
  t51 := Try.underlying137
  a51 := Try.isAgg137
  z51 := Try.sizeOf137
  v51 := Try.zeroValue137
  t53 := Try.underlying139
  a53 := Try.isAgg139
  z53 := Try.sizeOf139
  v53 := Try.zeroValue139 }
theorem bits_len (x : Int) (w : World) (h0 : 0 ≤ x) (h1 : x ≤ 18446744073709551615) :
    Calls Try.prog 52 #[.int .u64 x] w fun e w' => e = .returned (.int .i64 (Lib.bitLen x.toNat)) ∧ w' = w := Any.bits_Len lays125 x w h0 h1
end Go.Proofs.Ytkgmbomfkdkofaa

/- slices.Sort at []byte: xorshift.Next, nextPowerOfTwo, breakPatternsOrdered: a permutation. -/
namespace Go.Proofs.Ytkgmbomfkdkofaa
open Go Go.RowKit Go.Sort Go.Lib

def XNextPost (rb : Nat) (w : World) (e : Ending) (w' : World) : Prop := ∃ r : Nat, r < 18446744073709551616 ∧ e = .returned (.int .u64 r) ∧ Blk w' rb 140 #[.int .u64 r] ∧ Chg (fun k => k = rb) w w'

set_option maxHeartbeats 2000000 in
set_option maxRecDepth 1000000 in
theorem next8 (rb X : Nat) (hX : X < 18446744073709551616) (w : World) (hS : Blk w rb 140 #[.int .u64 X]) :
    Calls Try.prog 66 #[.pointer (some ⟨rb, 0, none⟩)] w (XNextPost rb w) := by
  obtain ⟨P, hP⟩ : ∃ P : Nat, P = X ^^^ (X * 8192 % 18446744073709551616) := ⟨_, rfl⟩
  obtain ⟨Q, hQ⟩ : ∃ Q : Nat, Q = P ^^^ (P / 128) := ⟨_, rfl⟩
  obtain ⟨Z, hZ⟩ : ∃ Z : Nat, Z = Q ^^^ (Q * 131072 % 18446744073709551616) := ⟨_, rfl⟩
  have lP : P < 18446744073709551616 := by rw [hP]; exact Nat.xor_lt_two_pow (n := 64) (by omega) (by omega)
  have lQ : Q < 18446744073709551616 := by rw [hQ]; exact Nat.xor_lt_two_pow (n := 64) (by omega) (by omega)
  have lZ : Z < 18446744073709551616 := by rw [hZ]; exact Nat.xor_lt_two_pow (n := 64) (by omega) (by omega)
  have e1 : bits .xor .u64 (X : Int) (IntKind.u64.wrap ((X : Int) * 8192)) = (P : Int) := by
    rw [IntKind.wrap_u64, show ((X : Int) * 8192 % 18446744073709551616) = ((X * 8192 % 18446744073709551616 : Nat) : Int) by omega, bits_xor_u64_nat _ _ hX (by omega), hP]
  have e2 : bits .xor .u64 (P : Int) ((P : Int) / 128) = (Q : Int) := by
    rw [show ((P : Int) / 128) = ((P / 128 : Nat) : Int) by omega, bits_xor_u64_nat _ _ lP (by omega), hQ]
  have e3 : bits .xor .u64 (Q : Int) (IntKind.u64.wrap ((Q : Int) * 131072)) = (Z : Int) := by
    rw [IntKind.wrap_u64, show ((Q : Int) * 131072 % 18446744073709551616) = ((Q * 131072 % 18446744073709551616 : Nat) : Int) by omega, bits_xor_u64_nat _ _ lQ (by omega), hZ]
  clear hP hQ hZ
  have c0 : w.cell? ⟨rb, 0, none⟩ = some (.int .u64 X) := (hS.cell 0).trans rfl
  have f0 := hS.frozen 0
  have b3 := Lib.hid (((hS.set 0 (.int .u64 P)).set 0 (.int .u64 Q)).set 0 (.int .u64 Z))
  have b1 := Lib.hid (hS.set 0 (.int .u64 Z))
  replace hS := Lib.hid hS
  have hss : ∀ v v', (w.setCell ⟨rb, 0, none⟩ v).setCell ⟨rb, 0, none⟩ v' = w.setCell ⟨rb, 0, none⟩ v' := setCell_setCell w rb 0
  go_enter Try.func66, Try.ntmps66
  go_wp2
  go_region
  all_goals go_wp2
  all_goals go_region
  all_goals go_wp2
  all_goals go_region
  all_goals go_wp2
  go_ret
  exact ⟨Z, lZ, rfl, b1.out, ((((Chg.refl (fun k => k = rb) w).setCell (p := ⟨rb, 0, none⟩) (.inl rfl) _).drew).drew).drew⟩

def PowPost (n : Nat) (w : World) (e : Ending) (w' : World) : Prop := ∃ M : Nat, 1 ≤ M ∧ M ≤ 2 * n ∧ e = .returned (.int .u64 M) ∧ w' = w

set_option maxHeartbeats 1000000 in
theorem pow8 (n : Nat) (h1 : 1 ≤ n) (hn : n < 1000000) (w : World) : Calls Try.prog 65 #[.int .i64 n] w (PowPost n w) := by
  have hLen : ∀ w, Calls Try.prog 52 #[.int .u64 (n : Int)] w fun e w' => e = .returned (.int .i64 (bitsLen n : Nat)) ∧ w' = w := fun w => by
    have h := bits_len (n : Int) w (by omega) (by omega)
    rwa [Int.toNat_natCast, bitLen_eq _ (by omega)] at h
  have hk : bitsLen n ≤ 62 := (bitsLen_le_iff n 62).2 (by omega)
  have hp := wrap_two_pow (bitsLen n) hk
  have hM : 1 <<< bitsLen n ≤ 2 * n ∧ 1 ≤ 1 <<< bitsLen n := by
    unfold bitsLen
    rw [if_neg (by omega), Nat.one_shiftLeft, Nat.pow_succ]
    have := Nat.log2_self_le (n := n) (by omega)
    have h2 := Nat.one_le_two_pow (n := n.log2)
    exact ⟨by omega, by omega⟩
  have wr : IntKind.u64.wrap (n : Int) = n := by simp [IntKind.wrap, IntKind.bits, IntKind.signed]; omega
  replace hM := Lib.hid hM
  go_enter Try.func65, Try.ntmps65
  go_wp2_with (first | (go_at_call 52; refine (hLen _).mono ?_; rintro e w' ⟨rfl, rfl⟩))
  go_ret
  exact ⟨_, hM.out.2, hM.out.1, rfl, rfl⟩

/-- The row holds a permutation of what it held. -/
def PermPost (blk off a b : Nat) (d : Array Int) (w : World) (e : Ending) (w' : World) : Prop := ∃ d', e = .returned (.tuple #[]) ∧ PermIn a b d d' ∧ Holds e8 w' blk off d' ∧ Chg (fun k => k = blk) w w'
theorem perm_refl (d : Array Int) (a b : Nat) : PermIn a b d d := permIn_refl d a b

set_option maxHeartbeats 4000000 in
set_option maxRecDepth 1000000 in
theorem break8 (blk off cap a b : Nat) (d : Array Int) (w : World) (hH : Holds e8 w blk off d) (hbl : blk < w.heap.size) (hab : a ≤ b) (hb : b ≤ d.size) (hsz : d.size < 1000000) :
    Calls Try.prog 55 #[.slice (some ⟨blk, off, none⟩) d.size cap, .int .i64 a, .int .i64 b] w (PermPost blk off a b d w) := by
  obtain ⟨L, hL⟩ : ∃ L, b = a + L := ⟨b - a, by omega⟩
  obtain ⟨m, hm⟩ : ∃ m, m = L / 4 := ⟨_, rfl⟩
  have hq1 : (b : Int) - (a : Int) = (L : Int) := by omega
  have hq2 : (L : Int).tdiv 4 = (m : Int) := by rw [Int.tdiv_eq_ediv_of_nonneg (by omega)]; omega
  have hq3 : (L : Int) / 4 = (m : Int) := by omega
  have hml : m * 4 ≤ L ∧ L < m * 4 + 4 := by omega
  have hwL : IntKind.u64.wrap (L : Int) = L := by simp [IntKind.wrap, IntKind.bits, IntKind.signed]; omega
  by_cases h8 : 8 ≤ L
  · have h8' : (8 : Int) ≤ (L : Int) := by omega
    have hpw := fun W => pow8 L (by omega) (by omega) W
    have hS0 : Blk (w.alloc (.cells #[.int .u64 (L : Int)] 140)) w.heap.size 140 #[.int .u64 (L : Int)] := Blk.new _ _ _
    have hc0 : Chg (fun k => k = blk) w (w.alloc (.cells #[.int .u64 (L : Int)] 140)) := (Chg.refl _ _).alloc _
    have hH0 := holds_chg8 hH ((Chg.refl (fun _ => False) w).alloc (.cells #[.int .u64 (L : Int)] 140)) hbl (fun h => h)
    replace hS0 := Lib.hid hS0
    replace hH0 := Lib.hid hH0
    replace hL := Lib.hid hL
    replace hm := Lib.hid hm
    go_enter Try.func55, Try.ntmps55
    go_wp2_with (first | (go_at_call 65; refine (hpw _).mono ?_; rintro e1 w1 ⟨M, hM1, hM2, rfl, rfl⟩))
    go_loopw [9] (fun vi wr => ∃ (t r : Nat) (dk : Array Int), vi = .int .i64 ((a + m * 2 - 1 + t : Nat) : Int) ∧ t ≤ 3 ∧ r < 18446744073709551616 ∧ dk.size = d.size ∧ PermIn a b d dk ∧ Holds e8 wr blk off dk ∧ Blk wr w.heap.size 140 #[.int .u64 (r : Int)] ∧ Chg (fun k => k = blk) w wr) (fun vi _ => a + m * 2 + 3 - (intOf vi).toNat)
    case atStart => exact ⟨0, L, d, by congr 1; have := hL.out; omega, by omega, by omega, rfl, permIn_refl d a b, hH0.out, hS0.out, hc0⟩
    case round =>
      obtain ⟨t, r, dk, rfl, ht, hr, hsk, hpm, hHk, hSk, hch⟩ := hrel
      have hne : blk ≠ w.heap.size := by omega
      have hbr : blk < wr.heap.size := Nat.lt_of_lt_of_le hbl hch.size
      by_cases ht3 : t < 3
      · have hx1 := next8 w.heap.size r hr wr hSk
        have htz : ((a + m * 2 - 1 + t : Nat) : Int) ≤ (a : Int) + (m : Int) * 2 + 1 := by omega
        obtain ⟨ix, hix⟩ : ∃ ix, ix = a + m * 2 - 1 + t := ⟨_, rfl⟩
        have hixb : a ≤ ix ∧ ix < b := by have := hL.out; omega
        rw [← hix] at htz ⊢
        replace hix := Lib.hid hix
        go_wp2_with (first
          | (go_at_call 66
             refine hx1.mono ?_
             rintro e2 w2 ⟨r2, lr2, rfl, hS2, hc2⟩
             have hH2 := holds_chg8 hHk hc2 hbr hne
             obtain ⟨O, hO⟩ : ∃ O : Nat, O = r2 &&& (M - 1) := ⟨_, rfl⟩
             have lO : O ≤ M - 1 := by rw [hO]; exact Nat.and_le_right
             have eAnd : bits .and .u64 (r2 : Int) ((M : Int) - 1) = (O : Int) := by
               rw [show ((M : Int) - 1) = ((M - 1 : Nat) : Int) by omega, bits_and_u64_nat _ _ lr2 (by omega), hO]
             replace hO := Lib.hid hO
             obtain ⟨G, hG⟩ : ∃ G : Nat → Int, ∀ x, G x = dk[x]! := ⟨fun x => dk[x]!, fun _ => rfl⟩
             have hcw : ∀ x, x < d.size → w2.cell? ⟨blk, off + x, none⟩ = some (.int .u8 (G x)) := fun x hx => by rw [hG]; exact (hH2 x (by omega)).1
             have hfw : ∀ x, x < d.size → w2.frozen? ⟨blk, off + x, none⟩ = false := fun x hx => (hH2 x (by omega)).2
             replace hG := Lib.hid hG
             replace hS2 := Lib.hid hS2
             replace hH2 := Lib.hid hH2))
        · have hLO : L ≤ O := by assumption
          obtain ⟨o, ho, ho2⟩ : ∃ o : Nat, (O : Int) - (L : Int) = (o : Int) ∧ a + o < b := ⟨O - L, by omega, by have := hL.out; omega⟩
          have hsw := Lib.hid (show Holds e8 ((w2.setCell ⟨blk, off + ix, none⟩ (e8 (G (a + o)))).setCell ⟨blk, off + (a + o), none⟩ (e8 (G ix))) blk off (swp dk ix (a + o)) by rw [hG.out, hG.out]; exact holds_swp8 hH2.out (by omega) (by omega))
          have hpm2 := Lib.hid (permIn_trans d dk _ a b hpm (swp_permIn dk a b ix (a + o) hixb.1 hixb.2 (by omega) (by omega) (by omega)))
          have hfin : ∀ W, Holds e8 W blk off (swp dk ix (a + o)) → Chg (fun k => k = blk) w2 W → ∃ (t' r' : Nat) (d' : Array Int), Value.int .i64 ((ix : Int) + 1) = .int .i64 ((a + m * 2 - 1 + t' : Nat) : Int) ∧ t' ≤ 3 ∧ r' < 18446744073709551616 ∧ d'.size = d.size ∧ PermIn a b d d' ∧ Holds e8 W blk off d' ∧ Blk W w.heap.size 140 #[.int .u64 (r' : Int)] ∧ Chg (fun k => k = blk) w W := fun W h1 h2 =>
            ⟨t + 1, r2, _, by congr 1; have := hix.out; have := hL.out; omega, by omega, lr2, by rw [size_swp]; exact hsk, hpm2.out, h1, hS2.out.chg h2 (fun e => hne e.symm), (hch.trans hc2 (fun k hk hlt => by omega)).trans h2 (fun _ h _ => h)⟩
          replace hfin := Lib.hid hfin
          by_cases hEq : ix = a + o
          all_goals
            (try subst hEq)
            go_region
            all_goals
              go_wp2
              go_roundw
              case rel => exact hfin.out _ (holds_drewN8 hsw.out 1) ((((Chg.refl (fun k => k = blk) w2).setCell (p := ⟨blk, _, none⟩) (.inl rfl) _).setCell (p := ⟨blk, _, none⟩) (.inl rfl) _).drewN 1)
              case measure => simp [intOf]; omega
        · have hLO : ¬ L ≤ O := by assumption
          obtain ⟨o, ho, ho2⟩ : ∃ o : Nat, o = O ∧ a + o < b := ⟨O, rfl, by have := hL.out; omega⟩
          subst ho
          have hsw := Lib.hid (show Holds e8 ((w2.setCell ⟨blk, off + ix, none⟩ (e8 (G (a + o)))).setCell ⟨blk, off + (a + o), none⟩ (e8 (G ix))) blk off (swp dk ix (a + o)) by rw [hG.out, hG.out]; exact holds_swp8 hH2.out (by omega) (by omega))
          have hpm2 := Lib.hid (permIn_trans d dk _ a b hpm (swp_permIn dk a b ix (a + o) hixb.1 hixb.2 (by omega) (by omega) (by omega)))
          have hfin : ∀ W, Holds e8 W blk off (swp dk ix (a + o)) → Chg (fun k => k = blk) w2 W → ∃ (t' r' : Nat) (d' : Array Int), Value.int .i64 ((ix : Int) + 1) = .int .i64 ((a + m * 2 - 1 + t' : Nat) : Int) ∧ t' ≤ 3 ∧ r' < 18446744073709551616 ∧ d'.size = d.size ∧ PermIn a b d d' ∧ Holds e8 W blk off d' ∧ Blk W w.heap.size 140 #[.int .u64 (r' : Int)] ∧ Chg (fun k => k = blk) w W := fun W h1 h2 =>
            ⟨t + 1, r2, _, by congr 1; have := hix.out; have := hL.out; omega, by omega, lr2, by rw [size_swp]; exact hsk, hpm2.out, h1, hS2.out.chg h2 (fun e => hne e.symm), (hch.trans hc2 (fun k hk hlt => by omega)).trans h2 (fun _ h _ => h)⟩
          replace hfin := Lib.hid hfin
          by_cases hEq : ix = a + o
          all_goals
            (try subst hEq)
            go_region
            all_goals
              go_wp2
              go_roundw
              case rel => exact hfin.out _ (holds_drewN8 hsw.out 1) ((((Chg.refl (fun k => k = blk) w2).setCell (p := ⟨blk, _, none⟩) (.inl rfl) _).setCell (p := ⟨blk, _, none⟩) (.inl rfl) _).drewN 1)
              case measure => simp [intOf]; omega
      · obtain rfl : t = 3 := by omega
        have htz : ¬ ((a + m * 2 - 1 + 3 : Nat) : Int) ≤ (a : Int) + (m : Int) * 2 + 1 := by have := hL.out; omega
        go_wp2
        go_end0
        exact ⟨dk, rfl, hpm, hHk, hch⟩
  · have h8' : ¬ (8 : Int) ≤ (L : Int) := by omega
    replace hL := Lib.hid hL
    replace hm := Lib.hid hm
    go_enter Try.func55, Try.ntmps55
    go_wp2
    go_end0
    exact ⟨d, rfl, permIn_refl d a b, hH, Chg.refl (fun k => k = blk) _⟩
end Go.Proofs.Ytkgmbomfkdkofaa

/- slices.Sort at []byte: partialInsertionSortOrdered computes what the plain function says (written by genins.py). -/
namespace Go.Proofs.Ytkgmbomfkdkofaa
open Go Go.RowKit Go.Sort

def InsPost (blk off : Nat) (r : Array Int × Bool) (w : World) (e : Ending) (w' : World) : Prop := e = .returned (.bool r.2) ∧ Holds e8 w' blk off r.1 ∧ Chg (fun k => k = blk) w w'

set_option maxHeartbeats 6400000 in
set_option maxRecDepth 100000 in
theorem partIns8 (blk off cap a b : Nat) (d : Array Int) (w : World) (hH : Holds e8 w blk off d) (hab : a < b) (hb : b ≤ d.size) (hsz : d.size < 1000000) :
    Calls Try.prog 58 #[.slice (some ⟨blk, off, none⟩) d.size cap, .int .i64 a, .int .i64 b] w (InsPost blk off (Sort.partialInsertionSort ltInt d a b) w) := by
  go_enter Try.func58, Try.ntmps58
  go_wp2
  go_loopw [7, 8] (fun vi vs wr => ∃ (i s : Nat) (dk : Array Int), vi = .int .i64 i ∧ vs = .int .i64 s ∧ s ≤ 5 ∧ a < i ∧ i ≤ b ∧ dk.size = d.size ∧ Holds e8 wr blk off dk ∧ Chg (fun k => k = blk) w wr ∧
      Hid (partialIns ltInt a b (5 - s) i dk = partialIns ltInt a b 5 (a + 1) d)) (fun _ vs _ => 5 - (intOf vs).toNat)
  case atStart => exact ⟨a + 1, 0, d, by go_num, rfl, by omega, by omega, by omega, rfl, hH, Chg.refl _ _, Lib.hid rfl⟩
  case round =>
    replace hH := Lib.hid hH
    obtain ⟨i, s, dk, rfl, rfl, hs5, hai, hib, hsk, HHk, chk, HO⟩ := hrel
    by_cases hs : s < 5
    · have hs' : (s : Int) < 5 := by omega
      go_wp2
      go_loopw [7] (fun vi wr => ∃ k : Nat, vi = .int .i64 k ∧ i ≤ k ∧ k ≤ b ∧ Holds e8 wr blk off dk ∧ Chg (fun k => k = blk) w wr ∧ Hid (scanSorted ltInt dk b k = scanSorted ltInt dk b i)) (fun vi _ => b - (intOf vi).toNat)
      case atStart => exact ⟨i, rfl, Nat.le_refl _, hib, HHk, chk, Lib.hid rfl⟩
      case round =>
        clear HHk chk
        obtain ⟨k, rfl, hik, hkb, Hk, ck, ek⟩ := hrel
        by_cases hkb1 : k < b
        · have hkb1' : (k : Int) < (b : Int) := by omega
          obtain ⟨G, hG⟩ : ∃ G : Nat → Int, ∀ t, G t = dk[t]! := ⟨fun t => dk[t]!, fun _ => rfl⟩
          have hcw : ∀ t, t < d.size → wr.cell? ⟨blk, off + t, none⟩ = some (.int .u8 (G t)) := fun t ht => by rw [hG]; exact (Hk t (by omega)).1
          have hfw : ∀ t, t < d.size → wr.frozen? ⟨blk, off + t, none⟩ = false := fun t ht => (Hk t (by omega)).2
          replace hG := Lib.hid hG
          have hsw := Lib.hid (fun q => show Holds e8 (((wr.drewN q).setCell ⟨blk, off + k, none⟩ (e8 (G (k - 1)))).setCell ⟨blk, off + (k - 1), none⟩ (e8 (G k))) blk off (swp dk k (k - 1)) by rw [hG.out, hG.out]; exact holds_swp8 (holds_drewN8 Hk q) (by omega) (by omega))
          replace Hk := Lib.hid Hk
          have hkb2 : k ≠ b := by omega
          have hkb2b : ((k : Int) == (b : Int)) = false := by rw [beq_eq_false_iff_ne]; omega
          by_cases h50 : b - a < 50
          · have h50' : (b : Int) - (a : Int) < 50 := by omega
            go_wp2_with fail
            go_quiet (first | (go_at_call 59; exact Calls.quiet_of_same (less8 _ _ _)))
            go_wp2
            · have hl2 : ltInt (G k) (G (k - 1)) = false := by
                have h : (!ltInt (G k) (G (k - 1))) = true := by assumption
                simpa using h
              go_roundw
              case rel => exact ⟨k + 1, by go_num, by omega, by omega, holds_drewN8 Hk.out _, ck.drewN _, Lib.hid (by rw [← ek.out]; exact (scanSorted_go ltInt dk b k hkb1 (by rw [← hG.out, ← hG.out]; exact hl2)).symm)⟩
              case measure => simp [intOf]; omega
            · have hl : ltInt (G k) (G (k - 1)) = true := by
                have h : (!ltInt (G k) (G (k - 1))) = false := by assumption
                simpa using h
              have hK := Lib.hid (show scanSorted ltInt dk b i = k by rw [← ek.out, scanSorted_stop ltInt dk b k (.inr (by rw [← hG.out, ← hG.out]; exact hl))])
              have e := Lib.hid (pi_short ltInt a b s i dk hs (by rw [hK.out]; exact hkb2) h50)
              go_ret
              exact ⟨by unfold Sort.partialInsertionSort; rw [← HO.out, e.out]; rfl, by unfold Sort.partialInsertionSort; rw [← HO.out, e.out]; exact holds_drewN8 Hk.out _, ck.drewN _⟩
          · have h50' : ¬ (b : Int) - (a : Int) < 50 := by omega
            go_wp2_with fail
            go_quiet (first | (go_at_call 59; exact Calls.quiet_of_same (less8 _ _ _)))
            go_wp2
            · have hl2 : ltInt (G k) (G (k - 1)) = false := by
                have h : (!ltInt (G k) (G (k - 1))) = true := by assumption
                simpa using h
              go_roundw
              case rel => exact ⟨k + 1, by go_num, by omega, by omega, holds_drewN8 Hk.out _, ck.drewN _, Lib.hid (by rw [← ek.out]; exact (scanSorted_go ltInt dk b k hkb1 (by rw [← hG.out, ← hG.out]; exact hl2)).symm)⟩
              case measure => simp [intOf]; omega
            · have hl : ltInt (G k) (G (k - 1)) = true := by
                have h : (!ltInt (G k) (G (k - 1))) = false := by assumption
                simpa using h
              have hK := Lib.hid (show scanSorted ltInt dk b i = k by rw [← ek.out, scanSorted_stop ltInt dk b k (.inr (by rw [← hG.out, ← hG.out]; exact hl))])
              have hsk2 := hsk
              go_region
              all_goals
                have H1 := hsw.out (nq + 1)
                have c1 : Chg (fun k => k = blk) w (((wr.drewN (nq + 1)).setCell ⟨blk, off + k, none⟩ (e8 (G (k - 1)))).setCell ⟨blk, off + (k - 1), none⟩ (e8 (G k))) := (((ck.drewN (nq + 1)).setCell (p := ⟨blk, _, none⟩) (.inl rfl) _).setCell (p := ⟨blk, _, none⟩) (.inl rfl) _)
                clear hcw hfw hsw
                generalize hW1 : (((wr.drewN (nq + 1)).setCell ⟨blk, off + k, none⟩ (e8 (G (k - 1)))).setCell ⟨blk, off + (k - 1), none⟩ (e8 (G k))) = W1 at H1 c1 ⊢
                clear hW1
                by_cases hbk : b - k ≥ 2
                · have hbk' : (2 : Int) ≤ (b : Int) - (k : Int) := by omega
                  by_cases hka2 : k - a ≥ 2
                  · have hka2' : (2 : Int) ≤ (k : Int) - (a : Int) := by omega
                    go_wp2
                    go_loopw [9] (fun vj wr => ∃ (j : Nat) (dj : Array Int), vj = .int .i64 j ∧ j < k ∧ dj.size = d.size ∧ Holds e8 wr blk off dj ∧ Chg (fun k => k = blk) w wr ∧ Hid (shiftDown ltInt j dj = shiftDown ltInt (k - 1) (swp dk k (k - 1)))) (fun vj _ => (intOf vj).toNat)
                    case atStart => exact ⟨k - 1, swp dk k (k - 1), by go_num, by omega, by rw [size_swp]; exact hsk, H1, c1, Lib.hid rfl⟩
                    case round =>
                      clear H1 c1
                      obtain ⟨j, dj, rfl, hjk, sj, Hj, cj, ej⟩ := hrel
                      by_cases hj1 : 1 ≤ j
                      · have hj1' : (1 : Int) ≤ (j : Int) := by omega
                        obtain ⟨G, hG⟩ : ∃ G : Nat → Int, ∀ t, G t = dj[t]! := ⟨fun t => dj[t]!, fun _ => rfl⟩
                        have hcw : ∀ t, t < d.size → wr.cell? ⟨blk, off + t, none⟩ = some (.int .u8 (G t)) := fun t ht => by rw [hG]; exact (Hj t (by omega)).1
                        have hfw : ∀ t, t < d.size → wr.frozen? ⟨blk, off + t, none⟩ = false := fun t ht => (Hj t (by omega)).2
                        replace hG := Lib.hid hG
                        have hsw := Lib.hid (fun q => show Holds e8 (((wr.drewN q).setCell ⟨blk, off + j, none⟩ (e8 (G (j - 1)))).setCell ⟨blk, off + (j - 1), none⟩ (e8 (G j))) blk off (swp dj j (j - 1)) by rw [hG.out, hG.out]; exact holds_swp8 (holds_drewN8 Hj q) (by omega) (by omega))
                        replace Hj := Lib.hid Hj
                        go_wp2
                        go_quiet (first | (go_at_call 59; exact Calls.quiet_of_same (less8 _ _ _)))
                        go_wp2
                        all_goals first
                          | (have hl : ltInt (G j) (G (j - 1)) = false := by
                               have h : (!ltInt (G j) (G (j - 1))) = true := by assumption
                               simpa using h
                             have H2 := holds_drewN8 Hj.out nq
                             have c2 := cj.drewN nq
                             have s2 := sj
                             have e2 := Lib.hid (show dj = fixDown ltInt a k (swp dk k (k - 1)) by rw [fixDown, if_pos hka2, ← ej.out, shiftDown_stop ltInt j dj (.inr (by rw [← hG.out, ← hG.out]; exact hl))])
                             generalize dj = d2 at H2 s2 e2
                             clear hcw hfw
                             generalize wr.drewN nq = W2 at H2 c2 ⊢
                             (try go_wp2)
                             go_loopw [10] (fun vj wr => ∃ (j : Nat) (dj : Array Int), vj = .int .i64 j ∧ k < j ∧ j ≤ b ∧ dj.size = d.size ∧ Holds e8 wr blk off dj ∧ Chg (fun k => k = blk) w wr ∧ Hid (shiftUp ltInt b j dj = shiftUp ltInt b (k + 1) d2)) (fun vj _ => b - (intOf vj).toNat)
                             case atStart => exact ⟨k + 1, d2, by go_num, by omega, by omega, s2, H2, c2, Lib.hid rfl⟩
                             case round =>
                               clear H2 c2
                               obtain ⟨j, dj, rfl, hkj, hjb, sj, Hj, cj, ej⟩ := hrel
                               by_cases hjb2 : j < b
                               · have hjb2' : (j : Int) < (b : Int) := by omega
                                 obtain ⟨G, hG⟩ : ∃ G : Nat → Int, ∀ t, G t = dj[t]! := ⟨fun t => dj[t]!, fun _ => rfl⟩
                                 have hcw : ∀ t, t < d.size → wr.cell? ⟨blk, off + t, none⟩ = some (.int .u8 (G t)) := fun t ht => by rw [hG]; exact (Hj t (by omega)).1
                                 have hfw : ∀ t, t < d.size → wr.frozen? ⟨blk, off + t, none⟩ = false := fun t ht => (Hj t (by omega)).2
                                 replace hG := Lib.hid hG
                                 have hsw := Lib.hid (fun q => show Holds e8 (((wr.drewN q).setCell ⟨blk, off + j, none⟩ (e8 (G (j - 1)))).setCell ⟨blk, off + (j - 1), none⟩ (e8 (G j))) blk off (swp dj j (j - 1)) by rw [hG.out, hG.out]; exact holds_swp8 (holds_drewN8 Hj q) (by omega) (by omega))
                                 replace Hj := Lib.hid Hj
                                 go_wp2
                                 go_quiet (first | (go_at_call 59; exact Calls.quiet_of_same (less8 _ _ _)))
                                 go_wp2
                                 all_goals first
                                   | (have hl : ltInt (G j) (G (j - 1)) = false := by
                                        have h : (!ltInt (G j) (G (j - 1))) = true := by assumption
                                        simpa using h
                                      have H3 := holds_drewN8 Hj.out nq
                                      have c3 := cj.drewN nq
                                      have s3 := sj
                                      have e3 := Lib.hid (show dj = fixUp ltInt b k (fixDown ltInt a k (swp dk k (k - 1))) by rw [← e2.out, fixUp, if_pos hbk, ← ej.out, shiftUp_stop ltInt b j dj (.inr (by rw [← hG.out, ← hG.out]; exact hl))])
                                      generalize dj = d3 at H3 s3 e3
                                      clear hcw hfw
                                      (try go_wp2)
                                      go_roundw
                                      case rel => exact ⟨k, s + 1, d3, rfl, by go_num, by omega, by omega, by omega, s3, H3, c3, Lib.hid (by rw [e3.out, ← pi_go ltInt a b s i k dk hs hK.out hkb2 h50]; exact HO.out)⟩
                                      case measure => simp [intOf]; omega)
                                   | (have hl : ltInt (G j) (G (j - 1)) = true := by
                                        have h : (!ltInt (G j) (G (j - 1))) = false := by assumption
                                        simpa using h
                                      go_region
                                      all_goals
                                        go_wp2
                                        go_roundw
                                        case rel => exact ⟨j + 1, swp dj j (j - 1), by go_num, by omega, by omega, by rw [size_swp]; exact sj, hsw.out _, (((cj.drewN _).setCell (p := ⟨blk, _, none⟩) (.inl rfl) _).setCell (p := ⟨blk, _, none⟩) (.inl rfl) _), Lib.hid (by rw [← ej.out]; exact (shiftUp_go ltInt b j dj hjb2 (by rw [← hG.out, ← hG.out]; exact hl)).symm)⟩
                                        case measure => simp [intOf]; omega)
                               · have hjb2' : ¬ (j : Int) < (b : Int) := by omega
                                 have H3 := Hj
                                 have c3 := cj
                                 have s3 := sj
                                 have e3 := Lib.hid (show dj = fixUp ltInt b k (fixDown ltInt a k (swp dk k (k - 1))) by rw [← e2.out, fixUp, if_pos hbk, ← ej.out, shiftUp_stop ltInt b j dj (.inl hjb2)])
                                 generalize dj = d3 at H3 s3 e3
                                 (try go_wp2)
                                 go_roundw
                                 case rel => exact ⟨k, s + 1, d3, rfl, by go_num, by omega, by omega, by omega, s3, H3, c3, Lib.hid (by rw [e3.out, ← pi_go ltInt a b s i k dk hs hK.out hkb2 h50]; exact HO.out)⟩
                                 case measure => simp [intOf]; omega)
                          | (have hl : ltInt (G j) (G (j - 1)) = true := by
                               have h : (!ltInt (G j) (G (j - 1))) = false := by assumption
                               simpa using h
                             go_region
                             all_goals
                               go_wp2
                               go_roundw
                               case rel => exact ⟨j - 1, swp dj j (j - 1), by go_num, by omega, by rw [size_swp]; exact sj, hsw.out _, (((cj.drewN _).setCell (p := ⟨blk, _, none⟩) (.inl rfl) _).setCell (p := ⟨blk, _, none⟩) (.inl rfl) _), Lib.hid (by rw [← ej.out]; exact (shiftDown_go ltInt j dj hj1 (by rw [← hG.out, ← hG.out]; exact hl)).symm)⟩
                               case measure => simp [intOf]; omega)
                      · have hj1' : ¬ (1 : Int) ≤ (j : Int) := by omega
                        have H2 := Hj
                        have c2 := cj
                        have s2 := sj
                        have e2 := Lib.hid (show dj = fixDown ltInt a k (swp dk k (k - 1)) by rw [fixDown, if_pos hka2, ← ej.out, shiftDown_stop ltInt j dj (.inl (by omega))])
                        generalize dj = d2 at H2 s2 e2
                        go_wp2
                        (try go_wp2)
                        go_loopw [10] (fun vj wr => ∃ (j : Nat) (dj : Array Int), vj = .int .i64 j ∧ k < j ∧ j ≤ b ∧ dj.size = d.size ∧ Holds e8 wr blk off dj ∧ Chg (fun k => k = blk) w wr ∧ Hid (shiftUp ltInt b j dj = shiftUp ltInt b (k + 1) d2)) (fun vj _ => b - (intOf vj).toNat)
                        case atStart => exact ⟨k + 1, d2, by go_num, by omega, by omega, s2, H2, c2, Lib.hid rfl⟩
                        case round =>
                          clear H2 c2
                          obtain ⟨j, dj, rfl, hkj, hjb, sj, Hj, cj, ej⟩ := hrel
                          by_cases hjb2 : j < b
                          · have hjb2' : (j : Int) < (b : Int) := by omega
                            obtain ⟨G, hG⟩ : ∃ G : Nat → Int, ∀ t, G t = dj[t]! := ⟨fun t => dj[t]!, fun _ => rfl⟩
                            have hcw : ∀ t, t < d.size → wr.cell? ⟨blk, off + t, none⟩ = some (.int .u8 (G t)) := fun t ht => by rw [hG]; exact (Hj t (by omega)).1
                            have hfw : ∀ t, t < d.size → wr.frozen? ⟨blk, off + t, none⟩ = false := fun t ht => (Hj t (by omega)).2
                            replace hG := Lib.hid hG
                            have hsw := Lib.hid (fun q => show Holds e8 (((wr.drewN q).setCell ⟨blk, off + j, none⟩ (e8 (G (j - 1)))).setCell ⟨blk, off + (j - 1), none⟩ (e8 (G j))) blk off (swp dj j (j - 1)) by rw [hG.out, hG.out]; exact holds_swp8 (holds_drewN8 Hj q) (by omega) (by omega))
                            replace Hj := Lib.hid Hj
                            go_wp2
                            go_quiet (first | (go_at_call 59; exact Calls.quiet_of_same (less8 _ _ _)))
                            go_wp2
                            all_goals first
                              | (have hl : ltInt (G j) (G (j - 1)) = false := by
                                   have h : (!ltInt (G j) (G (j - 1))) = true := by assumption
                                   simpa using h
                                 have H3 := holds_drewN8 Hj.out nq
                                 have c3 := cj.drewN nq
                                 have s3 := sj
                                 have e3 := Lib.hid (show dj = fixUp ltInt b k (fixDown ltInt a k (swp dk k (k - 1))) by rw [← e2.out, fixUp, if_pos hbk, ← ej.out, shiftUp_stop ltInt b j dj (.inr (by rw [← hG.out, ← hG.out]; exact hl))])
                                 generalize dj = d3 at H3 s3 e3
                                 clear hcw hfw
                                 (try go_wp2)
                                 go_roundw
                                 case rel => exact ⟨k, s + 1, d3, rfl, by go_num, by omega, by omega, by omega, s3, H3, c3, Lib.hid (by rw [e3.out, ← pi_go ltInt a b s i k dk hs hK.out hkb2 h50]; exact HO.out)⟩
                                 case measure => simp [intOf]; omega)
                              | (have hl : ltInt (G j) (G (j - 1)) = true := by
                                   have h : (!ltInt (G j) (G (j - 1))) = false := by assumption
                                   simpa using h
                                 go_region
                                 all_goals
                                   go_wp2
                                   go_roundw
                                   case rel => exact ⟨j + 1, swp dj j (j - 1), by go_num, by omega, by omega, by rw [size_swp]; exact sj, hsw.out _, (((cj.drewN _).setCell (p := ⟨blk, _, none⟩) (.inl rfl) _).setCell (p := ⟨blk, _, none⟩) (.inl rfl) _), Lib.hid (by rw [← ej.out]; exact (shiftUp_go ltInt b j dj hjb2 (by rw [← hG.out, ← hG.out]; exact hl)).symm)⟩
                                   case measure => simp [intOf]; omega)
                          · have hjb2' : ¬ (j : Int) < (b : Int) := by omega
                            have H3 := Hj
                            have c3 := cj
                            have s3 := sj
                            have e3 := Lib.hid (show dj = fixUp ltInt b k (fixDown ltInt a k (swp dk k (k - 1))) by rw [← e2.out, fixUp, if_pos hbk, ← ej.out, shiftUp_stop ltInt b j dj (.inl hjb2)])
                            generalize dj = d3 at H3 s3 e3
                            (try go_wp2)
                            go_roundw
                            case rel => exact ⟨k, s + 1, d3, rfl, by go_num, by omega, by omega, by omega, s3, H3, c3, Lib.hid (by rw [e3.out, ← pi_go ltInt a b s i k dk hs hK.out hkb2 h50]; exact HO.out)⟩
                            case measure => simp [intOf]; omega
                  · have hka2' : ¬ (2 : Int) ≤ (k : Int) - (a : Int) := by omega
                    have H2 := H1
                    have c2 := c1
                    have s2 : (swp dk k (k - 1)).size = d.size := by rw [size_swp]; exact hsk
                    have e2 := Lib.hid (show swp dk k (k - 1) = fixDown ltInt a k (swp dk k (k - 1)) by rw [fixDown, if_neg hka2])
                    (try go_wp2)
                    go_loopw [10] (fun vj wr => ∃ (j : Nat) (dj : Array Int), vj = .int .i64 j ∧ k < j ∧ j ≤ b ∧ dj.size = d.size ∧ Holds e8 wr blk off dj ∧ Chg (fun k => k = blk) w wr ∧ Hid (shiftUp ltInt b j dj = shiftUp ltInt b (k + 1) (swp dk k (k - 1)))) (fun vj _ => b - (intOf vj).toNat)
                    case atStart => exact ⟨k + 1, (swp dk k (k - 1)), by go_num, by omega, by omega, s2, H2, c2, Lib.hid rfl⟩
                    case round =>
                      clear H2 c2
                      obtain ⟨j, dj, rfl, hkj, hjb, sj, Hj, cj, ej⟩ := hrel
                      by_cases hjb2 : j < b
                      · have hjb2' : (j : Int) < (b : Int) := by omega
                        obtain ⟨G, hG⟩ : ∃ G : Nat → Int, ∀ t, G t = dj[t]! := ⟨fun t => dj[t]!, fun _ => rfl⟩
                        have hcw : ∀ t, t < d.size → wr.cell? ⟨blk, off + t, none⟩ = some (.int .u8 (G t)) := fun t ht => by rw [hG]; exact (Hj t (by omega)).1
                        have hfw : ∀ t, t < d.size → wr.frozen? ⟨blk, off + t, none⟩ = false := fun t ht => (Hj t (by omega)).2
                        replace hG := Lib.hid hG
                        have hsw := Lib.hid (fun q => show Holds e8 (((wr.drewN q).setCell ⟨blk, off + j, none⟩ (e8 (G (j - 1)))).setCell ⟨blk, off + (j - 1), none⟩ (e8 (G j))) blk off (swp dj j (j - 1)) by rw [hG.out, hG.out]; exact holds_swp8 (holds_drewN8 Hj q) (by omega) (by omega))
                        replace Hj := Lib.hid Hj
                        go_wp2
                        go_quiet (first | (go_at_call 59; exact Calls.quiet_of_same (less8 _ _ _)))
                        go_wp2
                        all_goals first
                          | (have hl : ltInt (G j) (G (j - 1)) = false := by
                               have h : (!ltInt (G j) (G (j - 1))) = true := by assumption
                               simpa using h
                             have H3 := holds_drewN8 Hj.out nq
                             have c3 := cj.drewN nq
                             have s3 := sj
                             have e3 := Lib.hid (show dj = fixUp ltInt b k (fixDown ltInt a k (swp dk k (k - 1))) by rw [← e2.out, fixUp, if_pos hbk, ← ej.out, shiftUp_stop ltInt b j dj (.inr (by rw [← hG.out, ← hG.out]; exact hl))])
                             generalize dj = d3 at H3 s3 e3
                             clear hcw hfw
                             (try go_wp2)
                             go_roundw
                             case rel => exact ⟨k, s + 1, d3, rfl, by go_num, by omega, by omega, by omega, s3, H3, c3, Lib.hid (by rw [e3.out, ← pi_go ltInt a b s i k dk hs hK.out hkb2 h50]; exact HO.out)⟩
                             case measure => simp [intOf]; omega)
                          | (have hl : ltInt (G j) (G (j - 1)) = true := by
                               have h : (!ltInt (G j) (G (j - 1))) = false := by assumption
                               simpa using h
                             go_region
                             all_goals
                               go_wp2
                               go_roundw
                               case rel => exact ⟨j + 1, swp dj j (j - 1), by go_num, by omega, by omega, by rw [size_swp]; exact sj, hsw.out _, (((cj.drewN _).setCell (p := ⟨blk, _, none⟩) (.inl rfl) _).setCell (p := ⟨blk, _, none⟩) (.inl rfl) _), Lib.hid (by rw [← ej.out]; exact (shiftUp_go ltInt b j dj hjb2 (by rw [← hG.out, ← hG.out]; exact hl)).symm)⟩
                               case measure => simp [intOf]; omega)
                      · have hjb2' : ¬ (j : Int) < (b : Int) := by omega
                        have H3 := Hj
                        have c3 := cj
                        have s3 := sj
                        have e3 := Lib.hid (show dj = fixUp ltInt b k (fixDown ltInt a k (swp dk k (k - 1))) by rw [← e2.out, fixUp, if_pos hbk, ← ej.out, shiftUp_stop ltInt b j dj (.inl hjb2)])
                        generalize dj = d3 at H3 s3 e3
                        (try go_wp2)
                        go_roundw
                        case rel => exact ⟨k, s + 1, d3, rfl, by go_num, by omega, by omega, by omega, s3, H3, c3, Lib.hid (by rw [e3.out, ← pi_go ltInt a b s i k dk hs hK.out hkb2 h50]; exact HO.out)⟩
                        case measure => simp [intOf]; omega
                · have hbk' : ¬ (2 : Int) ≤ (b : Int) - (k : Int) := by omega
                  by_cases hka2 : k - a ≥ 2
                  · have hka2' : (2 : Int) ≤ (k : Int) - (a : Int) := by omega
                    go_wp2
                    go_loopw [9] (fun vj wr => ∃ (j : Nat) (dj : Array Int), vj = .int .i64 j ∧ j < k ∧ dj.size = d.size ∧ Holds e8 wr blk off dj ∧ Chg (fun k => k = blk) w wr ∧ Hid (shiftDown ltInt j dj = shiftDown ltInt (k - 1) (swp dk k (k - 1)))) (fun vj _ => (intOf vj).toNat)
                    case atStart => exact ⟨k - 1, swp dk k (k - 1), by go_num, by omega, by rw [size_swp]; exact hsk, H1, c1, Lib.hid rfl⟩
                    case round =>
                      clear H1 c1
                      obtain ⟨j, dj, rfl, hjk, sj, Hj, cj, ej⟩ := hrel
                      by_cases hj1 : 1 ≤ j
                      · have hj1' : (1 : Int) ≤ (j : Int) := by omega
                        obtain ⟨G, hG⟩ : ∃ G : Nat → Int, ∀ t, G t = dj[t]! := ⟨fun t => dj[t]!, fun _ => rfl⟩
                        have hcw : ∀ t, t < d.size → wr.cell? ⟨blk, off + t, none⟩ = some (.int .u8 (G t)) := fun t ht => by rw [hG]; exact (Hj t (by omega)).1
                        have hfw : ∀ t, t < d.size → wr.frozen? ⟨blk, off + t, none⟩ = false := fun t ht => (Hj t (by omega)).2
                        replace hG := Lib.hid hG
                        have hsw := Lib.hid (fun q => show Holds e8 (((wr.drewN q).setCell ⟨blk, off + j, none⟩ (e8 (G (j - 1)))).setCell ⟨blk, off + (j - 1), none⟩ (e8 (G j))) blk off (swp dj j (j - 1)) by rw [hG.out, hG.out]; exact holds_swp8 (holds_drewN8 Hj q) (by omega) (by omega))
                        replace Hj := Lib.hid Hj
                        go_wp2
                        go_quiet (first | (go_at_call 59; exact Calls.quiet_of_same (less8 _ _ _)))
                        go_wp2
                        all_goals first
                          | (have hl : ltInt (G j) (G (j - 1)) = false := by
                               have h : (!ltInt (G j) (G (j - 1))) = true := by assumption
                               simpa using h
                             have H2 := holds_drewN8 Hj.out nq
                             have c2 := cj.drewN nq
                             have s2 := sj
                             have e2 := Lib.hid (show dj = fixDown ltInt a k (swp dk k (k - 1)) by rw [fixDown, if_pos hka2, ← ej.out, shiftDown_stop ltInt j dj (.inr (by rw [← hG.out, ← hG.out]; exact hl))])
                             generalize dj = d2 at H2 s2 e2
                             clear hcw hfw
                             generalize wr.drewN nq = W2 at H2 c2 ⊢
                             have H3 := H2
                             have c3 := c2
                             have s3 := s2
                             have e3 := Lib.hid (show d2 = fixUp ltInt b k (fixDown ltInt a k (swp dk k (k - 1))) by rw [← e2.out, fixUp, if_neg hbk])
                             generalize d2 = d3 at H3 s3 e3
                             (try go_wp2)
                             go_roundw
                             case rel => exact ⟨k, s + 1, d3, rfl, by go_num, by omega, by omega, by omega, s3, H3, c3, Lib.hid (by rw [e3.out, ← pi_go ltInt a b s i k dk hs hK.out hkb2 h50]; exact HO.out)⟩
                             case measure => simp [intOf]; omega)
                          | (have hl : ltInt (G j) (G (j - 1)) = true := by
                               have h : (!ltInt (G j) (G (j - 1))) = false := by assumption
                               simpa using h
                             go_region
                             all_goals
                               go_wp2
                               go_roundw
                               case rel => exact ⟨j - 1, swp dj j (j - 1), by go_num, by omega, by rw [size_swp]; exact sj, hsw.out _, (((cj.drewN _).setCell (p := ⟨blk, _, none⟩) (.inl rfl) _).setCell (p := ⟨blk, _, none⟩) (.inl rfl) _), Lib.hid (by rw [← ej.out]; exact (shiftDown_go ltInt j dj hj1 (by rw [← hG.out, ← hG.out]; exact hl)).symm)⟩
                               case measure => simp [intOf]; omega)
                      · have hj1' : ¬ (1 : Int) ≤ (j : Int) := by omega
                        have H2 := Hj
                        have c2 := cj
                        have s2 := sj
                        have e2 := Lib.hid (show dj = fixDown ltInt a k (swp dk k (k - 1)) by rw [fixDown, if_pos hka2, ← ej.out, shiftDown_stop ltInt j dj (.inl (by omega))])
                        generalize dj = d2 at H2 s2 e2
                        go_wp2
                        have H3 := H2
                        have c3 := c2
                        have s3 := s2
                        have e3 := Lib.hid (show d2 = fixUp ltInt b k (fixDown ltInt a k (swp dk k (k - 1))) by rw [← e2.out, fixUp, if_neg hbk])
                        generalize d2 = d3 at H3 s3 e3
                        (try go_wp2)
                        go_roundw
                        case rel => exact ⟨k, s + 1, d3, rfl, by go_num, by omega, by omega, by omega, s3, H3, c3, Lib.hid (by rw [e3.out, ← pi_go ltInt a b s i k dk hs hK.out hkb2 h50]; exact HO.out)⟩
                        case measure => simp [intOf]; omega
                  · have hka2' : ¬ (2 : Int) ≤ (k : Int) - (a : Int) := by omega
                    have H2 := H1
                    have c2 := c1
                    have s2 : (swp dk k (k - 1)).size = d.size := by rw [size_swp]; exact hsk
                    have e2 := Lib.hid (show swp dk k (k - 1) = fixDown ltInt a k (swp dk k (k - 1)) by rw [fixDown, if_neg hka2])
                    have H3 := H2
                    have c3 := c2
                    have s3 := s2
                    have e3 := Lib.hid (show (swp dk k (k - 1)) = fixUp ltInt b k (fixDown ltInt a k (swp dk k (k - 1))) by rw [← e2.out, fixUp, if_neg hbk])
                    obtain ⟨d3, hd3⟩ : ∃ d3, d3 = swp dk k (k - 1) := ⟨_, rfl⟩
                    rw [← hd3] at H3 s3
                    replace e3 := Lib.hid (hd3.trans e3.out)
                    clear hd3
                    (try go_wp2)
                    go_roundw
                    case rel => exact ⟨k, s + 1, d3, rfl, by go_num, by omega, by omega, by omega, s3, H3, c3, Lib.hid (by rw [e3.out, ← pi_go ltInt a b s i k dk hs hK.out hkb2 h50]; exact HO.out)⟩
                    case measure => simp [intOf]; omega
        · have hkb1' : ¬ (k : Int) < (b : Int) := by omega
          obtain rfl : k = b := by omega
          have hz1 := Lib.hid (show decide ((k : Int) < (k : Int)) = false from decide_eq_false hkb1')
          have hz2 := Lib.hid (show decide (k < k) = false from decide_eq_false hkb1)
          have e := Lib.hid (pi_true ltInt a k s i dk hs (by rw [← ek.out, scanSorted_stop ltInt dk k k (.inl hkb1)]))
          replace Hk := Lib.hid Hk
          go_wp2_with fail
          go_quiet (first | (go_at_call 59; exact Calls.quiet_of_same (less8 _ _ _)))
          go_wp2
          go_ret
          exact ⟨by unfold Sort.partialInsertionSort; rw [← HO.out, e.out]; rfl, by unfold Sort.partialInsertionSort; rw [← HO.out, e.out]; exact holds_drewN8 Hk.out _, ck.drewN _⟩
    · obtain rfl : s = 5 := by omega
      have e := Lib.hid (show partialIns ltInt a b 5 (a + 1) d = (dk, false) by rw [← HO.out]; exact pi_end ltInt a b i dk)
      go_wp2
      go_ret
      exact ⟨by unfold Sort.partialInsertionSort; rw [e.out]; rfl, by unfold Sort.partialInsertionSort; rw [e.out]; exact HHk, chk⟩
end Go.Proofs.Ytkgmbomfkdkofaa
