/- The contract of strings.Cut at one byte: what stands ahead of it, and behind it. -/
import Derived.Test.YtkgmbomfkdkofaaQueue
import Derived.Test.YtkgmbomfkdkofaaJoinP
import Derived.Shelf.Strings.Search2
import Derived.Lib.IndexLaws
import Derived.BigQuiet
import Derived.Deep.QuietTactic
namespace Go.Proofs.Ytkgmbomfkdkofaa
open Go Go.Shelf Go.RowKit

def Try.lays219_ren : Go.Shelf.Ren := ⟨fun | 219 => 148 | 217 => 149 | 225 => 150 | 224 => 113 | 267 => 151 | 266 => 152 | 314 => 153 | n => n, fun | 9 => 9 | 3 => 3 | 4 => 4 | 5 => 5 | 46 => 126 | 146 => 181 | 51 => 137 | n => n, fun | 1 => 0 | n => n⟩
theorem Try.lays219 : Go.Proofs.Lays.n219 Try.prog Try.lays219_ren := {
  mixed := by kernel_rfl
  f217 := Try.func149.trans (congrArg some (by kernel_rfl))
  f219 := Try.func148.trans (congrArg some (by kernel_rfl))
  f224 := Try.func113.trans (congrArg some (by kernel_rfl))
  f225 := Try.func150.trans (congrArg some (by kernel_rfl))
  f266 := Try.func152.trans (congrArg some (by kernel_rfl))
  f267 := Try.func151.trans (congrArg some (by kernel_rfl))
  f314 := Try.func153.trans (congrArg some (by kernel_rfl))
  t3 := Try.underlying3
  a3 := Try.isAgg3
  z3 := Try.sizeOf3
  v3 := Try.zeroValue3
  t4 := Try.underlying4
  a4 := Try.isAgg4
  z4 := Try.sizeOf4
  v4 := Try.zeroValue4
  t5 := Try.underlying5
  a5 := Try.isAgg5
  z5 := Try.sizeOf5
  v5 := Try.zeroValue5
  t9 := Try.underlying9
  a9 := Try.isAgg9
  z9 := Try.sizeOf9
  v9 := Try.zeroValue9
  t46 := Try.underlying126
  a46 := Try.isAgg126
  z46 := Try.sizeOf126
  v46 := Try.zeroValue126
  t51 := Try.underlying137
  a51 := Try.isAgg137
  z51 := Try.sizeOf137
  v51 := Try.zeroValue137
  t146 := Try.underlying181
  a146 := Try.isAgg181
  z146 := Try.sizeOf181
  v146 := Try.zeroValue181
  g1 := by kernel_rfl }

theorem sindex_any (s : Bs) (c : UInt8) (w : World) : Calls Try.prog 148 #[strv s, strv [c]] w fun e w' => e = .returned (.int .i64 (Lib.indexByte s c)) ∧ w' = w := by
  have h := Any.stringslite_Index_one Try.lays219 ⟨s.toArray⟩ c w
  exact h

theorem sc_none (c : UInt8) : ∀ s : Bs, Lib.indexByte s c = -1 → keyS c s = s ∧ restS c s = []
  | [], _ => ⟨rfl, rfl⟩
  | x :: r, h => by
    unfold Lib.indexByte at h
    split at h
    · cases h
    · next hx =>
      have hge := Lib.indexByte_ge r c
      have hr : Lib.indexByte r c = -1 := by
        split at h
        · next h1 => exact beq_iff_eq.1 h1
        · omega
      have ih := sc_none c r hr
      have hxc : ¬ x = c := by simpa using hx
      unfold keyS restS cutBy
      rw [if_neg hxc]
      exact ⟨by show x :: (cutBy c r).1 = _; rw [show (cutBy c r).1 = r from ih.1], ih.2⟩
theorem sc_some (c : UInt8) : ∀ (s : Bs) (i : Nat), Lib.indexByte s c = i → i < s.length ∧ keyS c s = s.take i ∧ restS c s = s.drop (i + 1)
  | [], i, h => by
    have h2 : (-1 : Int) = i := h
    omega
  | x :: r, i, h => by
    unfold Lib.indexByte at h
    split at h
    · next hx =>
      have hxc : x = c := by simpa using hx
      obtain rfl : i = 0 := by omega
      unfold keyS restS cutBy
      rw [if_pos hxc]
      exact ⟨by simp, rfl, rfl⟩
    · next hx =>
      have hge := Lib.indexByte_ge r c
      have hxc : ¬ x = c := by simpa using hx
      split at h
      · omega
      · next h1 =>
        have hn : ¬ Lib.indexByte r c = -1 := by simpa using h1
        obtain ⟨j, rfl⟩ : ∃ j, i = j + 1 := ⟨i - 1, by omega⟩
        have ih := sc_some c r j (by omega)
        unfold keyS restS cutBy
        rw [if_neg hxc]
        refine ⟨by simp; exact ih.1, ?_, ?_⟩
        · show x :: (cutBy c r).1 = _; rw [show (cutBy c r).1 = _ from ih.2.1]; rfl
        · show (cutBy c r).2 = _; rw [show (cutBy c r).2 = _ from ih.2.2]; rfl

def hasS (c : UInt8) (s : Bs) : Bool := !(Lib.indexByte s c == -1)
set_option maxHeartbeats 1000000 in
set_option maxRecDepth 100000 in
theorem lcut_any (s : Bs) (c : UInt8) (w : World) (hs : s.length ≤ 1000000) :
    Calls Try.prog 147 #[strv s, strv [c]] w fun e w' => e = .returned (.tuple #[strv (keyS c s), strv (restS c s), .bool (hasS c s)]) ∧ ∃ n, w' = w.drewN n := by
  have hix := sindex_any s c
  have hge := Lib.indexByte_ge s c
  have hsz : (⟨s.toArray⟩ : ByteArray).size = s.length := by simp [ByteArray.size]
  rcases (by omega : Lib.indexByte s c = -1 ∨ 0 ≤ Lib.indexByte s c) with hm | hp
  · obtain ⟨e1, e2⟩ := sc_none c s hm
    have e3 : hasS c s = false := by unfold hasS; rw [hm]; rfl
    rw [e1, e2, e3]
    rw [hm] at hix
    replace hix := Lib.hid hix
    clear hm hge e1 e2 e3
    go_enter Try.func147, Try.ntmps147
    go_wp2_with (first
      | (go_at_call 148
         refine (hix.out _).mono ?_
         rintro e1 w1 ⟨rfl, rfl⟩))
    go_ret3
    exact ⟨rfl, 0, rfl⟩
  · obtain ⟨i, hi⟩ : ∃ i : Nat, Lib.indexByte s c = i := ⟨(Lib.indexByte s c).toNat, by omega⟩
    obtain ⟨h1, h2, h3⟩ := sc_some c s i hi
    have e3 : hasS c s = true := by
      unfold hasS
      rw [hi]
      simp
    have x1 : (⟨s.toArray⟩ : ByteArray).extract 0 i = ⟨(keyS c s).toArray⟩ := by rw [h2]; apply ByteArray.ext; simp
    have x2 : (⟨s.toArray⟩ : ByteArray).extract (i + 1) s.length = ⟨(restS c s).toArray⟩ := by rw [h3]; apply ByteArray.ext; simp [List.take_of_length_le]
    rw [e3]
    rw [hi] at hix
    have c1 : (0 : Int) ≤ (i : Int) := by omega
    have c2 : (i : Int) ≤ (s.length : Int) := by omega
    have c3 : (i : Int) + 1 ≤ (s.length : Int) := by omega
    have c4 : (0 : Int) ≤ (i : Int) + 1 := by omega
    have c5 : (s.length : Int) ≤ 1000000 := by omega
    generalize keyS c s = a at *
    generalize restS c s = b at *
    replace hix := Lib.hid hix
    replace h1 := Lib.hid h1
    replace h2 := Lib.hid h2
    replace h3 := Lib.hid h3
    clear hge hp hi e3
    go_enter Try.func147, Try.ntmps147
    go_wp2_with (first
      | (go_at_call 148
         refine (hix.out _).mono ?_
         rintro e1 w1 ⟨rfl, rfl⟩))
    go_quiet (fail)
    go_wp2
    go_ret3
    exact ⟨rfl, _, rfl⟩

theorem scut_any (s : Bs) (c : UInt8) (w : World) (hs : s.length ≤ 1000000) :
    Calls Try.prog 144 #[strv s, strv [c]] w fun e w' => e = .returned (.tuple #[strv (keyS c s), strv (restS c s), .bool (hasS c s)]) ∧ ∃ n, w' = w.drewN n := by
  have h := lcut_any s c
  replace h := Lib.hid h
  generalize keyS c s = a at *
  generalize restS c s = b at *
  generalize hasS c s = d at *
  go_enter Try.func144, Try.ntmps144
  go_wp2_with (first
    | (go_at_call 147
       refine (h.out _ hs).mono ?_
       rintro e1 w1 ⟨rfl, n1, rfl⟩))
  go_ret3
  exact ⟨rfl, _, rfl⟩
end Go.Proofs.Ytkgmbomfkdkofaa
