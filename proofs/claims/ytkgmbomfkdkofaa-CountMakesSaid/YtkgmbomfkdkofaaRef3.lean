/- The contracts of penstockref03: the document's answer for layer 3. -/
import Derived.Test.YtkgmbomfkdkofaaTell
import Derived.Lib.Hide
namespace Go.Proofs.Ytkgmbomfkdkofaa
open Go Go.RowKit

/-- A stage's parameters. -/
structure Prm where
  kind : Int
  n : Int
  a : Bs
  b : Bs
structure Prm.Fine (p : Prm) : Prop where
  n0 : -9223372036854775808 ≤ p.n
  n1 : p.n ≤ 9223372036854775807
  a : p.a.length ≤ 1000000
  b : p.b.length ≤ 1000000

def PAt (w : World) (D : Nat → Prop) (v : Value) (p : Prm) : Prop :=
  ∃ A ca B cb, v = .agg #[.int .i64 p.kind, .int .i64 p.n, .slice A p.a.length ca, .slice B p.b.length cb] ∧ Rd w D 1 A p.a.length (u8s p.a) ∧ Rd w D 1 B p.b.length (u8s p.b)
theorem PAt.chg {w w' : World} {D S : Nat → Prop} {v : Value} {p : Prm} (h : PAt w D v p) (hb : Chg S w w') (hD : ∀ k, D k → k < w.heap.size → ¬ S k) : PAt w' D v p := by
  obtain ⟨A, ca, B, cb, rfl, h1, h2⟩ := h
  exact ⟨A, ca, B, cb, rfl, h1.chg hb hD, h2.chg hb hD⟩
theorem PAt.mono {w : World} {D D' : Nat → Prop} {v : Value} {p : Prm} (h : PAt w D v p) (hD : ∀ k, D k → k < w.heap.size → D' k) : PAt w D' v p := by
  obtain ⟨A, ca, B, cb, rfl, h1, h2⟩ := h
  exact ⟨A, ca, B, cb, rfl, h1.mono hD, h2.mono hD⟩

def wi (n a b : Int) : Bool := decide (a ≤ n ∧ n ≤ b)
def ze (a : Bs) : Bool := (a.length : Int) == 0
def oneB (a : Bs) : Bool := decide (a.length = 1 ∧ a ≠ [10])

def refRow (p : Prm) : Bool :=
  if p.kind = 1 ∨ p.kind = 2 then (ze p.a && ze p.b) && wi p.n 0 15
  else if p.kind = 3 ∨ p.kind = 10 then (ze p.a && ze p.b) && wi p.n 0 1000000000
  else if p.kind = 4 then (ze p.a && ze p.b) && decide (0 ≤ p.n)
  else if p.kind = 5 then ((ze p.b && wi p.n 0 1) && wi p.a.length 1 16) && !decide ((10 : UInt8) ∈ p.a)
  else if p.kind = 6 then (((p.n == 0) && wi p.a.length 1 64) && decide p.a.Nodup) && decide ((p.b.length : Int) ≤ p.a.length)
  else if p.kind = 7 then (ze p.b && oneB p.a) && wi p.n 1 65535
  else if p.kind = 8 ∨ p.kind = 11 then (ze p.a && ze p.b) && wi p.n 0 1
  else if p.kind = 9 then (ze p.a && ze p.b) && (p.n == 0)
  else if p.kind = 12 ∨ p.kind = 15 ∨ p.kind = 16 then (ze p.a && ze p.b) && wi p.n 1 4
  else if p.kind = 13 then (ze p.b && oneB p.a) && wi p.n 1 4
  else if p.kind = 14 then (ze p.b && oneB p.a) && decide (1 ≤ p.n)
  else false

def refHolds (p : Prm) : Int :=
  if (p.kind = 4 ∨ p.kind = 14) ∧ 100 < p.n then 10000
  else if p.kind = 3 ∨ p.kind = 5 ∨ p.kind = 7 ∨ p.kind = 10 ∨ p.kind = 16 then 64
  else if p.kind = 4 then 64 + 64 * p.n
  else if p.kind = 8 then 128
  else if p.kind = 11 then 320
  else if p.kind = 13 then 96 * p.n
  else if p.kind = 14 then 2 * (64 * p.n + 96)
  else 0

def refCheck (p : Prm) : Int :=
  if p.kind < 1 ∨ 16 < p.kind then 10
  else if refRow p = false then 11
  else if 2048 < refHolds p then 12
  else 0

def refArity (p : Prm) : Int × Int :=
  if refCheck p ≠ 0 then (0, 0)
  else if p.kind = 1 then (0, 1)
  else if p.kind = 2 then (1, 0)
  else if p.kind = 12 ∨ p.kind = 13 then (p.n, 1)
  else if p.kind = 14 then (2, 1)
  else if p.kind = 15 ∨ p.kind = 16 then (1, p.n)
  else (1, 1)

theorem within_any (n a b : Int) (w : World) :
    Calls Try.prog 38 #[.int .i64 n, .int .i64 a, .int .i64 b] w fun e w' => e = .returned (.bool (wi n a b)) ∧ w' = w := by
  unfold wi
  by_cases h1 : a ≤ n
  · by_cases h2 : n ≤ b
    · have e : decide (a ≤ n ∧ n ≤ b) = true := by simp [h1, h2]
      rw [e]
      go_enter Try.func38, Try.ntmps38
      go_wp2
      go_ret
      exact ⟨rfl, rfl⟩
    · have e : decide (a ≤ n ∧ n ≤ b) = false := by simp [h2]
      rw [e]
      go_enter Try.func38, Try.ntmps38
      go_wp2
      go_ret
      exact ⟨rfl, rfl⟩
  · have e : decide (a ≤ n ∧ n ≤ b) = false := by simp [h1]
    rw [e]
    go_enter Try.func38, Try.ntmps38
    go_wp2
    go_ret
    exact ⟨rfl, rfl⟩

theorem one_any (D : Nat → Prop) (A : Option Addr) (c : Nat) (a : Bs) (w : World) (hr : Rd w D 1 A a.length (u8s a)) :
    Calls Try.prog 41 #[.slice A a.length c] w fun e w' => e = .returned (.bool (oneB a)) ∧ w' = w := by
  unfold oneB
  match a, hr with
  | [], hr =>
    go_enter Try.func41, Try.ntmps41
    go_wp2
    go_ret
    exact ⟨rfl, rfl⟩
  | [x], hr =>
    obtain ⟨g, o, v, rfl, hg, _, hv, hc⟩ := hr.at_ (k := 0) (by simp)
    simp [u8s] at hv
    subst hv
    have hc' : w.cell? ⟨g, o, none⟩ = some (.int .u8 x.toNat) := hc
    clear hr
    by_cases hx : x = 10
    · subst hx
      go_enter Try.func41, Try.ntmps41
      go_wp2
      go_ret
      exact ⟨rfl, rfl⟩
    · have hn : ((x.toNat : Int) == 10) = false := by
        rw [beq_eq_false_iff_ne]; intro h; exact hx (UInt8.toNat_inj.1 (by simpa using (by omega : x.toNat = 10)))
      have e : decide ([x].length = 1 ∧ [x] ≠ [10]) = true := by simp [hx]
      rw [e]
      go_enter Try.func41, Try.ntmps41
      go_wp2
      go_ret
      have hn2 : ((x.toNat : Int) != 10) = true := by simp [bne, hn]
      simp [hn2]
  | x :: y :: r, hr =>
    have hn : (((x :: y :: r).length : Int) == 1) = false := by rw [beq_eq_false_iff_ne]; simp; omega
    have e : decide ((x :: y :: r).length = 1 ∧ (x :: y :: r) ≠ [10]) = false := by simp
    rw [e]
    clear e hr
    generalize (x :: y :: r).length = m at *
    go_enter Try.func41, Try.ntmps41
    go_wp2
    go_ret
    exact ⟨rfl, rfl⟩

theorem u8_beq (x y : UInt8) : ((x.toNat : Int) == (y.toNat : Int)) = decide (x = y) := by
  by_cases h : x = y
  · subst h; simp
  · rw [decide_eq_false h, beq_eq_false_iff_ne]
    intro e
    exact h (UInt8.toNat_inj.1 (by omega))

theorem u8_at {w : World} {D : Nat → Prop} {A : Option Addr} {a : Bs} (hr : Rd w D 1 A a.length (u8s a)) {k : Nat} (hk : k < a.length) : ∃ g o, A = some ⟨g, o, none⟩ ∧ g < w.heap.size ∧ w.cell? ⟨g, o + k, none⟩ = some (.int .u8 (a[k]).toNat) := by
  obtain ⟨g, o, v, rfl, hg, _, hv, hc⟩ := hr.at_ hk
  refine ⟨g, o, rfl, hg, ?_⟩
  rw [hc]
  simp [u8s, List.getElem?_eq_getElem hk] at hv
  rw [hv]

theorem has_any (D : Nat → Prop) (A : Option Addr) (c : Nat) (a : Bs) (x : UInt8) (w : World) (hr : Rd w D 1 A a.length (u8s a)) (hl : a.length ≤ 1000000) :
    Calls Try.prog 39 #[.slice A a.length c, .int .u8 x.toNat] w fun e w' => e = .returned (.bool (decide (x ∈ a))) ∧ w' = w := by
  go_enter Try.func39, Try.ntmps39
  go_wp2
  go_loopw [5] (fun i wr => ∃ m : Nat, m ≤ a.length ∧ i = .int .i64 m ∧ wr = w ∧ x ∉ a.take m) (fun i _ => a.length - (intOf i).toNat)
  case atStart => exact ⟨0, Nat.zero_le _, rfl, rfl, by simp⟩
  case round =>
    obtain ⟨m, hm, rfl, rfl, hno⟩ := hrel
    by_cases hlt : m < a.length
    · obtain ⟨g, o, rfl, hg, hc⟩ := u8_at hr hlt
      have hq := u8_beq a[m] x
      have hsn : a.take (m + 1) = a.take m ++ [a[m]] := List.take_succ_eq_append_getElem hlt
      have hmem : a[m] ∈ a := List.getElem_mem hlt
      generalize a[m] = y at *
      by_cases hy : y = x
      · rw [decide_eq_true hy] at hq
        have e : decide (x ∈ a) = true := decide_eq_true (hy ▸ hmem)
        clear hsn hmem hno hr
        have e := Lib.hid e
        go_wp2
        go_ret
        rw [e.out]
        exact ⟨rfl, rfl⟩
      · rw [decide_eq_false hy] at hq
        have hnx : x ∉ a.take (m + 1) := by rw [hsn]; simp [hno]; exact fun h => hy h.symm
        clear hsn hmem hno hr
        go_wp2
        go_roundw
        case rel => exact ⟨m + 1, by omega, by go_num, by trivial, hnx⟩
        case measure => simp [intOf]; omega
    · have e : decide (x ∈ a) = false := by
        apply decide_eq_false
        rw [List.take_of_length_le (by omega)] at hno
        exact hno
      have e := Lib.hid e
      clear hr
      go_wp2
      go_ret
      rw [e.out]
      exact ⟨rfl, rfl⟩

set_option maxHeartbeats 400000 in
set_option maxRecDepth 100000 in
theorem unlike_any (D : Nat → Prop) (A : Option Addr) (c : Nat) (a : Bs) (w : World) (hr : Rd w D 1 A a.length (u8s a)) (hl : a.length ≤ 1000000) :
    Calls Try.prog 40 #[.slice A a.length c] w fun e w' => e = .returned (.bool (decide a.Nodup)) ∧ Chg (fun _ => False) w w' := by
  go_enter Try.func40, Try.ntmps40
  go_wp2
  go_loopw [3] (fun i wr => ∃ m : Nat, m ≤ a.length ∧ i = .int .i64 m ∧ Chg (fun _ => False) w wr ∧ (a.take m).Nodup) (fun i _ => a.length - (intOf i).toNat)
  case atStart => exact ⟨0, Nat.zero_le _, rfl, Chg.refl _ _, by simp⟩
  case round =>
    obtain ⟨m, hm, rfl, hch, hno⟩ := hrel
    by_cases hlt : m < a.length
    · go_wp2
      go_loopw [4] (fun i wr => ∃ k : Nat, k ≤ m ∧ i = .int .i64 k ∧ Chg (fun _ => False) w wr ∧ a[m] ∉ a.take k) (fun i _ => m - (intOf i).toNat)
      case atStart => exact ⟨0, Nat.zero_le _, rfl, hch, by simp⟩
      case round =>
        obtain ⟨k, hk, rfl, hch2, hnk⟩ := hrel
        by_cases hkm : k < m
        · obtain ⟨g, o, rfl, hg, hc⟩ := u8_at hr hlt
          obtain ⟨g', o', e', hg', hc'⟩ := u8_at hr (Nat.lt_trans hkm hlt)
          cases e'
          have hq := u8_beq (a[k]'(Nat.lt_trans hkm hlt)) a[m]
          have hsn : a.take (k + 1) = a.take k ++ [a[k]'(Nat.lt_trans hkm hlt)] := List.take_succ_eq_append_getElem (Nat.lt_trans hkm hlt)
          have hd1 := (hch2.cell (p := ⟨g, o + m, none⟩) hg (fun h => h)).trans hc
          have hd2 := (hch2.cell (p := ⟨g, o + k, none⟩) hg (fun h => h)).trans hc'
          have hnd : a[k]'(Nat.lt_trans hkm hlt) = a[m] → ¬ a.Nodup := fun e hn => by
            exact List.pairwise_iff_getElem.1 hn k m _ hlt hkm e
          generalize a[m] = x at *
          generalize a[k]'(Nat.lt_trans hkm hlt) = y at *
          by_cases hy : y = x
          · rw [decide_eq_true hy] at hq
            have e : decide a.Nodup = false := decide_eq_false (hnd hy)
            have e := Lib.hid e
            clear hsn hno hr hnd hc hc' hnk
            go_wp2
            go_quiet (fail)
            go_wp2
            go_ret
            rw [e.out]
            exact ⟨rfl, hch2.drewN _⟩
          · rw [decide_eq_false hy] at hq
            have hnx : x ∉ a.take (k + 1) := by rw [hsn]; simp [hnk]; exact fun h => hy h.symm
            clear hsn hno hr hnd hc hc' hnk
            go_wp2
            go_quiet (fail)
            go_wp2
            go_roundw
            case rel => exact ⟨k + 1, by omega, by go_num, hch2.drewN _, hnx⟩
            case measure => simp [intOf]; omega
        · have hnx : (a.take (m + 1)).Nodup := by
            rw [List.take_succ_eq_append_getElem hlt, List.nodup_append]
            refine ⟨hno, by simp, ?_⟩
            intro x hx y hy
            simp at hy
            subst hy
            rintro rfl
            have : k = m := by omega
            subst this
            exact hnk hx
          clear hno hr hnk
          go_wp2
          go_roundw
          case rel => exact ⟨m + 1, by omega, by go_num, hch2, hnx⟩
          case measure => simp [intOf]; omega
    · have e : decide a.Nodup = true := by
        apply decide_eq_true
        rw [List.take_of_length_le (by omega)] at hno
        exact hno
      have e := Lib.hid e
      clear hr
      go_wp2
      go_ret
      rw [e.out]
      exact ⟨rfl, hch⟩
end Go.Proofs.Ytkgmbomfkdkofaa
