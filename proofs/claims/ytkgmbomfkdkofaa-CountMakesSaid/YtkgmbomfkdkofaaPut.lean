/- The contracts of penstocklaw04's cut and (*Got).put. -/
import Derived.Test.YtkgmbomfkdkofaaTell
import Derived.Lib.Hide
namespace Go.Proofs.Ytkgmbomfkdkofaa
open Go Go.RowKit

/-- Numbers that can be read. -/
def i64s (l : List Int) : List Value := l.map (Value.int .i64)

theorem cut_none (a : Option Addr) (c : Nat) (n : Int) (w : World) :
    Calls Try.prog 31 #[.slice a 0 c, .int .i64 n] w fun e w' => e = .returned (.int .i64 32) ∧ w = w' := by
  go_enter Try.func31, Try.ntmps31
  go_wp2
  go_ret
  exact ⟨rfl, rfl⟩

theorem cut_some (b off m c n : Nat) (z : Int) (w : World) (hm : 0 < m) (hm2 : m ≤ 100000) (hn : n ≤ 100000) (h0 : -32 < z.tmod 32) (h1 : z.tmod 32 < 32)
    (hc : w.cell? ⟨b, off + n % m, none⟩ = some (.int .i64 z)) :
    Calls Try.prog 31 #[.slice (some ⟨b, off, none⟩) m c, .int .i64 (n : Int)] w fun e w' => e = .returned (.int .i64 ((z.tmod 32).natAbs + 1 : Nat)) ∧ w = w' := by
  have hlt : n % m < m := Nat.mod_lt _ hm
  have i1 : (0 : Int) ≤ (n : Int) % (m : Int) := by omega
  have i2 : (n : Int) % (m : Int) < (m : Int) := Int.emod_lt_of_pos _ (by omega)
  have hz : ((m : Int) == 0) = false := by rw [beq_eq_false_iff_ne]; omega
  by_cases hneg : z.tmod 32 < 0
  · have e : (((z.tmod 32).natAbs + 1 : Nat) : Int) = -z.tmod 32 + 1 := by omega
    rw [e]
    go_enter Try.func31, Try.ntmps31
    go_wp2
    go_ret
    exact ⟨rfl, rfl⟩
  · have e : (((z.tmod 32).natAbs + 1 : Nat) : Int) = z.tmod 32 + 1 := by omega
    rw [e]
    go_enter Try.func31, Try.ntmps31
    go_wp2
    go_ret
    exact ⟨rfl, rfl⟩

theorem cut_fn (D : Nat → Prop) (A : Option Addr) (c : Nat) (cuts : List Int) (n : Nat) (w : World) (hr : Rd w D 1 A cuts.length (i64s cuts)) (hl : cuts.length ≤ 100000) (hn : n ≤ 100000) :
    Calls Try.prog 31 #[.slice A cuts.length c, .int .i64 (n : Int)] w fun e w' => e = .returned (.int .i64 (cutN cuts n : Nat)) ∧ w = w' := by
  by_cases h0 : cuts.length = 0
  · have e : cutN cuts n = 32 := by simp [cutN, h0]
    rw [e, h0]
    exact cut_none A c n w
  · obtain ⟨b, off, u, rfl, _, _, hu, hcell⟩ := hr.at_ (k := n % cuts.length) (Nat.mod_lt _ (by omega))
    have hlt := Nat.mod_lt n (show cuts.length > 0 by omega)
    have hux : u = .int .i64 (cuts.getD (n % cuts.length) 0) := by
      simp only [i64s, List.getElem?_map, List.getElem?_eq_getElem hlt, Option.map_some, Option.some.injEq] at hu
      rw [List.getD, List.getElem?_eq_getElem hlt]
      exact hu.symm
    subst hux
    have e : cutN cuts n = ((cuts.getD (n % cuts.length) 0).tmod 32).natAbs + 1 := by simp [cutN, h0]
    rw [e]
    have hb := Int.natAbs_tmod (cuts.getD (n % cuts.length) 0) 32
    have hb2 : (cuts.getD (n % cuts.length) 0).natAbs % (32 : Int).natAbs < 32 := Nat.mod_lt _ (by decide)
    exact cut_some b off cuts.length c n _ w (by omega) hl hn (by omega) (by omega) hcell

/-- The cells of a Got. -/
def gotC (outs : Nat → Bs) (need err held : Int) (taken : Nat → Nat) (bad : Bool) : Array Value :=
  #[strv (outs 0), strv (outs 1), strv (outs 2), strv (outs 3), .int .i64 need, .int .i64 err, .int .i64 held, .int .i64 (taken 0 : Nat), .int .i64 (taken 1 : Nat), .int .i64 (taken 2 : Nat), .int .i64 (taken 3 : Nat), .bool bad]
end Go.Proofs.Ytkgmbomfkdkofaa
