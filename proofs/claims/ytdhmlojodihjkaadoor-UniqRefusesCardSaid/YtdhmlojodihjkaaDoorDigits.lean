/- penstockref09's Digits: the decimal numeral. -/
import Derived.Test.YtdhmlojodihjkaaDoorUniqL
import Derived.Test.YtdhmlojodihjkaaDoorSame
import Derived.Test.YtdhmlojodihjkaaDoorCat
import Derived.Deep.RegionHeld3
import Derived.Deep.RegionWith
import Derived.Deep.DrawnRows
import Derived.BigQuiet
import Derived.Outline
namespace Go.Proofs.YtdhmlojodihjkaaDoor
open Go Go.RowKit

def DigPost (n : Nat) (w : World) (e : Ending) (w' : World) : Prop := e = .returned (strv (Lib.decDigits n)) ∧ Chg (fun _ => False) w w'

theorem conv_one (d : Nat) (hd : d < 10) (g : Nat) (W : World) (h : W.cell? ⟨g, 0, none⟩ = some (.int .u8 ((48 + d : Nat) : Int))) :
    (convert 22 9 (.slice (some ⟨g, 0, none⟩) 1 1)).run Tryd.prog W = .ok (strv [UInt8.ofNat (48 + d)]) W :=
  conv_str (W := W) g 0 1 [UInt8.ofNat (48 + d)] (fun i x hx => by
    obtain rfl : i = 0 := by
      have := (List.getElem?_eq_some_iff.1 hx).1
      simpa using this
    simp only [List.getElem?_cons_zero, Option.some.injEq] at hx
    subst hx
    rw [Nat.add_zero, h, UInt8.toNat_ofNat']
    congr 2
    omega)

theorem keep_new {w w1 : World} {v : Value} {T : TypeId} (h : Chg (fun _ => False) (w.alloc (.cells #[v] T)) w1) : w1.cell? ⟨w.heap.size, 0, none⟩ = some v :=
  (h.cell (p := ⟨w.heap.size, 0, none⟩) (by simp) (fun h => h)).trans ((Blk.new w T #[v]).cell 0)
theorem keep_newd {w w1 : World} {v : Value} {T : TypeId} (h : Chg (fun _ => False) (w.alloc (.cells #[v] T)).drew w1) : w1.cell? ⟨w.heap.size, 0, none⟩ = some v := keep_new (w := w) (v := v) (T := T) ⟨h.os, h.tape, h.output, h.size, h.block⟩
theorem wrap_small (_ q : Nat) (h : q ≤ 4000000000) : IntKind.i64.wrap (q : Int) = (q : Int) := by
  have e : (q : Int) % 18446744073709551616 = q := by omega
  have e2 : ((2 : Int) ^ 64) = 18446744073709551616 := rfl
  have e3 : ((2 : Int) ^ (64 - 1)) = 9223372036854775808 := rfl
  simp only [IntKind.wrap, IntKind.bits, IntKind.signed, e2, e3, e]
  rw [if_neg (by simp; omega)]
theorem wrap_u8 (q : Nat) (h : q ≤ 255) : IntKind.u8.wrap (q : Int) = (q : Int) := by
  have e : (q : Int) % 256 = q := by omega
  have e2 : ((2 : Int) ^ 8) = 256 := rfl
  simp only [IntKind.wrap, IntKind.bits, IntKind.signed, e2, e]
  simp

set_option maxHeartbeats 1000000 in
set_option maxRecDepth 100000 in
theorem digits_any (n : Nat) : n ≤ 4000000000 → ∀ w, Calls Tryd.prog 50 #[.int .i64 n] w (DigPost n w) := by
  induction n using Nat.strongRecOn with
  | _ n ih =>
    intro hn w
    by_cases h10 : n < 10
    · have e : Lib.decDigits n = [UInt8.ofNat (48 + n)] := Lib.decDigits_one h10
      unfold DigPost
      rw [e]
      have hlt : (n : Int) < 10 := by omega
      have hcv := fun (g : Nat) (W : World) => conv_one n h10 g W
      have hw : ((48 : Int) + (n : Int)) = ((48 + n : Nat) : Int) := by omega
      replace hw := Lib.hid hw
      clear ih e
      go_enter Tryd.func50, Tryd.ntmps50
      go_wp2
      go_ret
      exact ⟨by simp, (Chg.refl _ _).alloc _⟩
    · have e : Lib.decDigits n = Lib.decDigits (n / 10) ++ [UInt8.ofNat (48 + n % 10)] := by rw [Lib.decDigits, dif_neg h10]
      have hlen : (Lib.decDigits (n / 10)).length ≤ 20 := by
        rw [Lib.decDigits_length]
        exact Lib.nDigits_le20 _ (by omega)
      unfold DigPost
      rw [e]
      have hlt : ¬ (n : Int) < 10 := by omega
      have hm : n % 10 < 10 := Nat.mod_lt _ (by omega)
      have hcv := fun (g : Nat) (W : World) => conv_one (n % 10) hm g W
      have hq : wrap64 ((n : Int).tdiv 10) = ((n / 10 : Nat) : Int) := by
        have : (n : Int).tdiv 10 = ((n / 10 : Nat) : Int) := by rw [Int.tdiv_eq_ediv_of_nonneg (by omega)]; omega
        rw [this]; unfold wrap64; omega
      have hr : (n : Int).tmod 10 = ((n % 10 : Nat) : Int) := by rw [Int.tmod_eq_emod_of_nonneg (by omega)]; omega
      have hq1 : IntKind.i64.wrap ((n : Int) / 10) = ((n / 10 : Nat) : Int) := by
        have : (n : Int) / 10 = ((n / 10 : Nat) : Int) := by omega
        rw [this]; exact wrap_small 0 _ (by omega)
      have hr1 : (n : Int) % 10 = ((n % 10 : Nat) : Int) := by omega
      have hrec := ih (n / 10) (by omega) (by omega)
      unfold DigPost at hrec
      have hcat := fun W => run_cat2 (Lib.decDigits (n / 10)) [UInt8.ofNat (48 + n % 10)] (by omega) (by simp) W
      generalize hqn : n / 10 = q at *
      generalize hmn : n % 10 = m at *
      have hm' : (m : Int) < 10 := by omega
      have hm0 : (0 : Int) ≤ (m : Int) := by omega
      have hw1 : IntKind.i64.wrap (48 + (m : Int)) = 48 + (m : Int) := wrap_small 0 (48 + m) (by omega)
      have hw2 : IntKind.u8.wrap (48 + (m : Int)) = 48 + (m : Int) := wrap_u8 (48 + m) (by omega)
      generalize Lib.decDigits q = ds at *
      replace hqn := Lib.hid hqn
      replace hmn := Lib.hid hmn
      replace hrec := Lib.hid hrec
      clear ih e
      go_enter Tryd.func50, Tryd.ntmps50
      go_wp2
      go_region_with (go_at_call 50; refine (hrec.out _).mono ?_; rintro e1 w1 ⟨rfl, hc1⟩; first | (have hz := keep_new hc1) | (have hz := keep_newd hc1) | skip)
      all_goals
        go_wp2
        go_ret
        refine ⟨by simp [ByteArray.mk_append_mk]; rfl, ?_⟩
        first
          | exact ((((Chg.refl (fun _ => False) w).drewN _).trans hc1 (fun _ h _ => h)).alloc _).drewN _
          | exact ((((Chg.refl (fun _ => False) w).drewN _).alloc _).trans hc1 (fun _ h _ => h)).drewN _
          | exact (((Chg.refl (fun _ => False) w).drew.trans hc1 (fun _ h _ => h)).alloc _).drew
          | exact (((Chg.refl (fun _ => False) w).drew.trans hc1 (fun _ h _ => h)).alloc _)
          | exact (((Chg.refl (fun _ => False) w).alloc _).drew.trans hc1 (fun _ h _ => h))
          | exact (((Chg.refl (fun _ => False) w).alloc _).drew.trans hc1 (fun _ h _ => h)).drew
          | exact (((Chg.refl (fun _ => False) w).drew.alloc _).trans hc1 (fun _ h _ => h))
end Go.Proofs.YtdhmlojodihjkaaDoor
