/- penstocklaw10: heavy and fit. -/
import Derived.Test.YtkgmbomfkdkofaaSame
import Derived.Test.YtkgmbomfkdkofaaRef3C
namespace Go.Proofs.Ytkgmbomfkdkofaa.Count
open Go Go.RowKit

def slv (t : Option Addr × Nat × Nat) : Value := .slice t.1 t.2.1 t.2.2

def heavyB (a b : Nat) (ins : List Strm) (cs : List (Option Addr × Nat × Nat)) : Bool :=
  if 1000 < a ∨ 1000 < b ∨ 8 < ins.length then true else if ins.any (fun s => decide (2000 < s.bs.length)) = true then true else cs.any (fun c => decide (3000 < c.2.1))

theorem any_take_succ {α : Type} (f : α → Bool) (l : List α) (k : Nat) (hk : k < l.length) : (l.take (k + 1)).any f = ((l.take k).any f || f l[k]) := by
  rw [List.take_succ_eq_append_getElem hk]; simp only [List.any_append, List.any_cons, List.any_nil, Bool.or_false]
theorem any_of_get {α : Type} (f : α → Bool) (l : List α) (k : Nat) (hk : k < l.length) (h : f l[k] = true) : l.any f = true :=
  List.any_eq_true.2 ⟨l[k], List.getElem_mem hk, h⟩

def BoolPost (w : World) (b : Bool) (e : Ending) (w' : World) : Prop := e = .returned (.bool b) ∧ Chg (fun _ => False) w w'

set_option maxHeartbeats 1000000 in
set_option maxRecDepth 100000 in
theorem heavy_any (D : Nat → Prop) (pk pn : Int) (pA pB : Option Addr) (la ca lb cb : Nat) (A C : Option Addr) (ci cc : Nat) (ins : List Strm) (cs : List (Option Addr × Nat × Nat)) (w : World)
    (hla : la ≤ maxLen) (hlb : lb ≤ maxLen) (hil : ins.length ≤ maxLen) (hins : StrmsAt w D (.slice A ins.length ci) ins) (hbl : ∀ s ∈ ins, s.bs.length ≤ maxLen)
    (hcs : Rd w D 1 C cs.length (cs.map slv)) (hcl : cs.length ≤ 4) (hcm : ∀ c ∈ cs, c.2.1 ≤ maxLen) :
    Calls Try.prog 8 #[.agg #[.int .i64 pk, .int .i64 pn, .slice pA la ca, .slice pB lb cb], .slice A ins.length ci, .slice C cs.length cc] w (BoolPost w (heavyB la lb ins cs)) := by
  unfold maxLen at hla hlb hil hbl hcm
  by_cases h1 : 1000 < la ∨ 1000 < lb ∨ 8 < ins.length
  · have e : heavyB la lb ins cs = true := by unfold heavyB; rw [if_pos h1]
    rw [e]
    clear hins hbl hcs e
    by_cases ha : (1000 : Int) < (la : Int)
    · have ha2 : decide (1000 < la) = true := decide_eq_true (by omega)
      clear h1
      go_enter Try.func8, Try.ntmps8
      go_wp2
      go_ret
      exact ⟨rfl, (Chg.refl _ _).alloc _⟩
    · by_cases hb : (1000 : Int) < (lb : Int)
      · clear h1
        go_enter Try.func8, Try.ntmps8
        go_wp2
        go_ret
        exact ⟨rfl, (Chg.refl _ _).alloc _⟩
      · have hc : (8 : Int) < (ins.length : Int) := by omega
        clear h1
        go_enter Try.func8, Try.ntmps8
        go_wp2
        go_ret
        exact ⟨rfl, (Chg.refl _ _).alloc _⟩
  · have ha : ¬ (1000 : Int) < (la : Int) := by omega
    have hb : ¬ (1000 : Int) < (lb : Int) := by omega
    have hc : ¬ (8 : Int) < (ins.length : Int) := by omega
    have hil2 : (ins.length : Int) ≤ 8 := by omega
    have e0 : heavyB la lb ins cs = (if ins.any (fun s => decide (2000 < s.bs.length)) = true then true else cs.any (fun c => decide (3000 < c.2.1))) := by unfold heavyB; rw [if_neg h1]
    replace e0 := Lib.hid e0
    clear h1
    have hins' := hins.chg ((Chg.refl (fun _ => False) w).alloc (.cells #[.int .i64 pk, .int .i64 pn, .slice pA la ca, .slice pB lb cb] 24)) (fun _ _ _ h => h)
    have hcs' := hcs.chg ((Chg.refl (fun _ => False) w).alloc (.cells #[.int .i64 pk, .int .i64 pn, .slice pA la ca, .slice pB lb cb] 24)) (fun _ _ _ h => h)
    have hch : Chg (fun _ => False) w (w.alloc (.cells #[.int .i64 pk, .int .i64 pn, .slice pA la ca, .slice pB lb cb] 24)) := (Chg.refl _ _).alloc _
    clear hins hcs
    go_enter Try.func8, Try.ntmps8
    go_wp2
    generalize w.alloc (.cells #[.int .i64 pk, .int .i64 pn, .slice pA la ca, .slice pB lb cb] 24) = w0 at *
    go_loop [7] (fun i => ∃ k : Nat, k ≤ ins.length ∧ i = .int .i64 k ∧ (ins.take k).any (fun s => decide (2000 < s.bs.length)) = false) (fun i => ins.length - (intOf i).toNat)
    case atStart => exact ⟨0, by omega, rfl, by simp⟩
    case round =>
      obtain ⟨k, hk, rfl, hno⟩ := hrel
      by_cases hlt : k < ins.length
      · obtain ⟨z0, g2, o2, A2, c2, rfl, hg2, z1, q0, z2⟩ := strs_bs hins' hlt
        clear z0 z1 z2
        have hbk := hbl _ (List.getElem_mem hlt)
        have hlt' : (k : Int) < (ins.length : Int) := by omega
        have hk0 : (0 : Int) ≤ (k : Int) := by omega
        have hsn := any_take_succ (fun s : Strm => decide (2000 < s.bs.length)) ins k hlt
        have hyes := any_of_get (fun s : Strm => decide (2000 < s.bs.length)) ins k hlt
        rw [hno, Bool.false_or] at hsn
        generalize ins[k].bs.length = m at *
        by_cases hm : (2000 : Int) < (m : Int)
        · have hy := Lib.hid (hyes (decide_eq_true (by omega)))
          clear hsn hyes hno hins' hcs' hbl hcm
          go_wp2
          go_ret
          rw [e0.out, hy.out]
          exact ⟨rfl, hch⟩
        · rw [decide_eq_false (by omega : ¬ 2000 < m)] at hsn
          clear hyes hno hins' hcs' hbl hcm
          replace hsn := Lib.hid hsn
          go_wp2
          go_round
          case rel => exact ⟨k + 1, by omega, by go_num, hsn.out⟩
          case measure => simp [intOf]; omega
      · have hlt' : ¬ (k : Int) < (ins.length : Int) := by omega
        rw [List.take_of_length_le (by omega)] at hno
        have e1 := e0.out
        rw [hno, if_neg (by simp)] at e1
        replace e1 := Lib.hid e1
        clear hno hins' hbl e0
        go_wp2
        go_loop [8] (fun i => ∃ k : Nat, k ≤ cs.length ∧ i = .int .i64 k ∧ (cs.take k).any (fun c => decide (3000 < c.2.1)) = false) (fun i => cs.length - (intOf i).toNat)
        case atStart => exact ⟨0, by omega, rfl, by simp⟩
        case round =>
          obtain ⟨k2, hk2, rfl, hno⟩ := hrel
          by_cases hl2 : k2 < cs.length
          · obtain ⟨g2, o2, v2, rfl, hg2, z1, hv2, hc2⟩ := hcs'.at_ hl2
            simp only [List.getElem?_map, List.getElem?_eq_getElem hl2, Option.map_some, Option.some.injEq] at hv2
            have hck := hcm _ (List.getElem_mem hl2)
            have hlt' : (k2 : Int) < (cs.length : Int) := by omega
            have hk0 : (0 : Int) ≤ (k2 : Int) := by omega
            have hsn := any_take_succ (fun c : Option Addr × Nat × Nat => decide (3000 < c.2.1)) cs k2 hl2
            have hyes := any_of_get (fun c : Option Addr × Nat × Nat => decide (3000 < c.2.1)) cs k2 hl2
            rw [hno, Bool.false_or] at hsn
            rw [← hv2, slv] at hc2
            clear hv2 z1
            generalize cs[k2].2.1 = m at *
            generalize cs[k2].1 = mA at *
            generalize cs[k2].2.2 = mc at *
            by_cases hm : (3000 : Int) < (m : Int)
            · have hy := Lib.hid (hyes (decide_eq_true (by omega)))
              clear hsn hyes hno hcs' hcm
              go_wp2
              go_ret
              rw [e1.out, hy.out]
              exact ⟨rfl, hch⟩
            · rw [decide_eq_false (by omega : ¬ 3000 < m)] at hsn
              clear hyes hno hcs' hcm
              replace hsn := Lib.hid hsn
              go_wp2
              go_round
              case rel => exact ⟨k2 + 1, by omega, by go_num, hsn.out⟩
              case measure => simp [intOf]; omega
          · have hlt' : ¬ (k2 : Int) < (cs.length : Int) := by omega
            rw [List.take_of_length_le (by omega)] at hno
            replace hno := Lib.hid hno
            clear hcs' hcm
            go_wp2
            go_ret
            rw [e1.out, hno.out]
            exact ⟨rfl, hch⟩
end Go.Proofs.Ytkgmbomfkdkofaa.Count
