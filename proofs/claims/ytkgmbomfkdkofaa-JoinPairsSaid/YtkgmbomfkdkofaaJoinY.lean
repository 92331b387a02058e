/- penstockref14's Key and pairs. -/
import Derived.Test.YtkgmbomfkdkofaaQueue
import Derived.Test.YtkgmbomfkdkofaaJoinP
import Derived.BigQuiet
import Derived.Deep.QuietTactic
import Derived.Deep.RegionHeld3
import Derived.Deep.DrawnRows
import Derived.Outline
import Derived.Test.YtkgmbomfkdkofaaPutAll
import Derived.Test.YtkgmbomfkdkofaaSame
namespace Go.Proofs.Ytkgmbomfkdkofaa
open Go Go.RowKit

theorem k_some (c : UInt8) : ∀ (s : Bs) (i : Nat) (hi : i < s.length), (∀ j (hj : j < i), s[j]'(by omega) ≠ c) → s[i] = c → keyS c s = s.take i ∧ restS c s = s.drop (i + 1)
  | [], i, hi, _, _ => by simp at hi
  | x :: r, 0, hi, _, h => by
    have hx : x = c := h
    unfold keyS restS cutBy
    rw [if_pos hx]
    exact ⟨by simp, by simp⟩
  | x :: r, i + 1, hi, hj, h => by
    have hx : ¬ x = c := hj 0 (by omega)
    have ih := k_some c r i (by simp at hi; omega) (fun j hj2 => by have := hj (j + 1) (by omega); simpa using this) (by simpa using h)
    unfold keyS restS cutBy
    rw [if_neg hx]
    refine ⟨?_, ?_⟩
    · show x :: (cutBy c r).1 = _; rw [show (cutBy c r).1 = _ from ih.1]; rfl
    · show (cutBy c r).2 = _; rw [show (cutBy c r).2 = _ from ih.2]; rfl
theorem k_none (c : UInt8) : ∀ (s : Bs), (∀ j (hj : j < s.length), s[j] ≠ c) → keyS c s = s ∧ restS c s = []
  | [], _ => ⟨rfl, rfl⟩
  | x :: r, hj => by
    have hx : ¬ x = c := hj 0 (by simp)
    have ih := k_none c r (fun j hj2 => by have := hj (j + 1) (by simp; omega); simpa using this)
    unfold keyS restS cutBy
    rw [if_neg hx]
    exact ⟨by show x :: (cutBy c r).1 = _; rw [show (cutBy c r).1 = _ from ih.1], by show (cutBy c r).2 = _; rw [show (cutBy c r).2 = _ from ih.2]⟩

theorem cutBy_rest (c : UInt8) : ∀ s : Bs, (restS c s).length ≤ s.length
  | [] => Nat.le_refl _
  | x :: r => by
    have h := cutBy_rest c r
    unfold restS cutBy
    split
    · simp
    · simp only [List.length_cons]
      unfold restS at h; omega
def KeyPost (s : Bs) (c : UInt8) (w : World) (e : Ending) (w' : World) : Prop := e = .returned (.tuple #[strv (keyS c s), strv (restS c s)]) ∧ ∃ n, w' = w.drewN n

set_option maxHeartbeats 1000000 in
set_option maxRecDepth 100000 in
theorem key_any (s : Bs) (c : UInt8) (w : World) (hs : s.length ≤ 1000000) :
    Calls Try.prog 35 #[strv s, .int .u8 c.toNat] w (KeyPost s c w) := by
  have hsz : (⟨s.toArray⟩ : ByteArray).size = s.length := by simp [ByteArray.size]
  have c5 : (s.length : Int) ≤ 1000000 := by omega
  go_enter Try.func35, Try.ntmps35
  go_wp2
  go_loopw [6] (fun i wr => ∃ k : Nat, k ≤ s.length ∧ i = .int .i64 k ∧ (∀ j (hj : j < s.length), j < k → s[j] ≠ c) ∧ w = wr) (fun i _ => s.length - (intOf i).toNat)
  case atStart => exact ⟨0, Nat.zero_le _, rfl, fun j _ h => by omega, rfl⟩
  case round =>
    obtain ⟨k, hk, rfl, hno, rfl⟩ := hrel
    by_cases hlt : k < s.length
    · have hltI : (k : Int) < (s.length : Int) := by omega
      have hk0 : (0 : Int) ≤ (k : Int) := by omega
      have hkb : k < (⟨s.toArray⟩ : ByteArray).size := by omega
      have hget : (⟨s.toArray⟩ : ByteArray)[k] = s[k] := by simp [ByteArray.getElem_eq_getElem_data]
      by_cases hc : s[k] = c
      · have hb : (((⟨s.toArray⟩ : ByteArray)[k].toNat : Int) == (c.toNat : Int)) = true := by rw [hget, hc]; simp
        obtain ⟨e1, e2⟩ := k_some c s k hlt (fun j hj => hno j (by omega) hj) hc
        have x1 : (⟨s.toArray⟩ : ByteArray).extract 0 k = ⟨(keyS c s).toArray⟩ := by rw [e1]; apply ByteArray.ext; simp
        have x2 : (⟨s.toArray⟩ : ByteArray).extract (k + 1) s.length = ⟨(restS c s).toArray⟩ := by rw [e2]; apply ByteArray.ext; simp [List.take_of_length_le]
        have c1 : (k : Int) ≤ (s.length : Int) := by omega
        have c3 : (k : Int) + 1 ≤ (s.length : Int) := by omega
        have c4 : (0 : Int) ≤ (k : Int) + 1 := by omega
        obtain ⟨a, ha⟩ : ∃ a, keyS c s = a := ⟨_, rfl⟩
        obtain ⟨b, hb2⟩ : ∃ b, restS c s = b := ⟨_, rfl⟩
        rw [ha] at x1
        rw [hb2] at x2
        have hb3 : ((s[k].toNat : Int) == (c.toNat : Int)) = true := by rw [hc]; simp
        replace ha := Lib.hid ha
        replace hb2 := Lib.hid hb2
        replace hno := Lib.hid hno
        clear hget hc e1 e2
        go_wp2
        go_quiet (fail)
        go_wp2
        go_ret2
        exact ⟨by rw [ha.out, hb2.out]; rfl, _, rfl⟩
      · have hb : (((⟨s.toArray⟩ : ByteArray)[k].toNat : Int) == (c.toNat : Int)) = false := by
          rw [hget, beq_eq_false_iff_ne]
          intro h
          exact hc (UInt8.toNat_inj.1 (by omega))
        have hb3 : ((s[k].toNat : Int) == (c.toNat : Int)) = false := by rw [← hget]; exact hb
        replace hc := Lib.hid hc
        clear hget
        replace hno := Lib.hid hno
        go_wp2
        go_roundw
        case rel =>
          refine ⟨k + 1, by omega, by go_num, fun j hj h => ?_, by trivial⟩
          by_cases hjk : j = k
          · subst hjk; exact hc.out
          · exact hno.out j hj (by omega)
        case measure => simp [intOf]; omega
    · have hltI : ¬ (k : Int) < (s.length : Int) := by omega
      have hkn := k_none c s (fun j hj => hno j hj (by omega))
      replace hkn := Lib.hid hkn
      go_wp2
      go_ret2
      exact ⟨by rw [hkn.out.1, hkn.out.2]; rfl, 0, rfl⟩
end Go.Proofs.Ytkgmbomfkdkofaa
namespace Go.Proofs.Ytkgmbomfkdkofaa
open Go Go.RowKit

theorem joinS_prefix {a b : List Bs} (h : a <+: b) : (joinS a).length ≤ (joinS b).length := by
  obtain ⟨t, rfl⟩ := h
  unfold joinS
  rw [List.flatMap_append, List.length_append]
  omega
def rowsTo (f : Bs → Bs → Bs) (l m : List Bs) (i : Nat) : List Bs := (l.take i).flatMap fun x => m.map (f x)
theorem rowsTo_succ (f : Bs → Bs → Bs) (l m : List Bs) (i : Nat) (hi : i < l.length) : rowsTo f l m (i + 1) = rowsTo f l m i ++ m.map (f l[i]) := by
  unfold rowsTo
  rw [List.take_succ_eq_append_getElem hi, List.flatMap_append]
  simp
theorem rowsTo_pre (f : Bs → Bs → Bs) (l m : List Bs) (i k : Nat) (hi : i < l.length) : rowsTo f l m i ++ (m.take k).map (f l[i]) <+: l.flatMap fun x => m.map (f x) := by
  have e : (l.flatMap fun x => m.map (f x)) = rowsTo f l m (i + 1) ++ ((l.drop (i + 1)).flatMap fun x => m.map (f x)) := by
    unfold rowsTo
    rw [← List.flatMap_append, List.take_append_drop]
  rw [e, rowsTo_succ f l m i hi, List.append_assoc]
  refine (List.prefix_append_right_inj _).2 ?_
  exact List.IsPrefix.trans ((List.take_prefix k m).map (f l[i])) (List.prefix_append _ _)
theorem row_succ (f : Bs → Bs) (m : List Bs) (k : Nat) (hk : k < m.length) : (m.take (k + 1)).map f = (m.take k).map f ++ [f m[k]] := by
  rw [List.take_succ_eq_append_getElem hk, List.map_append]; rfl

set_option maxHeartbeats 1000000 in
set_option maxRecDepth 100000 in
theorem pairs_any (key : Bs) (l m : List Bs) (c : UInt8) (A C : Option Addr) (ca cc : Nat) (D : Nat → Prop) (w : World) (h1 : Rd w D 1 A l.length (strs l)) (h2 : Rd w D 1 C m.length (strs m))
    (hl : l.length ≤ 1000) (hm : m.length ≤ 1000) (hl64 : ∀ x ∈ l, x.length ≤ 64) (hm64 : ∀ x ∈ m, x.length ≤ 64) (_ : key.length ≤ 64) (hB : (joinS (l.flatMap fun x => m.map (plS c key x))).length ≤ 100000000) :
    Calls Try.prog 36 #[strv key, .slice A l.length ca, .slice C m.length cc, .int .u8 c.toNat] w fun e w' => e = .returned (strv (joinS (l.flatMap fun x => m.map (plS c key x)))) ∧ Chg (fun _ => False) w w' := by
  have hcl : ∀ (W : World), Chg (fun _ => False) w W → ∀ i (hi : i < l.length), ∃ g o, A = some ⟨g, o, none⟩ ∧ W.cell? ⟨g, o + i, none⟩ = some (strv l[i]) := fun W hW i hi => by
    obtain ⟨g, o, v, hA, _, _, hv, hc⟩ := (h1.chg hW (fun _ _ _ h => h)).at_ hi
    rw [List.getElem?_map, List.getElem?_eq_getElem hi] at hv
    simp only [Option.map_some, Option.some.injEq] at hv
    subst hv
    exact ⟨g, o, hA, hc⟩
  have hcm : ∀ (W : World), Chg (fun _ => False) w W → ∀ i (hi : i < m.length), ∃ g o, C = some ⟨g, o, none⟩ ∧ W.cell? ⟨g, o + i, none⟩ = some (strv m[i]) := fun W hW i hi => by
    obtain ⟨g, o, v, hA, _, _, hv, hc⟩ := (h2.chg hW (fun _ _ _ h => h)).at_ hi
    rw [List.getElem?_map, List.getElem?_eq_getElem hi] at hv
    simp only [Option.map_some, Option.some.injEq] at hv
    subst hv
    exact ⟨g, o, hA, hc⟩
  have hcv : (convert 22 9 (.slice (some ⟨w.heap.size, 0, none⟩) 1 1)).run Try.prog (w.alloc (.cells #[.int .u8 c.toNat] 5)) = .ok (strv [c]) (w.alloc (.cells #[.int .u8 c.toNat] 5)) := conv_rd (w.alloc (.cells #[.int .u8 c.toNat] 5)) (fun _ => True) (some ⟨w.heap.size, 0, none⟩) [c] 1 (rd_row1 w 5 (.int .u8 c.toNat) rfl)
  have hlI : (l.length : Int) ≤ 1000 := by omega
  have hmI : (m.length : Int) ≤ 1000 := by omega
  have hka := fun (s : Bs) (hs : s.length ≤ 64) (W : World) => key_any s c W (by omega)
  replace hcl := Lib.hid hcl
  replace hcm := Lib.hid hcm
  replace hka := Lib.hid hka
  clear h1 h2
  go_enter Try.func36, Try.ntmps36
  go_wp2
  have hc0 : Chg (fun _ => False) w (w.alloc (.cells #[.int .u8 c.toNat] 5)) := (Chg.refl _ _).alloc _
  generalize (w.alloc (.cells #[.int .u8 c.toNat] 5)) = w0 at *
  replace hcv := Lib.hid hcv
  go_loopw [9, 11] (fun sv i wr => ∃ n : Nat, n ≤ l.length ∧ i = .int .i64 n ∧ sv = strv (joinS (rowsTo (plS c key) l m n)) ∧ Chg (fun _ => False) w wr) (fun _ i _ => l.length - (intOf i).toNat)
  case atStart => exact ⟨0, Nat.zero_le _, rfl, rfl, hc0⟩
  case round =>
    obtain ⟨n, hn, rfl, rfl, hcw⟩ := hrel
    by_cases hlt : n < l.length
    · have hltI : (n : Int) < (l.length : Int) := by omega
      have hn0 : (0 : Int) ≤ (n : Int) := by omega
      have hsucc := rowsTo_succ (plS c key) l m n hlt
      have hx64 := hl64 _ (List.getElem_mem hlt)
      have hpre := fun k => joinS_prefix (rowsTo_pre (plS c key) l m n k hlt)
      have hcl1 := fun W hW => hcl.out W hW n hlt
      generalize l[n] = x at *
      generalize rowsTo (plS c key) l m n = r0 at *
      replace hsucc := Lib.hid hsucc
      replace hpre := Lib.hid hpre
      replace hcl1 := Lib.hid hcl1
      go_wp2
      go_loopw [9, 12] (fun sv i wr2 => ∃ k : Nat, k ≤ m.length ∧ i = .int .i64 k ∧ sv = strv (joinS (r0 ++ (m.take k).map (plS c key x))) ∧ Chg (fun _ => False) w wr2) (fun _ i _ => m.length - (intOf i).toNat)
      case atStart => exact ⟨0, Nat.zero_le _, rfl, by simp, hcw⟩
      case round =>
        clear hcw
        obtain ⟨k, hk2, rfl, rfl, hcw⟩ := hrel
        by_cases hlt2 : k < m.length
        · have hltI2 : (k : Int) < (m.length : Int) := by omega
          have hk0 : (0 : Int) ≤ (k : Int) := by omega
          have hrs := row_succ (plS c key x) m k hlt2
          have hy64 := hm64 _ (List.getElem_mem hlt2)
          have hp1 := hpre.out (k + 1)
          obtain ⟨ga, oa, rfl, hcx⟩ := hcl1.out _ hcw
          obtain ⟨gb, ob, rfl, hcy⟩ := hcm.out _ hcw k hlt2
          generalize m[k] = y at *
          rw [hrs, ← List.append_assoc, joinS_snoc] at hp1
          have hlen := hp1
          simp only [List.length_append, List.length_singleton] at hlen
          have hkx := hka.out x hx64
          have hky := hka.out y hy64
          have hrx := (cutBy_rest c x)
          have hry := (cutBy_rest c y)
          have hpl : plS c key x y = key ++ [c] ++ restS c x ++ [c] ++ restS c y := rfl
          replace hrs := Lib.hid hrs
          replace hp1 := Lib.hid hp1
          unfold KeyPost at hkx hky
          generalize keyS c x = kx at *
          generalize restS c x = rx at *
          generalize keyS c y = ky at *
          generalize restS c y = ry at *
          rw [hpl] at hlen
          simp only [List.length_append, List.length_singleton] at hlen
          obtain ⟨s0, hs0⟩ : ∃ s0, s0 = joinS (r0 ++ (m.take k).map (plS c key x)) := ⟨_, rfl⟩
          rw [← hs0] at hlen ⊢
          obtain ⟨l1, z1⟩ : ∃ l, l = s0 ++ key := ⟨_, rfl⟩
          obtain ⟨l2, z2⟩ : ∃ l, l = l1 ++ [c] := ⟨_, rfl⟩
          obtain ⟨l3, z3⟩ : ∃ l, l = l2 ++ rx := ⟨_, rfl⟩
          obtain ⟨l4, z4⟩ : ∃ l, l = l3 ++ [c] := ⟨_, rfl⟩
          obtain ⟨l5, z5⟩ : ∃ l, l = l4 ++ ry := ⟨_, rfl⟩
          obtain ⟨l6, z6⟩ : ∃ l, l = l5 ++ [10] := ⟨_, rfl⟩
          have y1 : l1.length = s0.length + key.length := by rw [z1]; simp
          have y2 : l2.length = l1.length + 1 := by rw [z2]; simp
          have y3 : l3.length = l2.length + rx.length := by rw [z3]; simp
          have y4 : l4.length = l3.length + 1 := by rw [z4]; simp
          have y5 : l5.length = l4.length + ry.length := by rw [z5]; simp
          have hcat1 : ∀ W : World, (Op.stringOp .add ⟨s0.toArray⟩ ⟨key.toArray⟩).run Try.prog W = .ok (strv l1) W := fun W => by rw [run_string_add_sum W _ _ (by simp [ByteArray.size]; omega), strv_append, z1]
          have hcat2 : ∀ W : World, (Op.stringOp .add ⟨l1.toArray⟩ ⟨[c].toArray⟩).run Try.prog W = .ok (strv l2) W := fun W => by rw [run_string_add_sum W _ _ (by simp [ByteArray.size]; omega), strv_append, z2]
          have hcat3 : ∀ W : World, (Op.stringOp .add ⟨l2.toArray⟩ ⟨rx.toArray⟩).run Try.prog W = .ok (strv l3) W := fun W => by rw [run_string_add_sum W _ _ (by simp [ByteArray.size]; omega), strv_append, z3]
          have hcat4 : ∀ W : World, (Op.stringOp .add ⟨l3.toArray⟩ ⟨[c].toArray⟩).run Try.prog W = .ok (strv l4) W := fun W => by rw [run_string_add_sum W _ _ (by simp [ByteArray.size]; omega), strv_append, z4]
          have hcat5 : ∀ W : World, (Op.stringOp .add ⟨l4.toArray⟩ ⟨ry.toArray⟩).run Try.prog W = .ok (strv l5) W := fun W => by rw [run_string_add_sum W _ _ (by simp [ByteArray.size]; omega), strv_append, z5]
          have hcat6 : ∀ W : World, (Op.stringOp .add ⟨l5.toArray⟩ ⟨#[10]⟩).run Try.prog W = .ok (strv l6) W := fun W => by
            rw [show (⟨#[10]⟩ : ByteArray) = ⟨([10] : Bs).toArray⟩ from rfl, run_string_add_sum W _ _ (by simp [ByteArray.size]; omega), strv_append, z6]
          have hl6 : l6 = joinS (r0 ++ (m.take k).map (plS c key x)) ++ plS c key x y ++ [10] := by rw [z6, z5, z4, z3, z2, z1, hpl, hs0]; simp only [List.append_assoc]
          replace hl6 := Lib.hid hl6
          clear z1 z2 z3 z4 z5 z6 y1 y2 y3 y4 y5 hpl hlen
          replace hs0 := Lib.hid hs0
          replace hkx := Lib.hid hkx
          replace hky := Lib.hid hky
          go_wp2_with (first
            | (go_at_call 35
               with_reducible refine Calls.mono (hkx.out _) ?_
               rintro e1 w1 ⟨rfl, n1, rfl⟩)
            | (go_at_call 35
               with_reducible refine Calls.mono (hky.out _) ?_
               rintro e2 w2 ⟨rfl, n2, rfl⟩))
          go_roundw
          case rel =>
            refine ⟨k + 1, by omega, by go_num, ?_, hcw.drewN (n1 + n2)⟩
            rw [hl6.out, hrs.out, ← List.append_assoc, joinS_snoc]
          case measure => simp [intOf]; omega
        · have hkm : k = m.length := by omega
          have hltI2 : ¬ (k : Int) < (m.length : Int) := by omega
          have hfin : r0 ++ (m.take k).map (plS c key x) = rowsTo (plS c key) l m (n + 1) := by rw [hsucc.out, hkm, List.take_length]
          replace hfin := Lib.hid hfin
          go_wp2
          go_roundw
          case rel => exact ⟨n + 1, by omega, by go_num, by rw [hfin.out], hcw⟩
          case measure => simp [intOf]; omega
    · have hnl : n = l.length := by omega
      have hltI : ¬ (n : Int) < (l.length : Int) := by omega
      have hfin : rowsTo (plS c key) l m l.length = l.flatMap fun x => m.map (plS c key x) := by unfold rowsTo; rw [List.take_length]
      replace hfin := Lib.hid hfin
      subst hnl
      go_wp2
      go_ret
      exact ⟨by rw [← hfin.out]; rfl, hcw⟩
end Go.Proofs.Ytkgmbomfkdkofaa
