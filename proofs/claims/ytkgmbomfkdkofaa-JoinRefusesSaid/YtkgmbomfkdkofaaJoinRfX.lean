/- penstockref14's read. -/
import Derived.Test.YtkgmbomfkdkofaaQueue
import Derived.Test.YtkgmbomfkdkofaaJoinP
import Derived.BigQuiet
import Derived.Deep.QuietTactic
import Derived.Deep.RegionHeld3
import Derived.Deep.DrawnRows
import Derived.Outline
import Derived.Test.YtkgmbomfkdkofaaPutAll
import Derived.Test.YtkgmbomfkdkofaaSame
import Derived.Test.YtkgmbomfkdkofaaRef4
/- penstockref14's Key and pairs. -/
namespace Go.Proofs.Ytkgmbomfkdkofaa
open Go Go.RowKit

theorem k_some (c : UInt8) : ∀ (s : Bs) (i : Nat) (hi : i < s.length), (∀ j (hj : j < i), s[j]'(by omega) ≠ c) → s[i] = c → keyS c s = s.take i ∧ restS c s = s.drop (i + 1)
  | [], i, hi, _, _ => by simp at hi
  | x :: r, 0, hi, _, h => by
    have hx : x = c := h
    unfold keyS restS cutBy
    rw [if_pos hx]
    exact ⟨by simp, by simp⟩
  | x :: r, i + 1, hi, hj, h => by
    have hx : ¬ x = c := hj 0 (by omega)
    have ih := k_some c r i (by simp at hi; omega) (fun j hj2 => by have := hj (j + 1) (by omega); simpa using this) (by simpa using h)
    unfold keyS restS cutBy
    rw [if_neg hx]
    refine ⟨?_, ?_⟩
    · show x :: (cutBy c r).1 = _; rw [show (cutBy c r).1 = _ from ih.1]; rfl
    · show (cutBy c r).2 = _; rw [show (cutBy c r).2 = _ from ih.2]; rfl
theorem k_none (c : UInt8) : ∀ (s : Bs), (∀ j (hj : j < s.length), s[j] ≠ c) → keyS c s = s ∧ restS c s = []
  | [], _ => ⟨rfl, rfl⟩
  | x :: r, hj => by
    have hx : ¬ x = c := hj 0 (by simp)
    have ih := k_none c r (fun j hj2 => by have := hj (j + 1) (by simp; omega); simpa using this)
    unfold keyS restS cutBy
    rw [if_neg hx]
    exact ⟨by show x :: (cutBy c r).1 = _; rw [show (cutBy c r).1 = _ from ih.1], by show (cutBy c r).2 = _; rw [show (cutBy c r).2 = _ from ih.2]⟩

theorem cutBy_rest (c : UInt8) : ∀ s : Bs, (restS c s).length ≤ s.length
  | [] => Nat.le_refl _
  | x :: r => by
    have h := cutBy_rest c r
    unfold restS cutBy
    split
    · simp
    · simp only [List.length_cons]
      unfold restS at h; omega
def KeyPost (s : Bs) (c : UInt8) (w : World) (e : Ending) (w' : World) : Prop := e = .returned (.tuple #[strv (keyS c s), strv (restS c s)]) ∧ ∃ n, w' = w.drewN n

set_option maxHeartbeats 1000000 in
set_option maxRecDepth 100000 in
theorem key_any (s : Bs) (c : UInt8) (w : World) (hs : s.length ≤ 1000000) :
    Calls Try.prog 35 #[strv s, .int .u8 c.toNat] w (KeyPost s c w) := by
  have hsz : (⟨s.toArray⟩ : ByteArray).size = s.length := by simp [ByteArray.size]
  have c5 : (s.length : Int) ≤ 1000000 := by omega
  go_enter Try.func35, Try.ntmps35
  go_wp2
  go_loopw [6] (fun i wr => ∃ k : Nat, k ≤ s.length ∧ i = .int .i64 k ∧ (∀ j (hj : j < s.length), j < k → s[j] ≠ c) ∧ w = wr) (fun i _ => s.length - (intOf i).toNat)
  case atStart => exact ⟨0, Nat.zero_le _, rfl, fun j _ h => by omega, rfl⟩
  case round =>
    obtain ⟨k, hk, rfl, hno, rfl⟩ := hrel
    by_cases hlt : k < s.length
    · have hltI : (k : Int) < (s.length : Int) := by omega
      have hk0 : (0 : Int) ≤ (k : Int) := by omega
      have hkb : k < (⟨s.toArray⟩ : ByteArray).size := by omega
      have hget : (⟨s.toArray⟩ : ByteArray)[k] = s[k] := by simp [ByteArray.getElem_eq_getElem_data]
      by_cases hc : s[k] = c
      · have hb : (((⟨s.toArray⟩ : ByteArray)[k].toNat : Int) == (c.toNat : Int)) = true := by rw [hget, hc]; simp
        obtain ⟨e1, e2⟩ := k_some c s k hlt (fun j hj => hno j (by omega) hj) hc
        have x1 : (⟨s.toArray⟩ : ByteArray).extract 0 k = ⟨(keyS c s).toArray⟩ := by rw [e1]; apply ByteArray.ext; simp
        have x2 : (⟨s.toArray⟩ : ByteArray).extract (k + 1) s.length = ⟨(restS c s).toArray⟩ := by rw [e2]; apply ByteArray.ext; simp [List.take_of_length_le]
        have c1 : (k : Int) ≤ (s.length : Int) := by omega
        have c3 : (k : Int) + 1 ≤ (s.length : Int) := by omega
        have c4 : (0 : Int) ≤ (k : Int) + 1 := by omega
        obtain ⟨a, ha⟩ : ∃ a, keyS c s = a := ⟨_, rfl⟩
        obtain ⟨b, hb2⟩ : ∃ b, restS c s = b := ⟨_, rfl⟩
        rw [ha] at x1
        rw [hb2] at x2
        have hb3 : ((s[k].toNat : Int) == (c.toNat : Int)) = true := by rw [hc]; simp
        replace ha := Lib.hid ha
        replace hb2 := Lib.hid hb2
        replace hno := Lib.hid hno
        clear hget hc e1 e2
        go_wp2
        go_quiet (fail)
        go_wp2
        go_ret2
        exact ⟨by rw [ha.out, hb2.out]; rfl, _, rfl⟩
      · have hb : (((⟨s.toArray⟩ : ByteArray)[k].toNat : Int) == (c.toNat : Int)) = false := by
          rw [hget, beq_eq_false_iff_ne]
          intro h
          exact hc (UInt8.toNat_inj.1 (by omega))
        have hb3 : ((s[k].toNat : Int) == (c.toNat : Int)) = false := by rw [← hget]; exact hb
        replace hc := Lib.hid hc
        clear hget
        replace hno := Lib.hid hno
        go_wp2
        go_roundw
        case rel =>
          refine ⟨k + 1, by omega, by go_num, fun j hj h => ?_, by trivial⟩
          by_cases hjk : j = k
          · subst hjk; exact hc.out
          · exact hno.out j hj (by omega)
        case measure => simp [intOf]; omega
    · have hltI : ¬ (k : Int) < (s.length : Int) := by omega
      have hkn := k_none c s (fun j hj => hno j hj (by omega))
      replace hkn := Lib.hid hkn
      go_wp2
      go_ret2
      exact ⟨by rw [hkn.out.1, hkn.out.2]; rfl, 0, rfl⟩
end Go.Proofs.Ytkgmbomfkdkofaa
namespace Go.Proofs.Ytkgmbomfkdkofaa
open Go Go.RowKit

theorem joinS_prefix {a b : List Bs} (h : a <+: b) : (joinS a).length ≤ (joinS b).length := by
  obtain ⟨t, rfl⟩ := h
  unfold joinS
  rw [List.flatMap_append, List.length_append]
  omega
def rowsTo (f : Bs → Bs → Bs) (l m : List Bs) (i : Nat) : List Bs := (l.take i).flatMap fun x => m.map (f x)
theorem rowsTo_succ (f : Bs → Bs → Bs) (l m : List Bs) (i : Nat) (hi : i < l.length) : rowsTo f l m (i + 1) = rowsTo f l m i ++ m.map (f l[i]) := by
  unfold rowsTo
  rw [List.take_succ_eq_append_getElem hi, List.flatMap_append]
  simp
theorem rowsTo_pre (f : Bs → Bs → Bs) (l m : List Bs) (i k : Nat) (hi : i < l.length) : rowsTo f l m i ++ (m.take k).map (f l[i]) <+: l.flatMap fun x => m.map (f x) := by
  have e : (l.flatMap fun x => m.map (f x)) = rowsTo f l m (i + 1) ++ ((l.drop (i + 1)).flatMap fun x => m.map (f x)) := by
    unfold rowsTo
    rw [← List.flatMap_append, List.take_append_drop]
  rw [e, rowsTo_succ f l m i hi, List.append_assoc]
  refine (List.prefix_append_right_inj _).2 ?_
  exact List.IsPrefix.trans ((List.take_prefix k m).map (f l[i])) (List.prefix_append _ _)
theorem row_succ (f : Bs → Bs) (m : List Bs) (k : Nat) (hk : k < m.length) : (m.take (k + 1)).map f = (m.take k).map f ++ [f m[k]] := by
  rw [List.take_succ_eq_append_getElem hk, List.map_append]; rfl

set_option maxHeartbeats 1000000 in
set_option maxRecDepth 100000 in
theorem pairs_any (key : Bs) (l m : List Bs) (c : UInt8) (A C : Option Addr) (ca cc : Nat) (D : Nat → Prop) (w : World) (h1 : Rd w D 1 A l.length (strs l)) (h2 : Rd w D 1 C m.length (strs m))
    (hl : l.length ≤ 1000) (hm : m.length ≤ 1000) (hl64 : ∀ x ∈ l, x.length ≤ 64) (hm64 : ∀ x ∈ m, x.length ≤ 64) (_ : key.length ≤ 64) (hB : (joinS (l.flatMap fun x => m.map (plS c key x))).length ≤ 100000000) :
    Calls Try.prog 36 #[strv key, .slice A l.length ca, .slice C m.length cc, .int .u8 c.toNat] w fun e w' => e = .returned (strv (joinS (l.flatMap fun x => m.map (plS c key x)))) ∧ Chg (fun _ => False) w w' := by
  have hcl : ∀ (W : World), Chg (fun _ => False) w W → ∀ i (hi : i < l.length), ∃ g o, A = some ⟨g, o, none⟩ ∧ W.cell? ⟨g, o + i, none⟩ = some (strv l[i]) := fun W hW i hi => by
    obtain ⟨g, o, v, hA, _, _, hv, hc⟩ := (h1.chg hW (fun _ _ _ h => h)).at_ hi
    rw [List.getElem?_map, List.getElem?_eq_getElem hi] at hv
    simp only [Option.map_some, Option.some.injEq] at hv
    subst hv
    exact ⟨g, o, hA, hc⟩
  have hcm : ∀ (W : World), Chg (fun _ => False) w W → ∀ i (hi : i < m.length), ∃ g o, C = some ⟨g, o, none⟩ ∧ W.cell? ⟨g, o + i, none⟩ = some (strv m[i]) := fun W hW i hi => by
    obtain ⟨g, o, v, hA, _, _, hv, hc⟩ := (h2.chg hW (fun _ _ _ h => h)).at_ hi
    rw [List.getElem?_map, List.getElem?_eq_getElem hi] at hv
    simp only [Option.map_some, Option.some.injEq] at hv
    subst hv
    exact ⟨g, o, hA, hc⟩
  have hcv : (convert 22 9 (.slice (some ⟨w.heap.size, 0, none⟩) 1 1)).run Try.prog (w.alloc (.cells #[.int .u8 c.toNat] 5)) = .ok (strv [c]) (w.alloc (.cells #[.int .u8 c.toNat] 5)) := conv_rd (w.alloc (.cells #[.int .u8 c.toNat] 5)) (fun _ => True) (some ⟨w.heap.size, 0, none⟩) [c] 1 (rd_row1 w 5 (.int .u8 c.toNat) rfl)
  have hlI : (l.length : Int) ≤ 1000 := by omega
  have hmI : (m.length : Int) ≤ 1000 := by omega
  have hka := fun (s : Bs) (hs : s.length ≤ 64) (W : World) => key_any s c W (by omega)
  replace hcl := Lib.hid hcl
  replace hcm := Lib.hid hcm
  replace hka := Lib.hid hka
  clear h1 h2
  go_enter Try.func36, Try.ntmps36
  go_wp2
  have hc0 : Chg (fun _ => False) w (w.alloc (.cells #[.int .u8 c.toNat] 5)) := (Chg.refl _ _).alloc _
  generalize (w.alloc (.cells #[.int .u8 c.toNat] 5)) = w0 at *
  replace hcv := Lib.hid hcv
  go_loopw [9, 11] (fun sv i wr => ∃ n : Nat, n ≤ l.length ∧ i = .int .i64 n ∧ sv = strv (joinS (rowsTo (plS c key) l m n)) ∧ Chg (fun _ => False) w wr) (fun _ i _ => l.length - (intOf i).toNat)
  case atStart => exact ⟨0, Nat.zero_le _, rfl, rfl, hc0⟩
  case round =>
    obtain ⟨n, hn, rfl, rfl, hcw⟩ := hrel
    by_cases hlt : n < l.length
    · have hltI : (n : Int) < (l.length : Int) := by omega
      have hn0 : (0 : Int) ≤ (n : Int) := by omega
      have hsucc := rowsTo_succ (plS c key) l m n hlt
      have hx64 := hl64 _ (List.getElem_mem hlt)
      have hpre := fun k => joinS_prefix (rowsTo_pre (plS c key) l m n k hlt)
      have hcl1 := fun W hW => hcl.out W hW n hlt
      generalize l[n] = x at *
      generalize rowsTo (plS c key) l m n = r0 at *
      replace hsucc := Lib.hid hsucc
      replace hpre := Lib.hid hpre
      replace hcl1 := Lib.hid hcl1
      go_wp2
      go_loopw [9, 12] (fun sv i wr2 => ∃ k : Nat, k ≤ m.length ∧ i = .int .i64 k ∧ sv = strv (joinS (r0 ++ (m.take k).map (plS c key x))) ∧ Chg (fun _ => False) w wr2) (fun _ i _ => m.length - (intOf i).toNat)
      case atStart => exact ⟨0, Nat.zero_le _, rfl, by simp, hcw⟩
      case round =>
        clear hcw
        obtain ⟨k, hk2, rfl, rfl, hcw⟩ := hrel
        by_cases hlt2 : k < m.length
        · have hltI2 : (k : Int) < (m.length : Int) := by omega
          have hk0 : (0 : Int) ≤ (k : Int) := by omega
          have hrs := row_succ (plS c key x) m k hlt2
          have hy64 := hm64 _ (List.getElem_mem hlt2)
          have hp1 := hpre.out (k + 1)
          obtain ⟨ga, oa, rfl, hcx⟩ := hcl1.out _ hcw
          obtain ⟨gb, ob, rfl, hcy⟩ := hcm.out _ hcw k hlt2
          generalize m[k] = y at *
          rw [hrs, ← List.append_assoc, joinS_snoc] at hp1
          have hlen := hp1
          simp only [List.length_append, List.length_singleton] at hlen
          have hkx := hka.out x hx64
          have hky := hka.out y hy64
          have hrx := (cutBy_rest c x)
          have hry := (cutBy_rest c y)
          have hpl : plS c key x y = key ++ [c] ++ restS c x ++ [c] ++ restS c y := rfl
          replace hrs := Lib.hid hrs
          replace hp1 := Lib.hid hp1
          unfold KeyPost at hkx hky
          generalize keyS c x = kx at *
          generalize restS c x = rx at *
          generalize keyS c y = ky at *
          generalize restS c y = ry at *
          rw [hpl] at hlen
          simp only [List.length_append, List.length_singleton] at hlen
          obtain ⟨s0, hs0⟩ : ∃ s0, s0 = joinS (r0 ++ (m.take k).map (plS c key x)) := ⟨_, rfl⟩
          rw [← hs0] at hlen ⊢
          obtain ⟨l1, z1⟩ : ∃ l, l = s0 ++ key := ⟨_, rfl⟩
          obtain ⟨l2, z2⟩ : ∃ l, l = l1 ++ [c] := ⟨_, rfl⟩
          obtain ⟨l3, z3⟩ : ∃ l, l = l2 ++ rx := ⟨_, rfl⟩
          obtain ⟨l4, z4⟩ : ∃ l, l = l3 ++ [c] := ⟨_, rfl⟩
          obtain ⟨l5, z5⟩ : ∃ l, l = l4 ++ ry := ⟨_, rfl⟩
          obtain ⟨l6, z6⟩ : ∃ l, l = l5 ++ [10] := ⟨_, rfl⟩
          have y1 : l1.length = s0.length + key.length := by rw [z1]; simp
          have y2 : l2.length = l1.length + 1 := by rw [z2]; simp
          have y3 : l3.length = l2.length + rx.length := by rw [z3]; simp
          have y4 : l4.length = l3.length + 1 := by rw [z4]; simp
          have y5 : l5.length = l4.length + ry.length := by rw [z5]; simp
          have hcat1 : ∀ W : World, (Op.stringOp .add ⟨s0.toArray⟩ ⟨key.toArray⟩).run Try.prog W = .ok (strv l1) W := fun W => by rw [run_string_add_sum W _ _ (by simp [ByteArray.size]; omega), strv_append, z1]
          have hcat2 : ∀ W : World, (Op.stringOp .add ⟨l1.toArray⟩ ⟨[c].toArray⟩).run Try.prog W = .ok (strv l2) W := fun W => by rw [run_string_add_sum W _ _ (by simp [ByteArray.size]; omega), strv_append, z2]
          have hcat3 : ∀ W : World, (Op.stringOp .add ⟨l2.toArray⟩ ⟨rx.toArray⟩).run Try.prog W = .ok (strv l3) W := fun W => by rw [run_string_add_sum W _ _ (by simp [ByteArray.size]; omega), strv_append, z3]
          have hcat4 : ∀ W : World, (Op.stringOp .add ⟨l3.toArray⟩ ⟨[c].toArray⟩).run Try.prog W = .ok (strv l4) W := fun W => by rw [run_string_add_sum W _ _ (by simp [ByteArray.size]; omega), strv_append, z4]
          have hcat5 : ∀ W : World, (Op.stringOp .add ⟨l4.toArray⟩ ⟨ry.toArray⟩).run Try.prog W = .ok (strv l5) W := fun W => by rw [run_string_add_sum W _ _ (by simp [ByteArray.size]; omega), strv_append, z5]
          have hcat6 : ∀ W : World, (Op.stringOp .add ⟨l5.toArray⟩ ⟨#[10]⟩).run Try.prog W = .ok (strv l6) W := fun W => by
            rw [show (⟨#[10]⟩ : ByteArray) = ⟨([10] : Bs).toArray⟩ from rfl, run_string_add_sum W _ _ (by simp [ByteArray.size]; omega), strv_append, z6]
          have hl6 : l6 = joinS (r0 ++ (m.take k).map (plS c key x)) ++ plS c key x y ++ [10] := by rw [z6, z5, z4, z3, z2, z1, hpl, hs0]; simp only [List.append_assoc]
          replace hl6 := Lib.hid hl6
          clear z1 z2 z3 z4 z5 z6 y1 y2 y3 y4 y5 hpl hlen
          replace hs0 := Lib.hid hs0
          replace hkx := Lib.hid hkx
          replace hky := Lib.hid hky
          go_wp2_with (first
            | (go_at_call 35
               with_reducible refine Calls.mono (hkx.out _) ?_
               rintro e1 w1 ⟨rfl, n1, rfl⟩)
            | (go_at_call 35
               with_reducible refine Calls.mono (hky.out _) ?_
               rintro e2 w2 ⟨rfl, n2, rfl⟩))
          go_roundw
          case rel =>
            refine ⟨k + 1, by omega, by go_num, ?_, hcw.drewN (n1 + n2)⟩
            rw [hl6.out, hrs.out, ← List.append_assoc, joinS_snoc]
          case measure => simp [intOf]; omega
        · have hkm : k = m.length := by omega
          have hltI2 : ¬ (k : Int) < (m.length : Int) := by omega
          have hfin : r0 ++ (m.take k).map (plS c key x) = rowsTo (plS c key) l m (n + 1) := by rw [hsucc.out, hkm, List.take_length]
          replace hfin := Lib.hid hfin
          go_wp2
          go_roundw
          case rel => exact ⟨n + 1, by omega, by go_num, by rw [hfin.out], hcw⟩
          case measure => simp [intOf]; omega
    · have hnl : n = l.length := by omega
      have hltI : ¬ (n : Int) < (l.length : Int) := by omega
      have hfin : rowsTo (plS c key) l m l.length = l.flatMap fun x => m.map (plS c key x) := by unfold rowsTo; rw [List.take_length]
      replace hfin := Lib.hid hfin
      subst hnl
      go_wp2
      go_ret
      exact ⟨by rw [← hfin.out]; rfl, hcw⟩
end Go.Proofs.Ytkgmbomfkdkofaa

/- penstockref14's read. -/
namespace Go.Proofs.Ytkgmbomfkdkofaa
open Go Go.RowKit

theorem info_group : (Try.prog.info? 101).map (·.size) = some 6 := by kernel_rfl

/-- What reading a group answers. -/
structure GAns (r : RdL) (G : GR) (no wh : Bool) (x1 x2 x3 : Int) : Prop where
  no_ : no = true ↔ G.err = 0 ∧ G.what = 2
  wh_ : wh = true ↔ G.err = 0 ∧ G.what = 0
  bad : G.err ≠ 0 → x1 = G.err ∧ x2 = -1 ∧ x3 = 0
  rest : G.err = 0 → G.what ≠ 0 → x1 = r.code ∧ x2 = r.stage ∧ x3 = r.id

def ReadPost (w : World) (r : RdL) (G : GR) (e : Ending) (w' : World) : Prop :=
  ∃ v no wh x1 x2 x3, e = .returned (.agg #[v, .bool no, .bool wh, .int .i64 x1, .int .i64 x2, .int .i64 x3]) ∧ w'.ownsRow w.heap.size 9 1 v G.ls.length (strs G.ls) ∧ Below w.heap.size w w' ∧ GAns r G no wh x1 x2 x3

def ReadRel (W : World) (r : RdL) (c : UInt8) (N at_ : Nat) (G : GR) (rc : Array Value) (g : Nat) (i : Value) (wr : World) : Prop :=
  ∃ (ls : List Bs) (key : Bs) (v : Value), at_ + ls.length ≤ r.lines.length ∧ i = .int .i64 ((at_ + ls.length : Nat) : Int) ∧ jgo c N r.all key ls (r.lines.drop (at_ + ls.length)) = G ∧ (ls ≠ [] → ∃ h : at_ < r.lines.length, key = keyS c r.lines[at_]) ∧ ls.length ≤ N ∧
    g + 3 ≤ wr.heap.size ∧ Blk wr g 97 rc ∧ Blk wr (g + 1) 101 #[.slice none 0 0, .bool false, .bool false, .int .i64 0, .int .i64 0, .int .i64 0] ∧ Blk wr (g + 1 + 1) 101 #[v, .bool false, .bool false, .int .i64 0, .int .i64 0, .int .i64 0] ∧
    wr.ownsRow (g + 3) 9 1 v ls.length (strs ls) ∧ Below g W wr

set_option maxHeartbeats 4000000 in
set_option maxRecDepth 100000 in
theorem read_any (D : Nat → Prop) (r : RdL) (c : UInt8) (N at_ : Nat) (A : Option Addr) (ca : Nat) (w : World) (h : Rd w D 1 A r.lines.length (strs r.lines)) (hN : 1 ≤ N) (hN2 : N ≤ 100) (hat : at_ ≤ r.lines.length) (hl : r.lines.length ≤ 10000) (h64 : ∀ l ∈ r.lines, l.length ≤ 64) :
    Calls Try.prog 33 #[.agg #[.slice A r.lines.length ca, .bool r.all, .int .i64 r.code, .int .i64 r.stage, .int .i64 r.id], .int .i64 at_, .int .i64 N, .int .u8 c.toNat] w (ReadPost w r (jgo c N r.all [] [] (r.lines.drop at_))) := by
  obtain ⟨i0, hi0, hz0, hz1, hz2⟩ := info_parts info_string
  generalize hG : jgo c N r.all [] [] (r.lines.drop at_) = G
  generalize hg : w.heap.size = g
  have hst : Blk (w.alloc (.cells #[.slice A r.lines.length ca, .bool r.all, .int .i64 r.code, .int .i64 r.stage, .int .i64 r.id] 97)) g 97 #[.slice A r.lines.length ca, .bool r.all, .int .i64 r.code, .int .i64 r.stage, .int .i64 r.id] := by rw [← hg]; exact Blk.new _ _ _
  have hlb := Below.refl g w
  replace hG := Lib.hid hG
  go_enter Try.func33, Try.ntmps33
  go_wp2
  go_loopw [10] (ReadRel w r c N at_ G #[.slice A r.lines.length ca, .bool r.all, .int .i64 r.code, .int .i64 r.stage, .int .i64 r.id] g) (fun i _ => r.lines.length - (intOf i).toNat)
  case atStart =>
    have hz : (w.alloc (.cells #[.slice A r.lines.length ca, .bool r.all, .int .i64 r.code, .int .i64 r.stage, .int .i64 r.id] 97)).heap.size = g + 1 := by simp [hg]
    have hz2 : ((w.alloc (.cells #[.slice A r.lines.length ca, .bool r.all, .int .i64 r.code, .int .i64 r.stage, .int .i64 r.id] 97)).alloc (.cells #[.slice none 0 0, .bool false, .bool false, .int .i64 0, .int .i64 0, .int .i64 0] 101)).heap.size = g + 2 := by simp [hg]
    refine ⟨[], [], .slice none 0 0, by simpa using hat, by simp, by simpa using hG.out, fun h => absurd rfl h, Nat.zero_le _, by simp; omega, (hst.alloc _).alloc _, ?_, ?_, World.ownsRow_nil _ _ _ _, ((hlb.alloc (by omega) _).alloc (by simp; omega) _).alloc (by simp; omega) _⟩
    · have := Blk.new (w.alloc (.cells #[.slice A r.lines.length ca, .bool r.all, .int .i64 r.code, .int .i64 r.stage, .int .i64 r.id] 97)) 101 #[.slice none 0 0, .bool false, .bool false, .int .i64 0, .int .i64 0, .int .i64 0]
      rw [hz] at this
      exact this.alloc _
    · have := Blk.new ((w.alloc (.cells #[.slice A r.lines.length ca, .bool r.all, .int .i64 r.code, .int .i64 r.stage, .int .i64 r.id] 97)).alloc (.cells #[.slice none 0 0, .bool false, .bool false, .int .i64 0, .int .i64 0, .int .i64 0] 101)) 101 #[.slice none 0 0, .bool false, .bool false, .int .i64 0, .int .i64 0, .int .i64 0]
      rw [hz2] at this
      exact this
  case round =>
    obtain ⟨ls, key, vl, hle, rfl, hgo, hkey, hlN, hg3, hb0, hb1, hb2, hown, hbel⟩ := hrel
    clear hst hlb
    have hcell : ∀ k (hk : k < r.lines.length), ∃ b' off, A = some ⟨b', off, none⟩ ∧ b' < g ∧ ∀ W, Chg (fun _ => False) wr W → W.cell? ⟨b', off + k, none⟩ = some (strv r.lines[k]) := fun k hk => by
      obtain ⟨b', off, v, hA, hb, _, hv, hc⟩ := h.at_ hk
      rw [List.getElem?_map, List.getElem?_eq_getElem hk] at hv
      simp only [Option.map_some, Option.some.injEq] at hv
      subst hv
      exact ⟨b', off, hA, by omega, fun W hW => (hW.cell (p := ⟨b', off + k, none⟩) (by have := hbel.size; show b' < wr.heap.size; omega) (fun h => h)).trans ((hbel.cell (p := ⟨b', off + k, none⟩) (by show b' < g; omega)).trans hc)⟩
    obtain ⟨A1, c1, rfl, _⟩ := own_rd hown
    have hF : ∀ W, Chg (fun _ => False) wr W → (W.cell? ⟨g, 0, none⟩ = some (.slice A r.lines.length ca) ∧ W.cell? ⟨g, 1, none⟩ = some (.bool r.all) ∧ W.cell? ⟨g, 2, none⟩ = some (.int .i64 r.code) ∧ W.cell? ⟨g, 3, none⟩ = some (.int .i64 r.stage) ∧ W.cell? ⟨g, 4, none⟩ = some (.int .i64 r.id)) ∧
        (W.cell? ⟨g + 1 + 1, 0, none⟩ = some (.slice A1 ls.length c1) ∧ W.cell? ⟨g + 1 + 1, 1, none⟩ = some (.bool false) ∧ W.cell? ⟨g + 1 + 1, 2, none⟩ = some (.bool false) ∧ W.cell? ⟨g + 1 + 1, 3, none⟩ = some (.int .i64 0) ∧ W.cell? ⟨g + 1 + 1, 4, none⟩ = some (.int .i64 0) ∧ W.cell? ⟨g + 1 + 1, 5, none⟩ = some (.int .i64 0)) ∧
        (∀ i, W.frozen? ⟨g + 1 + 1, i, none⟩ = false) ∧ (∀ i, W.frozen? ⟨g + 1, i, none⟩ = false) := fun W hW => by
      have h0 := hb0.chg hW (fun h => h)
      have h1 := hb1.chg hW (fun h => h)
      have h2 := hb2.chg hW (fun h => h)
      exact ⟨⟨(h0.cell _).trans rfl, (h0.cell _).trans rfl, (h0.cell _).trans rfl, (h0.cell _).trans rfl, (h0.cell _).trans rfl⟩, ⟨(h2.cell _).trans rfl, (h2.cell _).trans rfl, (h2.cell _).trans rfl, (h2.cell _).trans rfl, (h2.cell _).trans rfl, (h2.cell _).trans rfl⟩, fun i => h2.frozen i, fun i => h1.frozen i⟩
    have hfin : ∀ (W5 : World) (no wh : Bool) (x1 x2 x3 : Int) (g' : GR), Chg (fun x => x = g + 1 + 1) wr W5 → g' = G → g'.ls = ls → GAns r g' no wh x1 x2 x3 → ReadPost w r G (.returned (.agg #[.slice A1 ls.length c1, .bool no, .bool wh, .int .i64 x1, .int .i64 x2, .int .i64 x3])) (W5.setRow (g + 1) #[.slice A1 ls.length c1, .bool no, .bool wh, .int .i64 x1, .int .i64 x2, .int .i64 x3]) := fun W5 no wh x1 x2 x3 g' hc hgg hls hans => by
      subst hgg
      refine ⟨_, no, wh, x1, x2, x3, rfl, ?_, ?_, hans⟩
      · rw [hg, hls]
        exact own_chg_row (by omega) (ownsRow_chg hown hc (fun k hk e => by have := (hown.lt k hk).1; omega)) (by omega)
      · rw [hg]
        exact below_setRow (hbel.trans (hc.below (B := g) (by omega) (fun k h => by have h2 : k = g + 1 + 1 := h; omega))) (by omega) _
    obtain ⟨n, hn⟩ : ∃ n, n = at_ + ls.length := ⟨_, rfl⟩
    rw [← hn] at hle hgo ⊢
    have hnI : (n : Int) ≤ 10000 := by omega
    have hn0 : (0 : Int) ≤ (n : Int) := by omega
    by_cases hlt : n < r.lines.length
    · have hltI : (n : Int) < (r.lines.length : Int) := by omega
      have hdrop : r.lines.drop n = r.lines[n] :: r.lines.drop (n + 1) := List.drop_eq_getElem_cons hlt
      rw [hdrop, jgo] at hgo
      obtain ⟨b1, o1, rfl, hb1g, hx⟩ := hcell n hlt
      have hx64 := h64 _ (List.getElem_mem hlt)
      by_cases hls : ls = []
      · rw [if_pos hls] at hgo
        have hn2 : n = at_ := by rw [hn, hls]; simp
        have hatn : at_ < r.lines.length := by omega
        have hgt : ¬ (at_ : Int) < (n : Int) := by omega
        have hx0 := hx wr (Chg.refl _ _)
        have hY : r.lines[at_] = r.lines[n] := by congr 1; exact hn2.symm
        obtain ⟨⟨z0, z1, z2, z3, z4⟩, ⟨u0, u1, u2, u3, u4, u5⟩, uf, rf⟩ := hF wr (Chg.refl _ _)
        generalize hX : r.lines[n] = x at *
        replace hX := Lib.hid hX
        replace hY := Lib.hid hY
        have hll : ls.length = 0 := by rw [hls]; rfl
        have b3 : ((ls.length : Int) == (N : Int)) = false := by rw [beq_eq_false_iff_ne]; omega
        have hlN2 : ls.length < N := by omega
        have hnl : [x] = ls ++ [x] := by rw [hls]; rfl
        rw [hnl] at hgo
        replace hgo := Lib.hid hgo
        replace hls := Lib.hid hls
        replace hll := Lib.hid hll
        replace hnl := Lib.hid hnl
        replace hn2 := Lib.hid hn2
        replace hn := Lib.hid hn
        replace hdrop := Lib.hid hdrop
        have lA : (wr.alloc (.cells #[strv x] 9)).cell? ⟨g + 1 + 1, 0, none⟩ = some (.slice A1 ls.length c1) := ((hb2.alloc _).cell 0).trans rfl
        have hug : some (g + 1 + 1) ≠ (Value.slice A1 ls.length c1).ownBlock := fun e => by have := (hown.lt (g + 1 + 1) e.symm).1; omega
        clear hF hfin hx hX
        go_wp2
        go_region_law ((refine step_append_rd _ (by rfl) (.tmp 67) (.tmp 73) 51 (by rfl) (g + 3) 9 i0 _ 1 16 Try.underlying51 hi0 hz0 hz1 hz2 (by rfl) (by omega) (.slice A1 ls.length c1) ls.length (strs ls) (by rfl) (by exact (hown.alloc _).drew) (fun _ => True) (some ⟨wr.heap.size, 0, none⟩) 1 1 [strv x] (by rfl) (by exact rd_new wr _ _) (by simp [Value.oneCell', strv]) (by simp only [maxLen]; omega) (by omega) (by simp; omega) ?_; intro v9 w9 hown9 hg9 hv9; obtain ⟨A9, c9, rfl, hr9⟩ := own_rd hown9; have hb29 := ((hb2.alloc (.cells #[strv x] 9)).drew).grown hg9 hug; have kc : w9.cell? ⟨g + 1 + 1, 0, none⟩ = some (.slice A1 ls.length c1) := (hb29.cell 0).trans rfl; have kf : w9.frozen? ⟨g + 1 + 1, 0, none⟩ = false := hb29.frozen 0))
        clear z0 z1 z2 z3 z4 u0 u1 u2 u3 u4 u5 uf rf lA
        all_goals
          have hb2' := hb29.set 0 (.slice A9 (ls.length + 1) c9)
          have hown' := ownsRow_setCell_below (a := ⟨g + 1 + 1, 0, none⟩) hown9 (by show g + 1 + 1 < g + 3; omega) (.slice A9 (ls.length + 1) c9)
          have hbel' := (((hbel.alloc (by omega) (.cells #[strv x] 9)).drew).grown hg9 (by simp; omega) (fun j hj => by have := (hown.lt j hj).1; omega)).setCell (p := ⟨g + 1 + 1, 0, none⟩) (by show g ≤ g + 1 + 1; omega) (.slice A9 (ls.length + 1) c9)
          have hgz : g + 3 ≤ w9.heap.size := by have := hg9.size; simp at this; omega
          have hb0' := (((hb0.alloc (.cells #[strv x] 9)).drew).grown hg9 (fun e => by have := (hown.lt g e.symm).1; omega)).far (p := ⟨g + 1 + 1, 0, none⟩) (by show g ≠ g + 1 + 1; omega) (.slice A9 (ls.length + 1) c9)
          have hb1' := (((hb1.alloc (.cells #[strv x] 9)).drew).grown hg9 (fun e => by have := (hown.lt (g + 1) e.symm).1; omega)).far (p := ⟨g + 1 + 1, 0, none⟩) (by show g + 1 ≠ g + 1 + 1; omega) (.slice A9 (ls.length + 1) c9)
          clear hown9 hg9 hb29 hr9 hown hbel hb0 hb1 hb2 hug hv9
          go_wp2
          go_roundw
          case rel =>
            have el : (ls ++ [x]).length = ls.length + 1 := by simp
            have en : at_ + (ls ++ [x]).length = n + 1 := by have := hn.out; omega
            refine ⟨ls ++ [x], keyS c x, .slice A9 (ls.length + 1) c9, by omega, by rw [en]; go_num, by rw [en]; exact hgo.out, (fun _ => ⟨hatn, by rw [hY.out]⟩), by omega, by simpa [World.setCell] using hgz, hb0', hb1', hb2', ?_, hbel'⟩
            have e : strs (ls ++ [x]) = strs ls ++ [strv x] := List.map_append
            rw [e, el]
            exact hown'
          case measure => simp [intOf]; omega
      · obtain ⟨hat2, hkk⟩ := hkey hls
        obtain ⟨b2, o2, he, hb2g, hy⟩ := hcell at_ hat2
        cases he
        have hy64 := h64 _ (List.getElem_mem hat2)
        have hgt : (at_ : Int) < (n : Int) := by have := List.length_pos_iff.2 hls; omega
        have hatI : (at_ : Int) < (r.lines.length : Int) := by omega
        have hat0 : (0 : Int) ≤ (at_ : Int) := by omega
        rw [if_neg hls] at hgo
        have hkx := fun W => key_any r.lines[n] c W (by omega)
        have hky := fun W => key_any r.lines[at_] c W (by omega)
        unfold KeyPost at hkx hky
        rw [← hkk] at hky
        have hx0 := hx wr (Chg.refl _ _)
        have hy0 := hy wr (Chg.refl _ _)
        have hF0 := hF wr (Chg.refl _ _)
        obtain ⟨⟨z0, z1, z2, z3, z4⟩, _⟩ := hF0
        have hx1 := fun m => hx _ ((Chg.refl _ wr).drewN m)
        generalize hX : r.lines[n] = x at *
        generalize hY : r.lines[at_] = y at *
        replace hX := Lib.hid hX
        replace hY := Lib.hid hY
        generalize hkxe : keyS c x = kx at *
        replace hkxe := Lib.hid hkxe
        replace hkk := Lib.hid hkk
        replace hkx := Lib.hid hkx
        replace hky := Lib.hid hky
        replace hF := Lib.hid hF
        replace hfin := Lib.hid hfin
        replace hls := Lib.hid hls
        replace hdrop := Lib.hid hdrop
        replace hn := Lib.hid hn
        have hE : ∀ (er : Int) (m : Nat), er ≠ 0 → (⟨x :: r.lines.drop (n + 1), key, ls, 0, er⟩ : GR) = G → Blk ((((wr.drewN m).setCell ⟨g + 1 + 1, 3, none⟩ (.int .i64 er)).setCell ⟨g + 1 + 1, 4, none⟩ (.int .i64 (-1))).setCell ⟨g + 1 + 1, 5, none⟩ (.int .i64 0)) (g + 1) 101 #[.slice none 0 0, .bool false, .bool false, .int .i64 0, .int .i64 0, .int .i64 0] ∧
            ReadPost w r G (.returned (.agg #[.slice A1 ls.length c1, .bool false, .bool false, .int .i64 er, .int .i64 (-1), .int .i64 0])) (((((wr.drewN m).setCell ⟨g + 1 + 1, 3, none⟩ (.int .i64 er)).setCell ⟨g + 1 + 1, 4, none⟩ (.int .i64 (-1))).setCell ⟨g + 1 + 1, 5, none⟩ (.int .i64 0)).setRow (g + 1) #[.slice A1 ls.length c1, .bool false, .bool false, .int .i64 er, .int .i64 (-1), .int .i64 0]) := fun er m her hGe =>
          ⟨(((hb1.chg ((Chg.refl (fun _ => False) wr).drewN m) (fun h => h)).far (p := ⟨g + 1 + 1, 3, none⟩) (by show g + 1 ≠ g + 1 + 1; omega) _).far (p := ⟨g + 1 + 1, 4, none⟩) (by show g + 1 ≠ g + 1 + 1; omega) _).far (p := ⟨g + 1 + 1, 5, none⟩) (by show g + 1 ≠ g + 1 + 1; omega) _,
            hfin.out _ false false er (-1) 0 _ (((((Chg.refl (fun k => k = g + 1 + 1) wr).drewN m).setCell (p := ⟨g + 1 + 1, 3, none⟩) (.inl rfl) _).setCell (p := ⟨g + 1 + 1, 4, none⟩) (.inl rfl) _).setCell (p := ⟨g + 1 + 1, 5, none⟩) (.inl rfl) _) hGe rfl ⟨⟨(fun h => by cases h), fun h => absurd h.1 her⟩, ⟨(fun h => by cases h), fun h => absurd h.1 her⟩, fun _ => ⟨rfl, rfl, rfl⟩, fun h => absurd h her⟩⟩
        have hWh : ∀ (m : Nat), (⟨x :: r.lines.drop (n + 1), key, ls, 0, 0⟩ : GR) = G → Blk ((wr.drewN m).setCell ⟨g + 1 + 1, 2, none⟩ (.bool true)) (g + 1) 101 #[.slice none 0 0, .bool false, .bool false, .int .i64 0, .int .i64 0, .int .i64 0] ∧
            ReadPost w r G (.returned (.agg #[.slice A1 ls.length c1, .bool false, .bool true, .int .i64 0, .int .i64 0, .int .i64 0])) (((wr.drewN m).setCell ⟨g + 1 + 1, 2, none⟩ (.bool true)).setRow (g + 1) #[.slice A1 ls.length c1, .bool false, .bool true, .int .i64 0, .int .i64 0, .int .i64 0]) := fun m hGe =>
          ⟨(hb1.chg ((Chg.refl (fun _ => False) wr).drewN m) (fun h => h)).far (p := ⟨g + 1 + 1, 2, none⟩) (by show g + 1 ≠ g + 1 + 1; omega) _,
            hfin.out _ false true 0 0 0 _ (((Chg.refl (fun k => k = g + 1 + 1) wr).drewN m).setCell (p := ⟨g + 1 + 1, 2, none⟩) (.inl rfl) _) hGe rfl ⟨⟨(fun h => by cases h), fun h => by cases h.2⟩, ⟨fun _ => ⟨rfl, rfl⟩, fun _ => rfl⟩, fun h => absurd rfl h, fun _ h => absurd rfl h⟩⟩
        replace hE := Lib.hid hE
        replace hWh := Lib.hid hWh
        have hne1 : ¬ g + 1 = g + 1 + 1 := by omega
        have hne2 : ¬ g + 1 + 1 = g + 1 := by omega
        have hA5 : ∀ W, Chg (fun _ => False) wr W → W.ownsRow (g + 3) 9 1 (.slice A1 ls.length c1) ls.length (strs ls) ∧ Blk W g 97 #[.slice (some ⟨b1, o1, none⟩) r.lines.length ca, .bool r.all, .int .i64 r.code, .int .i64 r.stage, .int .i64 r.id] ∧ Blk W (g + 1) 101 #[.slice none 0 0, .bool false, .bool false, .int .i64 0, .int .i64 0, .int .i64 0] ∧ Blk W (g + 1 + 1) 101 #[.slice A1 ls.length c1, .bool false, .bool false, .int .i64 0, .int .i64 0, .int .i64 0] ∧ Below g w W := fun W hW =>
          ⟨ownsRow_chg hown hW (fun _ _ h => h), hb0.chg hW (fun h => h), hb1.chg hW (fun h => h), hb2.chg hW (fun h => h), hbel.trans (hW.below (B := g) (by omega) (fun _ h => h.elim))⟩
        replace hA5 := Lib.hid hA5
        by_cases h1 : ltB kx key = true
        · rw [if_pos h1] at hgo
          have b1 : Op.bytesLess kx key = true := h1
          replace hgo := Lib.hid hgo
          clear hown hb0 hb1 hb2 hbel
          go_wp2_with (first
            | (go_at_call 35
               with_reducible refine Calls.mono (hky.out _) ?_
               rintro e1 w1 ⟨rfl, m1, rfl⟩)
            | (go_at_call 35
               with_reducible refine Calls.mono (hkx.out _) ?_
               rintro e2 w2 ⟨rfl, m2, rfl⟩
               obtain ⟨⟨z0, z1, z2, z3, z4⟩, ⟨u0, u1, u2, u3, u4, u5⟩, uf, rf⟩ := hF.out _ ((Chg.refl _ wr).drewN (m1 + m2))
               obtain ⟨hbR, hpost⟩ := hE.out 22 (m1 + m2) (by decide) hgo.out
               replace hpost := Lib.hid hpost)
            | (refine wpList_store_row rfl 101 (.tmp 8) (.tmp 52) rfl (g + 1) _ rfl rfl 101 _ hbR info_group rfl (by simp [Value.oneCell']) ?_))
          refine bodyPost_ret (results_cell_row rfl _ _ (g + 1) _ _ _ _ rfl (blk_setRow hbR) Try.underlying101 rfl info_group) rfl ?_
          exact hpost.out
        · have b1 : Op.bytesLess kx key = false := by simpa using h1
          rw [if_neg h1] at hgo
          by_cases hle1 : leB kx key = false
          · rw [if_pos hle1] at hgo
            have b2 : (kx == key) = false := by
              unfold leB at hle1
              simp only [Bool.or_eq_false_iff] at hle1
              exact hle1.2
            replace hgo := Lib.hid hgo
            clear hown hb0 hb1 hb2 hbel
            go_wp2_with (first
              | (go_at_call 35
                 with_reducible refine Calls.mono (hky.out _) ?_
                 rintro e1 w1 ⟨rfl, m1, rfl⟩)
              | (go_at_call 35
                 with_reducible refine Calls.mono (hkx.out _) ?_
                 rintro e2 w2 ⟨rfl, m2, rfl⟩
                 obtain ⟨⟨z0, z1, z2, z3, z4⟩, ⟨u0, u1, u2, u3, u4, u5⟩, uf, rf⟩ := hF.out _ ((Chg.refl _ wr).drewN (m1 + m2))
                 obtain ⟨hbR, hpost⟩ := hWh.out (m1 + m2) hgo.out
                 replace hpost := Lib.hid hpost)
              | (refine wpList_store_row rfl 101 (.tmp 8) (.tmp 57) rfl (g + 1) _ rfl rfl 101 _ hbR info_group rfl (by simp [Value.oneCell']) ?_))
            refine bodyPost_ret (results_cell_row rfl _ _ (g + 1) _ _ _ _ rfl (blk_setRow hbR) Try.underlying101 rfl info_group) rfl ?_
            exact hpost.out
          · have b2 : (kx == key) = true := by
              unfold leB at hle1
              have h3 : ltB kx key = false := by simpa using h1
              rw [h3] at hle1
              simpa using hle1
            rw [if_neg hle1] at hgo
            by_cases hnm : ls.length = N
            · rw [if_pos hnm] at hgo
              have b3 : ((ls.length : Int) == (N : Int)) = true := by rw [beq_iff_eq]; omega
              replace hgo := Lib.hid hgo
              replace hnm := Lib.hid hnm
              clear hown hb0 hb1 hb2 hbel
              go_wp2_with (first
                | (go_at_call 35
                   with_reducible refine Calls.mono (hky.out _) ?_
                   rintro e1 w1 ⟨rfl, m1, rfl⟩)
                | (go_at_call 35
                   with_reducible refine Calls.mono (hkx.out _) ?_
                   rintro e2 w2 ⟨rfl, m2, rfl⟩
                   obtain ⟨⟨z0, z1, z2, z3, z4⟩, ⟨u0, u1, u2, u3, u4, u5⟩, uf, rf⟩ := hF.out _ ((Chg.refl _ wr).drewN (m1 + m2))
                   obtain ⟨hbR, hpost⟩ := hE.out 21 (m1 + m2) (by decide) hgo.out
                   replace hpost := Lib.hid hpost)
                | (refine wpList_store_row rfl 101 (.tmp 8) (.tmp 65) rfl (g + 1) _ rfl rfl 101 _ hbR info_group rfl (by simp [Value.oneCell']) ?_))
              refine bodyPost_ret (results_cell_row rfl _ _ (g + 1) _ _ _ _ rfl (blk_setRow hbR) Try.underlying101 rfl info_group) rfl ?_
              exact hpost.out
            · rw [if_neg hnm] at hgo
              have b3 : ((ls.length : Int) == (N : Int)) = false := by rw [beq_eq_false_iff_ne]; omega
              have hlN2 : ls.length < N := by omega
              replace hgo := Lib.hid hgo
              replace hnm := Lib.hid hnm
              replace hx := Lib.hid hx
              clear hown hb0 hb1 hb2 hbel
              go_wp2_with (first
                | (go_at_call 35
                   with_reducible refine Calls.mono (hky.out _) ?_
                   rintro e1 w1 ⟨rfl, m1, rfl⟩)
                | (go_at_call 35
                   with_reducible refine Calls.mono (hkx.out _) ?_
                   rintro e2 w2 ⟨rfl, m2, rfl⟩
                   obtain ⟨w5, hw5⟩ : ∃ W, W = (wr.drewN m1).drewN m2 := ⟨_, rfl⟩
                   rw [← hw5]
                   have hc5 : Chg (fun _ => False) wr w5 := by rw [hw5]; exact ((Chg.refl _ wr).drewN m1).drewN m2
                   replace hw5 := Lib.hid hw5
                   obtain ⟨⟨z0, z1, z2, z3, z4⟩, ⟨u0, u1, u2, u3, u4, u5⟩, uf, rf⟩ := hF.out w5 hc5
                   obtain ⟨hown5, hb05, hb15, hb25, hbel5⟩ := hA5.out w5 hc5
                   have hx5 := hx.out w5 hc5
                   have hs5 := hc5.size
                   have lA : (w5.alloc (.cells #[strv x] 9)).cell? ⟨g + 1 + 1, 0, none⟩ = some (.slice A1 ls.length c1) := ((hb25.alloc _).cell 0).trans rfl
                   have hug : some (g + 1 + 1) ≠ (Value.slice A1 ls.length c1).ownBlock := fun e => by have := (hown5.lt (g + 1 + 1) e.symm).1; omega))
              go_region_law ((refine step_append_rd _ (by rfl) (.tmp 67) (.tmp 73) 51 (by rfl) (g + 3) 9 i0 _ 1 16 Try.underlying51 hi0 hz0 hz1 hz2 (by rfl) (by omega) (.slice A1 ls.length c1) ls.length (strs ls) (by rfl) (by exact (hown5.alloc _).drew) (fun _ => True) (some ⟨w5.heap.size, 0, none⟩) 1 1 [strv x] (by rfl) (by exact rd_new w5 _ _) (by simp [Value.oneCell', strv]) (by simp only [maxLen]; omega) (by omega) (by simp; omega) ?_; intro v9 w9 hown9 hg9 hv9; obtain ⟨A9, c9, rfl, hr9⟩ := own_rd hown9; have hb29 := ((hb25.alloc (.cells #[strv x] 9)).drew).grown hg9 hug; have kc : w9.cell? ⟨g + 1 + 1, 0, none⟩ = some (.slice A1 ls.length c1) := (hb29.cell 0).trans rfl; have kf : w9.frozen? ⟨g + 1 + 1, 0, none⟩ = false := hb29.frozen 0))
              clear z0 z1 z2 z3 z4 u0 u1 u2 u3 u4 u5 uf rf lA hx5
              all_goals
                have hb2' := hb29.set 0 (.slice A9 (ls.length + 1) c9)
                have hown' := ownsRow_setCell_below (a := ⟨g + 1 + 1, 0, none⟩) hown9 (by show g + 1 + 1 < g + 3; omega) (.slice A9 (ls.length + 1) c9)
                have hbel' := (((hbel5.alloc (by omega) (.cells #[strv x] 9)).drew).grown hg9 (by simp; omega) (fun j hj => by have := (hown5.lt j hj).1; omega)).setCell (p := ⟨g + 1 + 1, 0, none⟩) (by show g ≤ g + 1 + 1; omega) (.slice A9 (ls.length + 1) c9)
                have hgz : g + 3 ≤ w9.heap.size := by have := hg9.size; simp at this; omega
                have hb0' := (((hb05.alloc (.cells #[strv x] 9)).drew).grown hg9 (fun e => by have := (hown5.lt g e.symm).1; omega)).far (p := ⟨g + 1 + 1, 0, none⟩) (by show g ≠ g + 1 + 1; omega) (.slice A9 (ls.length + 1) c9)
                have hb1' := (((hb15.alloc (.cells #[strv x] 9)).drew).grown hg9 (fun e => by have := (hown5.lt (g + 1) e.symm).1; omega)).far (p := ⟨g + 1 + 1, 0, none⟩) (by show g + 1 ≠ g + 1 + 1; omega) (.slice A9 (ls.length + 1) c9)
                clear hown9 hg9 hb29 hr9 hown5 hbel5 hb05 hb15 hb25 hug hv9
                go_wp2
                go_roundw
                case rel =>
                  have el : (ls ++ [x]).length = ls.length + 1 := by simp
                  have en : at_ + (ls ++ [x]).length = n + 1 := by have := hn.out; omega
                  refine ⟨ls ++ [x], key, .slice A9 (ls.length + 1) c9, by omega, by rw [en]; go_num, by rw [en]; exact hgo.out, (fun _ => ⟨hat2, by rw [hY.out]; exact hkk.out⟩), by omega, by simpa [World.setCell] using hgz, hb0', hb1', hb2', ?_, hbel'⟩
                  have e : strs (ls ++ [x]) = strs ls ++ [strv x] := List.map_append
                  rw [e, el]
                  exact hown'
                case measure => simp [intOf]; omega
    · have hnl : n = r.lines.length := by omega
      have hltI : ¬ (n : Int) < (r.lines.length : Int) := by omega
      rw [List.drop_of_length_le (by omega), jgo] at hgo
      obtain ⟨⟨z0, z1, z2, z3, z4⟩, ⟨u0, u1, u2, u3, u4, u5⟩, uf, rf⟩ := hF wr (Chg.refl _ _)
      have hcW : ∀ (no wh : Bool), Chg (fun k => k = g + 1 + 1) wr (((((wr.setCell ⟨g + 1 + 1, 2, none⟩ (.bool wh)).setCell ⟨g + 1 + 1, 1, none⟩ (.bool no)).setCell ⟨g + 1 + 1, 3, none⟩ (.int .i64 r.code)).setCell ⟨g + 1 + 1, 4, none⟩ (.int .i64 r.stage)).setCell ⟨g + 1 + 1, 5, none⟩ (.int .i64 r.id)) := fun no wh => by
        have q0 := Chg.refl (fun k => k = g + 1 + 1) wr
        have q1 := q0.setCell (p := ⟨g + 1 + 1, 2, none⟩) (.inl rfl) (.bool wh)
        have q2 := q1.setCell (p := ⟨g + 1 + 1, 1, none⟩) (.inl rfl) (.bool no)
        have q3 := q2.setCell (p := ⟨g + 1 + 1, 3, none⟩) (.inl rfl) (.int .i64 r.code)
        have q4 := q3.setCell (p := ⟨g + 1 + 1, 4, none⟩) (.inl rfl) (.int .i64 r.stage)
        exact q4.setCell (p := ⟨g + 1 + 1, 5, none⟩) (.inl rfl) (.int .i64 r.id)
      have hR : ∀ (no wh : Bool) (g' : GR), g' = G → g'.ls = ls → GAns r g' no wh r.code r.stage r.id → Blk (((((wr.setCell ⟨g + 1 + 1, 2, none⟩ (.bool wh)).setCell ⟨g + 1 + 1, 1, none⟩ (.bool no)).setCell ⟨g + 1 + 1, 3, none⟩ (.int .i64 r.code)).setCell ⟨g + 1 + 1, 4, none⟩ (.int .i64 r.stage)).setCell ⟨g + 1 + 1, 5, none⟩ (.int .i64 r.id)) (g + 1) 101 #[.slice none 0 0, .bool false, .bool false, .int .i64 0, .int .i64 0, .int .i64 0] ∧
          ReadPost w r G (.returned (.agg #[.slice A1 ls.length c1, .bool no, .bool wh, .int .i64 r.code, .int .i64 r.stage, .int .i64 r.id])) ((((((wr.setCell ⟨g + 1 + 1, 2, none⟩ (.bool wh)).setCell ⟨g + 1 + 1, 1, none⟩ (.bool no)).setCell ⟨g + 1 + 1, 3, none⟩ (.int .i64 r.code)).setCell ⟨g + 1 + 1, 4, none⟩ (.int .i64 r.stage)).setCell ⟨g + 1 + 1, 5, none⟩ (.int .i64 r.id)).setRow (g + 1) #[.slice A1 ls.length c1, .bool no, .bool wh, .int .i64 r.code, .int .i64 r.stage, .int .i64 r.id]) := fun no wh g' h1 h2 h3 =>
        ⟨((((hb1.far (p := ⟨g + 1 + 1, 2, none⟩) (by show g + 1 ≠ g + 1 + 1; omega) _).far (p := ⟨g + 1 + 1, 1, none⟩) (by show g + 1 ≠ g + 1 + 1; omega) _).far (p := ⟨g + 1 + 1, 3, none⟩) (by show g + 1 ≠ g + 1 + 1; omega) _).far (p := ⟨g + 1 + 1, 4, none⟩) (by show g + 1 ≠ g + 1 + 1; omega) _).far (p := ⟨g + 1 + 1, 5, none⟩) (by show g + 1 ≠ g + 1 + 1; omega) _,
          hfin _ no wh _ _ _ g' (hcW no wh) h1 h2 h3⟩
      have hne1 : ¬ g + 1 = g + 1 + 1 := by omega
      have hne2 : ¬ g + 1 + 1 = g + 1 := by omega
      replace hR := Lib.hid hR
      replace hnl := Lib.hid hnl
      replace hn := Lib.hid hn
      clear hF hfin hown hb0 hb1 hb2 hbel hcell
      cases hall : r.all with
      | false =>
        rw [hall] at hgo z1
        rw [if_neg (by decide)] at hgo
        obtain ⟨hbR, hpost⟩ := hR.out false false _ hgo rfl ⟨⟨(fun h => by cases h), fun h => by cases h.2⟩, ⟨(fun h => by cases h), fun h => by cases h.2⟩, fun h => absurd rfl h, fun _ _ => ⟨rfl, rfl, rfl⟩⟩
        replace hpost := Lib.hid hpost; replace hbR := Lib.hid hbR
        replace hgo := Lib.hid hgo
        go_wp2_with (first
          | (refine wpList_store_row rfl 101 (.tmp 8) (.tmp 97) rfl (g + 1) _ rfl rfl 101 #[.slice none 0 0, .bool false, .bool false, .int .i64 0, .int .i64 0, .int .i64 0] ?hb info_group rfl (by simp [Value.oneCell']) ?_; case hb => exact hbR.out))
        refine bodyPost_ret (results_cell_row rfl _ _ (g + 1) _ _ _ _ rfl (blk_setRow hbR.out) Try.underlying101 rfl info_group) rfl ?_
        exact hpost.out
      | true =>
        rw [hall] at hgo z1
        rw [if_pos rfl] at hgo
        by_cases hls : ls = []
        · rw [if_pos hls] at hgo
          have b1 : ((ls.length : Int) == 0) = true := by rw [hls]; rfl
          have b2 : ¬ (0 : Int) < (ls.length : Int) := by rw [hls]; simp
          have hd : decide (0 < ls.length) = false := by rw [hls]; rfl
          obtain ⟨hbR, hpost⟩ := hR.out true (decide (0 < ls.length)) _ hgo rfl ⟨⟨fun _ => ⟨rfl, rfl⟩, fun _ => rfl⟩, ⟨(fun h => by rw [hd] at h; cases h), fun h => by cases h.2⟩, fun h => absurd rfl h, fun _ _ => ⟨rfl, rfl, rfl⟩⟩
          replace hd := Lib.hid hd
          replace hpost := Lib.hid hpost; replace hbR := Lib.hid hbR
          replace hgo := Lib.hid hgo
          replace hls := Lib.hid hls
          go_wp2_with (first
            | (refine wpList_store_row rfl 101 (.tmp 8) (.tmp 97) rfl (g + 1) _ rfl rfl 101 #[.slice none 0 0, .bool false, .bool false, .int .i64 0, .int .i64 0, .int .i64 0] ?hb info_group rfl (by simp [Value.oneCell']) ?_; case hb => exact hbR.out))
          refine bodyPost_ret (results_cell_row rfl _ _ (g + 1) _ _ _ _ rfl (blk_setRow hbR.out) Try.underlying101 rfl info_group) rfl ?_
          exact hpost.out
        · rw [if_neg hls] at hgo
          have hpos := List.length_pos_iff.2 hls
          have b1 : ((ls.length : Int) == 0) = false := by rw [beq_eq_false_iff_ne]; omega
          have b2 : (0 : Int) < (ls.length : Int) := by omega
          obtain ⟨hbR, hpost⟩ := hR.out false true _ hgo rfl ⟨⟨(fun h => by cases h), fun h => by cases h.2⟩, ⟨fun _ => ⟨rfl, rfl⟩, fun _ => rfl⟩, fun h => absurd rfl h, fun _ h => absurd rfl h⟩
          replace hpost := Lib.hid hpost; replace hbR := Lib.hid hbR
          replace hgo := Lib.hid hgo
          replace hls := Lib.hid hls
          go_wp2_with (first
            | (refine wpList_store_row rfl 101 (.tmp 8) (.tmp 97) rfl (g + 1) _ rfl rfl 101 #[.slice none 0 0, .bool false, .bool false, .int .i64 0, .int .i64 0, .int .i64 0] ?hb info_group rfl (by simp [Value.oneCell']) ?_; case hb => exact hbR.out))
          refine bodyPost_ret (results_cell_row rfl _ _ (g + 1) _ _ _ _ rfl (blk_setRow hbR.out) Try.underlying101 rfl info_group) rfl ?_
          exact hpost.out
end Go.Proofs.Ytkgmbomfkdkofaa
