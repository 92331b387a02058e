/- join: next, told, rows. -/
import Derived.Test.YtkgmbomfkdkofaaJoinC
import Derived.BigRegion
import Derived.Test.YtkgmbomfkdkofaaPasteH
import Derived.Test.YtkgmbomfkdkofaaTell
import Derived.StillTailTactics
import Derived.BigQuiet
import Derived.IntWalk
import Derived.Deep.RegionHeld3
import Derived.Test.YtkgmbomfkdkofaaPutAll
import Derived.Test.YtkgmbomfkdkofaaPasteW
namespace Go.Proofs.Ytkgmbomfkdkofaa
open Go Go.RowKit

theorem JMem.same {g B : Nat} {s s' : JoS} {fl : Nat → Bool} {cs : Array Value} {V : Nat → Value} {w : World} (h : JMem g B s fl cs V w) (e0 : s'.at_ = s.at_) (e1 : s'.more = s.more) (e2 : s'.a.over = s.a.over) (e3 : s'.by_ = s.by_) (e4 : s'.most = s.most)
    (e5 : ∀ k, k < 2 → s'.beg k = s.beg k ∧ s'.a.q k = s.a.q k ∧ s'.a.en k = s.a.en k ∧ s'.a.key k = s.a.key k ∧ s'.a.want k = s.a.want k ∧ s'.a.ls k = s.a.ls k) (e6 : s'.a.pi = s.a.pi) (e7 : s'.a.pj = s.a.pj) : JMem g B s' fl cs V w :=
  ⟨h.blk, by rw [e0]; exact h.c0, by rw [e1]; exact h.c1, by rw [e2]; exact h.c2, by rw [e3]; exact h.c3, by rw [e4]; exact h.c4, fun k hk => by obtain ⟨a, b, c, _⟩ := e5 k hk; rw [a, b, c]; exact h.q k hk, fun k hk => by obtain ⟨_, _, _, d, _⟩ := e5 k hk; rw [d]; exact h.key k hk, h.grp,
    fun k hk => by obtain ⟨_, _, _, _, d, _⟩ := e5 k hk; rw [d]; exact h.want k hk, by rw [e6]; exact h.pi, by rw [e7]; exact h.pj, fun k hk => by obtain ⟨_, b, _⟩ := e5 k hk; rw [b]; exact h.own k hk, fun k hk => by obtain ⟨_, _, _, _, _, d⟩ := e5 k hk; rw [d]; exact h.gown k hk, h.apart, h.ge⟩

/-- The groups that are wanted next, and no pair. -/
def nextS1 (s : JoS) : JoS := { s with a := { s.a with want := s.a.wants, pi := 0, pj := 0 } }
def nextCs (cs : Array Value) (b0 b1 : Bool) : Array Value := (((cs.setIfInBounds 145 (.bool b0)).setIfInBounds 146 (.bool b1)).setIfInBounds 147 (.int .i64 0)).setIfInBounds 148 (.int .i64 0)
theorem JMem.next1 {g B : Nat} {s : JoS} {fl : Nat → Bool} {cs : Array Value} {V : Nat → Value} {w w' : World} (h : JMem g B s fl cs V w) (hb : Blk w' g 84 (nextCs cs (leB (s.a.key 0) (s.a.key 1)) (leB (s.a.key 1) (s.a.key 0)))) (hc : Chg (fun k => k = g) w w') :
    JMem g B (nextS1 s) fl (nextCs cs (leB (s.a.key 0) (s.a.key 1)) (leB (s.a.key 1) (s.a.key 0))) V w' := by
  have hne : ∀ i b0 b1, i < 145 → (nextCs cs b0 b1)[i]? = cs[i]? := fun i b0 b1 hi => by
    unfold nextCs
    rw [Array.getElem?_setIfInBounds_ne (by omega), Array.getElem?_setIfInBounds_ne (by omega), Array.getElem?_setIfInBounds_ne (by omega), Array.getElem?_setIfInBounds_ne (by omega)]
  have hsz := h.lt (Nat.le_refl 148)
  refine h.cells hb hc ((hne _ _ _ (by omega)).trans h.c0) ((hne _ _ _ (by omega)).trans h.c1) ((hne _ _ _ (by omega)).trans h.c2) ((hne _ _ _ (by omega)).trans h.c3) ((hne _ _ _ (by omega)).trans h.c4) (fun i k hk h1 h2 => hne _ _ _ (by omega)) (fun k hk => hne _ _ _ (by omega)) (fun k hk => (hne _ _ _ (by omega)).trans (h.key k hk)) (fun k hk => ?_) ?_ ?_ rfl rfl rfl rfl
  · obtain rfl | rfl : k = 0 ∨ k = 1 := by omega
    · unfold nextCs
      rw [Array.getElem?_setIfInBounds_ne (by omega), Array.getElem?_setIfInBounds_ne (by omega), Array.getElem?_setIfInBounds_ne (by omega), Array.getElem?_setIfInBounds_self_of_lt (by omega)]
      rfl
    · unfold nextCs
      rw [Array.getElem?_setIfInBounds_ne (by omega), Array.getElem?_setIfInBounds_ne (by omega), Array.getElem?_setIfInBounds_self_of_lt (by simp; omega)]
      rfl
  · unfold nextCs
    rw [Array.getElem?_setIfInBounds_ne (by omega), Array.getElem?_setIfInBounds_self_of_lt (by simp; omega)]
    rfl
  · unfold nextCs
    rw [Array.getElem?_setIfInBounds_self_of_lt (by simp; omega)]
    rfl

def NextPost (g B : Nat) (s : JoS) (fl : Nat → Bool) (V : Nat → Value) (w : World) (e : Ending) (w' : World) : Prop :=
  e = .returned (.tuple #[]) ∧ ∃ cs' V', JMem g B { s with a := s.a.next } fl cs' V' w' ∧ Chg (jF g V) w w' ∧ ∀ y, jF g V' y → jF g V y ∨ w.heap.size ≤ y

set_option maxHeartbeats 2000000 in
set_option maxRecDepth 1000000 in
theorem jnext_any (g B : Nat) (s : JoS) (fl : Nat → Bool) (cs : Array Value) (V : Nat → Value) (w : World) (hm : JMem g B s fl cs V w) :
    Calls Try.prog 139 #[.pointer (some ⟨g, 0, none⟩)] w (NextPost g B s fl V w) := by
  have hS : ∀ W, Chg (fun _ => False) w W → W.cell? ⟨g, 73, none⟩ = some (strv (s.a.key 0)) ∧ W.cell? ⟨g, 143, none⟩ = some (strv (s.a.key 1)) ∧ (∀ i, W.frozen? ⟨g, i, none⟩ = false) ∧ Blk W g 84 cs ∧ Chg (fun _ => False) w W := fun W hW => by
    have hb := hm.blk.chg hW (fun h => h)
    exact ⟨(hb.cell _).trans (hm.key 0 (by omega)), (hb.cell _).trans (hm.key 1 (by omega)), fun i => hb.frozen i, hb, hW⟩
  have k145 : ∀ W, Chg (fun _ => False) w W → W.cell? ⟨g, 145, none⟩ = some (.bool (s.a.want 0)) ∧ W.cell? ⟨g, 146, none⟩ = some (.bool (s.a.want 1)) ∧ W.cell? ⟨g, 147, none⟩ = some (.int .i64 s.a.pi) ∧ W.cell? ⟨g, 148, none⟩ = some (.int .i64 s.a.pj) := fun W hW => by
    have hb := hm.blk.chg hW (fun h => h)
    exact ⟨(hb.cell _).trans (hm.want 0 (by omega)), (hb.cell _).trans (hm.want 1 (by omega)), (hb.cell _).trans hm.pi, (hb.cell _).trans hm.pj⟩
  have hS0 := hS w (Chg.refl _ _)
  obtain ⟨y1, y2, y3, y4, _⟩ := hS0
  obtain ⟨x1, x2, x3, x4⟩ := k145 w (Chg.refl _ _)
  have f145 := y3 145
  have f146 := y3 146
  have f147 := y3 147
  have f148 := y3 148
  generalize hk0 : s.a.key 0 = a0 at *
  generalize hk1 : s.a.key 1 = a1 at *
  replace hS := Lib.hid hS
  replace k145 := Lib.hid k145
  replace hm := Lib.hid hm
  replace y4 := Lib.hid y4
  replace hk0 := Lib.hid hk0
  replace hk1 := Lib.hid hk1
  clear y3
  go_enter Try.func139, Try.ntmps139
  go_wp2
  go_quiet (fail)
  go_wp2
  go_region
  generalize hb0 : (Op.bytesLess a0 a1 || a0 == a1) = b0 at *
  generalize hb1 : (Op.bytesLess a1 a0 || a1 == a0) = b1 at *
  have hc0 : Chg (fun _ => False) w (w.drewN (nq + 1)) := (Chg.refl _ _).drewN _
  have hmW := hm.out.keep hc0 (fun _ _ h => h)
  have hw0 : s.a.wants 0 = b0 := by show leB (s.a.key 0) (s.a.key 1) = b0; rw [hk0.out, hk1.out]; exact hb0
  have hw1 : s.a.wants 1 = b1 := by show leB (s.a.key 1) (s.a.key 0) = b1; rw [hk0.out, hk1.out]; exact hb1
  have hc1 : Chg (fun k => k = g) w (w.drewN (nq + 1)) := hc0.mono (fun _ h _ => h.elim)
  have hcW : Chg (fun k => k = g) w (((((w.drewN (nq + 1)).setCell ⟨g, 145, none⟩ (.bool b0)).setCell ⟨g, 146, none⟩ (.bool b1)).setCell ⟨g, 147, none⟩ (.int .i64 0)).setCell ⟨g, 148, none⟩ (.int .i64 0)) :=
    (((hc1.setCell (p := ⟨g, 145, none⟩) (.inl rfl) _).setCell (p := ⟨g, 146, none⟩) (.inl rfl) _).setCell (p := ⟨g, 147, none⟩) (.inl rfl) _).setCell (p := ⟨g, 148, none⟩) (.inl rfl) _
  have hm1 : JMem g B (nextS1 s) fl (nextCs cs (leB (s.a.key 0) (s.a.key 1)) (leB (s.a.key 1) (s.a.key 0))) V (((((w.drewN (nq + 1)).setCell ⟨g, 145, none⟩ (.bool b0)).setCell ⟨g, 146, none⟩ (.bool b1)).setCell ⟨g, 147, none⟩ (.int .i64 0)).setCell ⟨g, 148, none⟩ (.int .i64 0)) :=
    hm.out.next1 (by
      have e0 : leB (s.a.key 0) (s.a.key 1) = b0 := hw0
      have e1 : leB (s.a.key 1) (s.a.key 0) = b1 := hw1
      rw [e0, e1]
      exact (((hmW.blk.set 145 (.bool b0)).set 146 (.bool b1)).set 147 (.int .i64 0)).set 148 (.int .i64 0)) hcW
  replace hm1 := Lib.hid hm1
  replace hcW := Lib.hid hcW
  replace hb0 := Lib.hid hb0
  replace hb1 := Lib.hid hb1
  replace hw0 := Lib.hid hw0
  replace hw1 := Lib.hid hw1
  replace hmW := Lib.hid hmW
  go_wp2
  generalize (((((w.drewN (nq + 1)).setCell ⟨g, 145, none⟩ (.bool b0)).setCell ⟨g, 146, none⟩ (.bool b1)).setCell ⟨g, 147, none⟩ (.int .i64 0)).setCell ⟨g, 148, none⟩ (.int .i64 0)) = w2 at *
  clear hm hmW hc0 hc1 hS k145 y4
  go_loopw [44] (fun i wq => ∃ (n : Nat) (csq : Array Value) (Vq : Nat → Value), n ≤ 2 ∧ i = .int .i64 n ∧ JMem g B { (nextS1 s) with a := { (nextS1 s).a with ls := fun k => if k < n ∧ s.a.wants k = true then [] else s.a.ls k } } fl csq Vq wq ∧ Chg (jF g V) w wq ∧ ∀ y, jF g Vq y → jF g V y ∨ w.heap.size ≤ y) (fun i _ => 2 - (intOf i).toNat)
  case atStart => exact ⟨0, _, V, by omega, rfl, hm1.out.same rfl rfl rfl rfl rfl (fun k hk => ⟨rfl, rfl, rfl, rfl, rfl, by show (if k < 0 ∧ s.a.wants k = true then [] else s.a.ls k) = s.a.ls k; rw [if_neg (fun h => by omega)]⟩) rfl rfl, hcW.out.mono (fun k hk _ => .inl hk), fun y hy => .inl hy⟩
  case round =>
    obtain ⟨n, csq, Vq, hn, rfl, hmq, hcq, hFq⟩ := hrel
    have hset : ∀ k, k < 2 → n = k → ∀ (b : Bool), s.a.wants k = b → b = true → JMem g B { (nextS1 s) with a := { (nextS1 s).a with ls := fun j => if j < n + 1 ∧ s.a.wants j = true then [] else s.a.ls j } } fl (csq.setIfInBounds (5 + k * 70 + 69) (.slice none 0 0)) (upd Vq (2 + k) (.slice none 0 0)) (wr.setCell ⟨g, 5 + k * 70 + 69, none⟩ (.slice none 0 0)) ∧ Chg (jF g V) w (wr.setCell ⟨g, 5 + k * 70 + 69, none⟩ (.slice none 0 0)) ∧ ∀ y, jF g (upd Vq (2 + k) (.slice none 0 0)) y → jF g V y ∨ w.heap.size ≤ y := fun k hk hnk b hb hbt => by
      have hg := hmq.group (rv' := .slice none 0 0) hk [] (Chg.refl _ wr) (OwnT.nil _ _ _) (fun x hx => by simp [Value.ownBlock] at hx)
      refine ⟨hg.1.same rfl rfl rfl rfl rfl (fun j hj => ⟨rfl, rfl, rfl, rfl, rfl, ?_⟩) rfl rfl, hcq.trans hg.2.1 (fun x hx hlt => ?_), fun y hy => ?_⟩
      · show (if j < n + 1 ∧ s.a.wants j = true then [] else s.a.ls j) = upd (fun j => if j < n ∧ s.a.wants j = true then [] else s.a.ls j) k [] j
        by_cases hjk : j = k
        · subst hjk; rw [upd_same, if_pos ⟨by omega, by rw [hb, hbt]⟩]
        · rw [upd_ne _ _ hjk]
          by_cases hjn : j < n
          · by_cases hw : s.a.wants j = true
            · rw [if_pos ⟨by omega, hw⟩, if_pos ⟨hjn, hw⟩]
            · rw [if_neg (fun h => hw h.2), if_neg (fun h => hw h.2)]
          · rw [if_neg (fun h => by omega), if_neg (fun h => hjn h.1)]
      · rcases hFq x hx with h | h
        · exact h
        · omega
      · rcases hg.2.2 y hy with h | h
        · exact hFq y h
        · have := hcq.size; exact .inr (by omega)
    have hskip : ∀ k, k < 2 → n = k → s.a.wants k = false → JMem g B { (nextS1 s) with a := { (nextS1 s).a with ls := fun j => if j < n + 1 ∧ s.a.wants j = true then [] else s.a.ls j } } fl csq Vq wr := fun k hk hnk hb => by
      refine hmq.same rfl rfl rfl rfl rfl (fun j hj => ⟨rfl, rfl, rfl, rfl, rfl, ?_⟩) rfl rfl
      show (if j < n + 1 ∧ s.a.wants j = true then [] else s.a.ls j) = (if j < n ∧ s.a.wants j = true then [] else s.a.ls j)
      by_cases hjk : j = k
      · subst hjk; rw [if_neg (fun h => by rw [hb] at h; cases h.2), if_neg (fun h => by rw [hb] at h; cases h.2)]
      · by_cases hjn : j < n
        · by_cases hw : s.a.wants j = true
          · rw [if_pos ⟨by omega, hw⟩, if_pos ⟨hjn, hw⟩]
          · rw [if_neg (fun h => hw h.2), if_neg (fun h => hw h.2)]
        · rw [if_neg (fun h => by omega), if_neg (fun h => hjn h.1)]
    have hlast : n = 2 → NextPost g B s fl V w (.returned (.tuple #[])) wr := fun h2 => by
      refine ⟨rfl, csq, Vq, hmq.same rfl rfl rfl rfl rfl (fun j hj => ⟨rfl, rfl, rfl, rfl, rfl, ?_⟩) rfl rfl, hcq, hFq⟩
      show (if s.a.wants j = true then [] else s.a.ls j) = (if j < n ∧ s.a.wants j = true then [] else s.a.ls j)
      by_cases hw : s.a.wants j = true
      · rw [if_pos hw, if_pos ⟨by omega, hw⟩]
      · rw [if_neg hw, if_neg (fun h => hw h.2)]
    have g74 : wr.cell? ⟨g, 74, none⟩ = some (Vq 2) := (hmq.blk.cell _).trans (hmq.grp 0 (by omega))
    have g144 : wr.cell? ⟨g, 144, none⟩ = some (Vq 3) := (hmq.blk.cell _).trans (hmq.grp 1 (by omega))
    have f74 : wr.frozen? ⟨g, 74, none⟩ = false := hmq.blk.frozen _
    have f144 : wr.frozen? ⟨g, 144, none⟩ = false := hmq.blk.frozen _
    obtain ⟨A2, c2, hV2, _⟩ := (hmq.gown 0 (by omega)).rd
    obtain ⟨A3, c3, hV3, _⟩ := (hmq.gown 1 (by omega)).rd
    rw [show (2 : Nat) + 0 = 2 from rfl] at hV2
    rw [show (2 : Nat) + 1 = 3 from rfl] at hV3
    rw [hV2] at g74
    rw [hV3] at g144
    generalize (strs _).length = l2 at g74
    generalize (strs _).length = l3 at g144
    replace hset := Lib.hid hset
    replace hskip := Lib.hid hskip
    replace hlast := Lib.hid hlast
    clear hV2 hV3
    replace hmq := Lib.hid hmq
    obtain rfl | rfl | rfl : n = 0 ∨ n = 1 ∨ n = 2 := by omega
    · cases b0 with
      | true =>
        have hidx : ∀ W, (Instr.index 73 (.agg #[.bool true, .bool b1]) (.int .i64 0)).run Try.prog W = .ok (.bool true) W := fun W => by kernel_rfl
        have hs0 := hset.out 0 (by omega) rfl true hw0.out rfl
        replace hs0 := Lib.hid hs0
        go_wp2
        go_roundw
        case rel => exact ⟨1, _, _, by omega, by go_num, hs0.out.1, hs0.out.2.1, hs0.out.2.2⟩
        case measure => simp [intOf]
      | false =>
        have hidx : ∀ W, (Instr.index 73 (.agg #[.bool false, .bool b1]) (.int .i64 0)).run Try.prog W = .ok (.bool false) W := fun W => by kernel_rfl
        have hs0 := hskip.out 0 (by omega) rfl hw0.out
        replace hs0 := Lib.hid hs0
        go_wp2
        go_roundw
        case rel => exact ⟨1, _, _, by omega, by go_num, hs0.out, hcq, hFq⟩
        case measure => simp [intOf]
    · cases b1 with
      | true =>
        have hidx : ∀ W, (Instr.index 73 (.agg #[.bool b0, .bool true]) (.int .i64 1)).run Try.prog W = .ok (.bool true) W := fun W => by kernel_rfl
        have hs0 := hset.out 1 (by omega) rfl true hw1.out rfl
        replace hs0 := Lib.hid hs0
        go_wp2
        go_roundw
        case rel => exact ⟨2, _, _, by omega, by go_num, hs0.out.1, hs0.out.2.1, hs0.out.2.2⟩
        case measure => simp [intOf]
      | false =>
        have hidx : ∀ W, (Instr.index 73 (.agg #[.bool b0, .bool false]) (.int .i64 1)).run Try.prog W = .ok (.bool false) W := fun W => by kernel_rfl
        have hs0 := hskip.out 1 (by omega) rfl hw1.out
        replace hs0 := Lib.hid hs0
        go_wp2
        go_roundw
        case rel => exact ⟨2, _, _, by omega, by go_num, hs0.out, hcq, hFq⟩
        case measure => simp [intOf]
    · go_wp2
      go_end0
      exact hlast.out (by trivial)
end Go.Proofs.Ytkgmbomfkdkofaa
namespace Go.Proofs.Ytkgmbomfkdkofaa
open Go Go.RowKit

def ToldPost (g B : Nat) (s : JoS) (fl : Nat → Bool) (V : Nat → Value) (w : World) (e : Ending) (w' : World) : Prop :=
  ∃ v cs', e = .returned v ∧ JMem g B s.adv fl cs' V w' ∧ Chg (fun k => k = g) w w' ∧ OutsAt w' (fun k => w.heap.size ≤ k) v (tellS 0 [s.line])

theorem quiet_more {P : Program} {f : FuncId} {args : Array Value} {w : World} {n m : Nat} {v : Value} (h : ∀ W, Calls P f args W fun e w' => e = .returned v ∧ ∃ k, w' = W.drewN k) :
    Calls P f args (w.drewN (n + m)) fun e w'' => e = .returned v ∧ ∃ k, w'' = w.drewN (n + k) :=
  (h _).mono fun _ _ ⟨he, k, hk⟩ => ⟨he, m + k, by rw [hk, World.drewN_drewN, Nat.add_assoc]⟩

set_option maxHeartbeats 2000000 in
set_option maxRecDepth 1000000 in
theorem told_any (g B : Nat) (s : JoS) (fl : Nat → Bool) (cs : Array Value) (V : Nat → Value) (w : World) (hm : JMem g B s fl cs V w) (hi : s.a.pi < (s.a.ls 0).length) (hj : s.a.pj < (s.a.ls 1).length)
    (hl : ∀ k, k < 2 → (s.a.ls k).length ≤ 10000) (h64 : ∀ k, k < 2 → ∀ l ∈ s.a.ls k, l.length ≤ 64) (hk64 : (s.a.key 0).length ≤ 64) :
    Calls Try.prog 136 #[.pointer (some ⟨g, 0, none⟩)] w (ToldPost g B s fl V w) := by
  obtain ⟨A0, c0, e2, hc2⟩ := strs_cell B (hm.gown 0 (by omega))
  obtain ⟨A1, c1, e3, hc3⟩ := strs_cell B (hm.gown 1 (by omega))
  obtain ⟨g2, o2, rfl, hg2, hx⟩ := hc2 _ hi
  obtain ⟨g3, o3, rfl, hg3, hy⟩ := hc3 _ hj
  have hxl := h64 0 (by omega) _ (List.getElem_mem hi)
  have hyl := h64 1 (by omega) _ (List.getElem_mem hj)
  have hline : s.line = s.a.key 0 ++ [s.by_] ++ restS s.by_ (s.a.ls 0)[s.a.pi] ++ [s.by_] ++ restS s.by_ (s.a.ls 1)[s.a.pj] := by
    unfold JoS.line plS
    rw [List.getElem?_eq_getElem hi, List.getElem?_eq_getElem hj]; rfl
  have k73 : w.cell? ⟨g, 73, none⟩ = some (strv (s.a.key 0)) := (hm.blk.cell _).trans (hm.key 0 (by omega))
  have k74 : w.cell? ⟨g, 74, none⟩ = some (.slice (some ⟨g2, o2, none⟩) (s.a.ls 0).length c0) := (hm.blk.cell _).trans ((hm.grp 0 (by omega)).trans (by rw [show (2 : Nat) + 0 = 2 from rfl] at e2 ⊢; rw [e2]))
  have k144 : w.cell? ⟨g, 144, none⟩ = some (.slice (some ⟨g3, o3, none⟩) (s.a.ls 1).length c1) := (hm.blk.cell _).trans ((hm.grp 1 (by omega)).trans (by rw [show (2 : Nat) + 1 = 3 from rfl] at e3 ⊢; rw [e3]))
  have k3 : w.cell? ⟨g, 3, none⟩ = some (strv [s.by_]) := (hm.blk.cell _).trans hm.c3
  have k147 : w.cell? ⟨g, 147, none⟩ = some (.int .i64 s.a.pi) := (hm.blk.cell _).trans hm.pi
  have k148 : w.cell? ⟨g, 148, none⟩ = some (.int .i64 s.a.pj) := (hm.blk.cell _).trans hm.pj
  have f147 : w.frozen? ⟨g, 147, none⟩ = false := hm.blk.frozen _
  have f148 : w.frozen? ⟨g, 148, none⟩ = false := hm.blk.frozen _
  have hl0 := hl 0 (by omega)
  have hl1 := hl 1 (by omega)
  have hcut0 := fun W => scut_any (s.a.ls 0)[s.a.pi] s.by_ W (by omega)
  have hcut1 := fun W => scut_any (s.a.ls 1)[s.a.pj] s.by_ W (by omega)
  generalize (s.a.ls 0)[s.a.pi] = x at *
  generalize (s.a.ls 1)[s.a.pj] = y at *
  have hrx := (cutBy_len s.by_ x).2
  have hry := (cutBy_len s.by_ y).2
  generalize keyS s.by_ x = kx at *
  generalize restS s.by_ x = rx at *
  generalize hasS s.by_ x = bx at *
  generalize keyS s.by_ y = ky at *
  generalize restS s.by_ y = ry at *
  generalize hasS s.by_ y = by1 at *
  have hiI : (s.a.pi : Int) < ((s.a.ls 0).length : Int) := by omega
  have hjI : (s.a.pj : Int) < ((s.a.ls 1).length : Int) := by omega
  have hl0I : ((s.a.ls 0).length : Int) ≤ 10000 := by omega
  have hl1I : ((s.a.ls 1).length : Int) ≤ 10000 := by omega
  have hi0 : (0 : Int) ≤ (s.a.pi : Int) := by omega
  have hj0 : (0 : Int) ≤ (s.a.pj : Int) := by omega
  have hV3 : V (2 + 1) = .slice (some ⟨g3, o3, none⟩) (s.a.ls 1).length c1 := e3
  replace hV3 := Lib.hid hV3
  replace hline := Lib.hid hline
  replace hcut0 := Lib.hid hcut0
  replace hcut1 := Lib.hid hcut1
  replace hm := Lib.hid hm
  clear hc2 hc3 hl h64 e2 e3 hg2 hg3
  have hjl : (joinS [s.a.key 0 ++ [s.by_] ++ rx ++ [s.by_] ++ ry]).length ≤ 1000000000 := by
    have h := joinS_le [s.a.key 0 ++ [s.by_] ++ rx ++ [s.by_] ++ ry] 1000 (fun l hl => by simp only [List.mem_singleton] at hl; subst hl; simp; omega)
    simp only [List.length_singleton] at h
    omega
  obtain ⟨l1, z1⟩ : ∃ l, l = s.a.key 0 ++ [s.by_] := ⟨_, rfl⟩
  obtain ⟨l2, z2⟩ : ∃ l, l = l1 ++ rx := ⟨_, rfl⟩
  obtain ⟨l3, z3⟩ : ∃ l, l = l2 ++ [s.by_] := ⟨_, rfl⟩
  obtain ⟨l4, z4⟩ : ∃ l, l = l3 ++ ry := ⟨_, rfl⟩
  have hl4 : l4 = s.a.key 0 ++ [s.by_] ++ rx ++ [s.by_] ++ ry := by rw [z4, z3, z2, z1]
  rw [← hl4] at hjl
  have y1 : l1.length ≤ 65 := by rw [z1]; simp; omega
  have y2 : l2.length ≤ 129 := by rw [z2]; simp; omega
  have y3 : l3.length ≤ 130 := by rw [z3]; simp; omega
  have hcat1 : ∀ W : World, (Op.stringOp .add ⟨(s.a.key 0).toArray⟩ ⟨[s.by_].toArray⟩).run Try.prog W = .ok (strv l1) W := fun W => by
    rw [run_string_add_sum W _ _ (by simp [ByteArray.size]; omega), strv_append, z1]
  have hcat2 : ∀ W : World, (Op.stringOp .add ⟨l1.toArray⟩ ⟨rx.toArray⟩).run Try.prog W = .ok (strv l2) W := fun W => by
    rw [run_string_add_sum W _ _ (by simp [ByteArray.size]; omega), strv_append, z2]
  have hcat3 : ∀ W : World, (Op.stringOp .add ⟨l2.toArray⟩ ⟨[s.by_].toArray⟩).run Try.prog W = .ok (strv l3) W := fun W => by
    rw [run_string_add_sum W _ _ (by simp [ByteArray.size]; omega), strv_append, z3]
  have hcat4 : ∀ W : World, (Op.stringOp .add ⟨l3.toArray⟩ ⟨ry.toArray⟩).run Try.prog W = .ok (strv l4) W := fun W => by
    rw [run_string_add_sum W _ _ (by simp [ByteArray.size]; omega), strv_append, z4]
  clear z1 z2 z3 z4 y1 y2 y3
  replace hjl := Lib.hid hjl
  replace hl4 := Lib.hid hl4
  go_enter Try.func136, Try.ntmps136
  go_wp2
  go_quiet (fail)
  obtain ⟨n1, rfl⟩ : ∃ n, n = nq := ⟨_, rfl⟩
  go_wp2
  go_quiet ((go_at_call 144; exact quiet_more hcut0.out))
  obtain ⟨n2, rfl⟩ : ∃ n, n = nq := ⟨_, rfl⟩
  go_wp2
  go_quiet ((go_at_call 144; exact quiet_more hcut1.out))
  obtain ⟨n3, rfl⟩ : ∃ n, n = nq := ⟨_, rfl⟩
  go_wp2
  go_region
  have hm1 := ((hm.out.keep ((Chg.refl (fun _ => False) w).drewN (n1 + n2 + n3 + 1)) (fun _ _ h => h)).set_pj (s.a.pj + 1)).1
  have hc1 : Chg (fun k => k = g) w ((w.drewN (n1 + n2 + n3 + 1)).setCell ⟨g, 148, none⟩ (.int .i64 (s.a.pj + 1 : Nat))) := ((Chg.refl (fun k => k = g) w).drewN _).setCell (p := ⟨g, 148, none⟩) (.inl rfl) _
  have e148 : ((s.a.pj + 1 : Nat) : Int) = (s.a.pj : Int) + 1 := rfl
  rw [e148] at hm1 hc1
  generalize hW1 : ((w.drewN (n1 + n2 + n3 + 1)).setCell ⟨g, 148, none⟩ (.int .i64 ((s.a.pj : Int) + 1))) = W1 at *
  have j144 : W1.cell? ⟨g, 144, none⟩ = some (.slice (some ⟨g3, o3, none⟩) (s.a.ls 1).length c1) := (hm1.blk.cell _).trans ((hm1.grp 1 (by omega)).trans (by rw [← hV3.out]))
  have j147 : W1.cell? ⟨g, 147, none⟩ = some (.int .i64 s.a.pi) := (hm1.blk.cell _).trans hm1.pi
  have j148 : W1.cell? ⟨g, 148, none⟩ = some (.int .i64 ((s.a.pj : Int) + 1)) := (hm1.blk.cell _).trans hm1.pj
  have f1 : W1.frozen? ⟨g, 147, none⟩ = false := hm1.blk.frozen _
  have f2 : W1.frozen? ⟨g, 148, none⟩ = false := hm1.blk.frozen _
  have hfin : ∀ (s' : JoS) (cs' : Array Value) (W5 : World) (v2 : Value), s' = s.adv → JMem g B s' fl cs' V W5 → Chg (fun k => k = g) w W5 → ∀ W6 : World, Chg (fun _ => False) W5 W6 → OutsAt W6 (fun k => W5.heap.size ≤ k) v2 (tellS 0 [s.line]) → ToldPost g B s fl V w (.returned v2) W6 := fun s' cs' W5 v2 hs hm5 hc5 W6 hc6 ho => by
    subst hs
    exact ⟨v2, cs', rfl, hm5.keep hc6 (fun _ _ h => h), hc5.trans hc6 (fun _ h _ => h.elim), ho.mono (fun k hk _ => Nat.le_trans hc5.size hk)⟩
  replace hm1 := Lib.hid hm1
  replace hc1 := Lib.hid hc1
  replace hW1 := Lib.hid hW1
  replace hfin := Lib.hid hfin
  clear k73 k3 k147 k148 f147 f148 k74 k144 hx hy hm
  by_cases hn : s.a.pj + 1 = (s.a.ls 1).length
  · have hnI : (((s.a.pj : Int) + 1) == ((s.a.ls 1).length : Int)) = true := by rw [beq_iff_eq]; omega
    have hadv : ({ ({ ({ s with a := { s.a with pj := s.a.pj + 1 } } : JoS) with a := { ({ s with a := { s.a with pj := s.a.pj + 1 } } : JoS).a with pi := s.a.pi + 1 } } : JoS) with a := { ({ ({ s with a := { s.a with pj := s.a.pj + 1 } } : JoS) with a := { ({ s with a := { s.a with pj := s.a.pj + 1 } } : JoS).a with pi := s.a.pi + 1 } } : JoS).a with pj := 0 } } : JoS) = s.adv := by unfold JoS.adv advP; rw [if_pos hn]
    replace hn := Lib.hid hn
    go_wp2
    go_quiet (fail)
    go_wp2
    have hm2 := (hm1.out.keep ((Chg.refl (fun _ => False) W1).drewN nq) (fun _ _ h => h)).set_pi (s.a.pi + 1)
    have hm5 := (hm2.1.set_pj 0).1
    have hc5 := (hc1.out.drewN nq).trans (hm2.2.trans (hm2.1.set_pj 0).2 (fun _ h _ => h)) (fun _ h _ => h)
    replace hm2 := Lib.hid hm2
    have e147 : ((s.a.pi + 1 : Nat) : Int) = (s.a.pi : Int) + 1 := rfl
    rw [e147] at hm5 hc5
    generalize hW5 : (((W1.drewN nq).setCell ⟨g, 147, none⟩ (.int .i64 ((s.a.pi : Int) + 1))).setCell ⟨g, 148, none⟩ (.int .i64 (0 : Nat))) = W5 at *
    replace hW5 := Lib.hid hW5
    replace hm5 := Lib.hid hm5
    replace hc5 := Lib.hid hc5
    replace hadv := Lib.hid hadv
    clear j144 j147 j148 f1 f2
    go_wp2
    have hS : ∀ W, Chg (fun _ => False) W5 W → W.cell? ⟨g, 73, none⟩ = some (strv (s.a.key 0)) ∧ W.cell? ⟨g, 3, none⟩ = some (strv [s.by_]) ∧ Chg (fun _ => False) W5 W := fun W hW => ⟨((hm5.out.blk.chg hW (fun h => h)).cell _).trans (hm5.out.key 0 (by omega)), ((hm5.out.blk.chg hW (fun h => h)).cell _).trans hm5.out.c3, hW⟩
    have hS0 := hS W5 (Chg.refl _ _)
    have c0 : Chg (fun _ => False) W5 W5 := Chg.refl _ _
    have hrd := rd_row1 W5 9 (strv l4) rfl
    have hTell : Calls Try.prog 98 #[.int .i64 0, .slice (some ⟨W5.heap.size, 0, none⟩) 1 1] (W5.alloc (.cells #[strv l4] 9)).drew fun e w2 => ∃ v2, e = .returned v2 ∧ OutsAt w2 (fun k => W5.heap.size ≤ k) v2 (tellS 0 [s.line]) ∧ Chg (fun _ => False) W5 w2 :=
      (tell_any _ 0 (some ⟨W5.heap.size, 0, none⟩) 1 [l4] (W5.alloc (.cells #[strv l4] 9)).drew hrd (by simp) hjl.out).mono fun e2 w2 h => by
        obtain ⟨v2, rfl, ho2, hb2⟩ := h
        refine ⟨v2, rfl, ?_, (c0.alloc _).drew.trans (Chg.of_below (S := fun _ => False) hb2) (fun _ h _ => h)⟩
        rw [hline.out, ← hl4.out]
        exact ho2.mono (fun k hk _ => Nat.le_trans ((c0.alloc _).drew : Chg (fun _ => False) W5 (W5.alloc (.cells #[strv l4] 9)).drew).size hk)
    replace hS := Lib.hid hS
    replace hTell := Lib.hid hTell
    clear hrd
    go_region_held3 (fun W => W.cell? ⟨g, 73, none⟩ = some (strv (s.a.key 0)) ∧ W.cell? ⟨g, 3, none⟩ = some (strv [s.by_]) ∧ Chg (fun _ => False) W5 W)
      (first
        | with_reducible exact hS0
        | with_reducible exact hS.out _ c0.drew
        | with_reducible exact hS.out _ (c0.alloc _)
        | with_reducible exact hS.out _ (c0.alloc _).drew
        | with_reducible exact hS.out _ (c0.drew.alloc _)
        | with_reducible exact hS.out _ dX)
      (first
        | (go_at_call 98
           refine hTell.out.mono ?_
           rintro e2 w2 ⟨v2, rfl, ho2, dX⟩)
        | fail)
    go_wp2
    go_ret
    exact hfin.out _ _ W5 _ hadv.out hm5.out hc5.out _ dX ho2
  · have hnI : (((s.a.pj : Int) + 1) == ((s.a.ls 1).length : Int)) = false := by rw [beq_eq_false_iff_ne]; omega
    have hadv : ({ s with a := { s.a with pj := s.a.pj + 1 } } : JoS) = s.adv := by unfold JoS.adv advP; rw [if_neg hn]
    replace hn := Lib.hid hn
    go_wp2
    go_quiet (fail)
    go_wp2
    have hm5 := hm1.out.keep ((Chg.refl (fun _ => False) W1).drewN nq) (fun _ _ h => h)
    have hc5 := hc1.out.drewN nq
    generalize hW5 : W1.drewN nq = W5 at *
    replace hW5 := Lib.hid hW5
    replace hm5 := Lib.hid hm5
    replace hc5 := Lib.hid hc5
    replace hadv := Lib.hid hadv
    clear j144 j147 j148 f1 f2
    go_wp2
    have hS : ∀ W, Chg (fun _ => False) W5 W → W.cell? ⟨g, 73, none⟩ = some (strv (s.a.key 0)) ∧ W.cell? ⟨g, 3, none⟩ = some (strv [s.by_]) ∧ Chg (fun _ => False) W5 W := fun W hW => ⟨((hm5.out.blk.chg hW (fun h => h)).cell _).trans (hm5.out.key 0 (by omega)), ((hm5.out.blk.chg hW (fun h => h)).cell _).trans hm5.out.c3, hW⟩
    have hS0 := hS W5 (Chg.refl _ _)
    have c0 : Chg (fun _ => False) W5 W5 := Chg.refl _ _
    have hrd := rd_row1 W5 9 (strv l4) rfl
    have hTell : Calls Try.prog 98 #[.int .i64 0, .slice (some ⟨W5.heap.size, 0, none⟩) 1 1] (W5.alloc (.cells #[strv l4] 9)).drew fun e w2 => ∃ v2, e = .returned v2 ∧ OutsAt w2 (fun k => W5.heap.size ≤ k) v2 (tellS 0 [s.line]) ∧ Chg (fun _ => False) W5 w2 :=
      (tell_any _ 0 (some ⟨W5.heap.size, 0, none⟩) 1 [l4] (W5.alloc (.cells #[strv l4] 9)).drew hrd (by simp) hjl.out).mono fun e2 w2 h => by
        obtain ⟨v2, rfl, ho2, hb2⟩ := h
        refine ⟨v2, rfl, ?_, (c0.alloc _).drew.trans (Chg.of_below (S := fun _ => False) hb2) (fun _ h _ => h)⟩
        rw [hline.out, ← hl4.out]
        exact ho2.mono (fun k hk _ => Nat.le_trans ((c0.alloc _).drew : Chg (fun _ => False) W5 (W5.alloc (.cells #[strv l4] 9)).drew).size hk)
    replace hS := Lib.hid hS
    replace hTell := Lib.hid hTell
    clear hrd
    go_region_held3 (fun W => W.cell? ⟨g, 73, none⟩ = some (strv (s.a.key 0)) ∧ W.cell? ⟨g, 3, none⟩ = some (strv [s.by_]) ∧ Chg (fun _ => False) W5 W)
      (first
        | with_reducible exact hS0
        | with_reducible exact hS.out _ c0.drew
        | with_reducible exact hS.out _ (c0.alloc _)
        | with_reducible exact hS.out _ (c0.alloc _).drew
        | with_reducible exact hS.out _ (c0.drew.alloc _)
        | with_reducible exact hS.out _ dX)
      (first
        | (go_at_call 98
           refine hTell.out.mono ?_
           rintro e2 w2 ⟨v2, rfl, ho2, dX⟩)
        | fail)
    go_wp2
    go_ret
    exact hfin.out _ _ W5 _ hadv.out hm5.out hc5.out _ dX ho2
end Go.Proofs.Ytkgmbomfkdkofaa
namespace Go.Proofs.Ytkgmbomfkdkofaa
open Go Go.RowKit

theorem b_pieces {g : Nat} (x y : Bool) (w : World) (h1 : w.cell? ⟨g, 1, none⟩ = some (.bool x)) (hf : w.frozen? ⟨g, 1, none⟩ = false) :
    Calls Try.prog 138 #[.pointer (some ⟨g, 0, none⟩), .bool y] w fun e w' => e = .returned (.tuple #[]) ∧ w' = w.setCell ⟨g, 1, none⟩ (.bool y) := by
  go_enter Try.func138, Try.ntmps138
  go_wp2
  go_end0
  exact ⟨rfl, rfl⟩

/-! ## One round, plain -/
section
variable {s : JoS} {K : Nat} {G : GR}
theorem jr_over (h0 : s.a.over = true) : jrStep s = (s, false, 0) := by unfold jrStep; rw [if_pos h0]
theorem jr_due (h0 : s.a.over = false) (h1 : s.a.want 0 = false ∧ s.a.want 1 = false) (h2 : s.a.key 0 = s.a.key 1 ∧ s.a.pi < (s.a.ls 0).length) : jrStep s = ({ s with more := true }, false, 0) := by
  unfold jrStep; rw [if_neg (by rw [h0]; decide), if_pos h1, if_pos h2]
theorem jr_next (h0 : s.a.over = false) (h1 : s.a.want 0 = false ∧ s.a.want 1 = false) (h2 : ¬ (s.a.key 0 = s.a.key 1 ∧ s.a.pi < (s.a.ls 0).length)) : jrStep s = ({ s with a := s.a.next, more := false }, true, 0) := by
  unfold jrStep; rw [if_neg (by rw [h0]; decide), if_pos h1, if_neg h2]
theorem jr_err (h0 : s.a.over = false) (h1 : ¬ (s.a.want 0 = false ∧ s.a.want 1 = false)) (hK : s.a.wk = K) (hG : s.a.grp s.by_ s.most = G) (he : G.err ≠ 0) : jrStep s = ((grpS s K G.rest G.key G.ls).stop, false, G.err) := by
  have e : aStep s.by_ s.most s.a = ([], { s.a.set K G with over := true }, false, G.err) := by unfold aStep; rw [if_neg (by rw [h0]; decide), if_neg h1, hG, if_pos he, hK]
  unfold jrStep; rw [if_neg (by rw [h0]; decide), if_neg h1, e]; dsimp only; rw [if_neg (fun h => by cases h.2)]; rfl
theorem jr_none (h0 : s.a.over = false) (h1 : ¬ (s.a.want 0 = false ∧ s.a.want 1 = false)) (hK : s.a.wk = K) (hG : s.a.grp s.by_ s.most = G) (he : G.err = 0) (hw : G.what = 2) : jrStep s = ((grpS s K G.rest G.key G.ls).stop, false, 0) := by
  have e : aStep s.by_ s.most s.a = ([], { s.a.set K G with over := true }, false, 0) := by unfold aStep; rw [if_neg (by rw [h0]; decide), if_neg h1, hG, if_neg (fun h => h he), if_pos hw, hK]
  unfold jrStep; rw [if_neg (by rw [h0]; decide), if_neg h1, e]; dsimp only; rw [if_neg (fun h => by cases h.2)]; rfl
theorem jr_waits (h0 : s.a.over = false) (h1 : ¬ (s.a.want 0 = false ∧ s.a.want 1 = false)) (hK : s.a.wk = K) (hG : s.a.grp s.by_ s.most = G) (he : G.err = 0) (hw : G.what = 1) : jrStep s = ({ (grpS s K G.rest G.key G.ls) with at_ := K }, false, 0) := by
  have e : aStep s.by_ s.most s.a = ([], s.a.set K G, false, 0) := by unfold aStep; rw [if_neg (by rw [h0]; decide), if_neg h1, hG, if_neg (fun h => h he), if_neg (by omega), if_pos hw, hK]
  unfold jrStep; rw [if_neg (by rw [h0]; decide), if_neg h1, e]; dsimp only; rw [if_pos ⟨rfl, h0⟩, hK]; rfl
theorem jr_whole (h0 : s.a.over = false) (h1 : ¬ (s.a.want 0 = false ∧ s.a.want 1 = false)) (hK : s.a.wk = K) (hG : s.a.grp s.by_ s.most = G) (he : G.err = 0) (hw : G.what = 0) : jrStep s = ({ (grpS s K G.rest G.key G.ls) with a := { (grpS s K G.rest G.key G.ls).a with want := upd (grpS s K G.rest G.key G.ls).a.want K false } }, true, 0) := by
  have e : aStep s.by_ s.most s.a = ([], { s.a.set K G with want := upd s.a.want K false }, true, 0) := by unfold aStep; rw [if_neg (by rw [h0]; decide), if_neg h1, hG, if_neg (fun h => h he), if_neg (by omega), if_neg (by omega), hK]
  unfold jrStep; rw [if_neg (by rw [h0]; decide), if_neg h1, e]; dsimp only; rw [if_neg (fun h => by cases h.1)]; rfl

/-- What rows wants of its state. -/
structure JRok (s : JoS) : Prop where
  n1 : 1 ≤ s.most
  n2 : s.most ≤ 10000
  keep : JKeep s.most s.a
  mu : aMu s.a ≤ 20000
theorem JRok.few (h : JRok s) {k : Nat} (hk : k < 2) : (s.a.q k).length ≤ 10000 := by
  have := h.mu
  unfold aMu at this
  obtain rfl | rfl : k = 0 ∨ k = 1 := by omega
  · omega
  · omega
theorem JRok.next (h : JRok s) (hg : (jrStep s).2.1 = true) : JRok (jrStep s).1 := by
  have hmu := jrStep_mu s hg
  have hm0 := h.mu
  have key : (jrStep s).1.most = s.most ∧ JKeep s.most (jrStep s).1.a := by
    by_cases h0 : s.a.over = true
    · rw [jr_over h0] at hg; cases hg
    have h0' : s.a.over = false := by simpa using h0
    by_cases h1 : s.a.want 0 = false ∧ s.a.want 1 = false
    · by_cases h2 : s.a.key 0 = s.a.key 1 ∧ s.a.pi < (s.a.ls 0).length
      · rw [jr_due h0' h1 h2] at hg; cases hg
      · rw [jr_next h0' h1 h2]; exact ⟨rfl, h.keep.next h1⟩
    · unfold jrStep
      rw [if_neg h0, if_neg h1]
      exact ⟨rfl, (aStep_keep s.by_ s.most h.n1 s.a h.keep).1⟩
  exact ⟨by rw [key.1]; exact h.n1, by rw [key.1]; exact h.n2, by rw [key.1]; exact key.2, by omega⟩
end

def jm (s : JoS) : Nat := if s.a.over = true then 0 else aMu s.a + 1
theorem jm_live {s : JoS} (h : s.a.over = false) : jm s = aMu s.a + 1 := by unfold jm; rw [if_neg (by rw [h]; decide)]
theorem jm_le (s : JoS) : jm s ≤ aMu s.a + 1 := by unfold jm; split <;> omega
theorem jm_over {s : JoS} (h : s.a.over = true) : jm s = 0 := by unfold jm; rw [if_pos h]
def JRel (g B : Nat) (fl : Nat → Bool) (w0 : World) (F0 : Nat → Prop) (R : JoS × Int) (m : Nat) (wr : World) : Prop :=
  ∃ s cs V, JMem g B s fl cs V wr ∧ jAll s = R ∧ jm s = m ∧ (s.a.over = false → JRok s) ∧ Chg F0 w0 wr ∧ ∀ x, jF g V x → F0 x ∨ w0.heap.size ≤ x

def JRPost (g B : Nat) (fl : Nat → Bool) (w0 : World) (F0 : Nat → Prop) (R : JoS × Int) (e : Ending) (w' : World) : Prop :=
  ∃ cs V, e = .returned (.int .i64 R.2) ∧ JMem g B R.1 fl cs V w' ∧ Chg F0 w0 w' ∧ ∀ x, jF g V x → F0 x ∨ w0.heap.size ≤ x

section
variable {g B : Nat} {fl : Nat → Bool} {w0 wr w' : World} {F0 : Nat → Prop} {R : JoS × Int} {s s' : JoS} {V V' : Nat → Value} {cs' : Array Value}
theorem jrel_step (ho : s.a.over = false) (hall : jAll s = R) (hok : JRok s) (hch : Chg F0 w0 wr) (hFF : ∀ x, jF g V x → F0 x ∨ w0.heap.size ≤ x) (hst : jrStep s = (s', true, 0)) (hm' : JMem g B s' fl cs' V' w') (hc : Chg (jF g V) wr w') (hF : ∀ x, jF g V' x → jF g V x ∨ wr.heap.size ≤ x) :
    jm s' < jm s ∧ JRel g B fl w0 F0 R (jm s') w' := by
  have hgo : (jrStep s).2.1 = true := by rw [hst]
  have hmu := jrStep_mu s hgo
  have hok' := hok.next hgo
  have hal := jAll_go hgo
  rw [hst] at hmu hok' hal
  refine ⟨by have := jm_le s'; have := jm_live ho; dsimp only at hmu; omega, s', cs', V', hm', by rw [← hal]; exact hall, rfl, fun _ => hok', hch.trans hc (fun x hx hlt => ?_), fun x hx => ?_⟩
  · rcases hFF x hx with h | h
    · exact h
    · omega
  · rcases hF x hx with h | h
    · exact hFF x h
    · have := hch.size; exact .inr (by omega)
theorem jrel_none (ho : s.a.over = false) (hall : jAll s = R) (hch : Chg F0 w0 wr) (hFF : ∀ x, jF g V x → F0 x ∨ w0.heap.size ≤ x) (hst : jrStep s = (s', false, 0)) (ho' : s'.a.over = true) (hm' : JMem g B s' fl cs' V' w') (hc : Chg (jF g V) wr w') (hF : ∀ x, jF g V' x → jF g V x ∨ wr.heap.size ≤ x) :
    jm s' < jm s ∧ JRel g B fl w0 F0 R (jm s') w' := by
  have hal := jAll_stop (s := s) (by rw [hst])
  have hal' := jAll_stop (s := s') (by rw [jr_over ho'])
  rw [hst] at hal
  rw [jr_over ho'] at hal'
  refine ⟨by rw [jm_live ho, jm_over ho']; omega, s', cs', V', hm', by rw [hal', ← hall, hal], rfl, (fun h => by rw [ho'] at h; cases h), hch.trans hc (fun x hx hlt => ?_), fun x hx => ?_⟩
  · rcases hFF x hx with h | h
    · exact h
    · omega
  · rcases hF x hx with h | h
    · exact hFF x h
    · have := hch.size; exact .inr (by omega)
theorem jrel_end {er : Int} (hall : jAll s = R) (hch : Chg F0 w0 wr) (hFF : ∀ x, jF g V x → F0 x ∨ w0.heap.size ≤ x) (hst : jrStep s = (s', false, er)) (hm' : JMem g B s' fl cs' V' w') (hc : Chg (jF g V) wr w') (hF : ∀ x, jF g V' x → jF g V x ∨ wr.heap.size ≤ x) :
    JRPost g B fl w0 F0 R (.returned (.int .i64 er)) w' := by
  have hal := jAll_stop (s := s) (by rw [hst])
  rw [hst, hall] at hal
  subst hal
  refine ⟨cs', V', rfl, hm', hch.trans hc (fun x hx hlt => ?_), fun x hx => ?_⟩
  · rcases hFF x hx with h | h
    · exact h
    · omega
  · rcases hF x hx with h | h
    · exact hFF x h
    · have := hch.size; exact .inr (by omega)
end

set_option maxHeartbeats 4000000 in
set_option maxRecDepth 1000000 in
theorem jrows_any (g B : Nat) (s0 : JoS) (fl : Nat → Bool) (cs0 : Array Value) (V0 : Nat → Value) (w0 : World) (hok0 : JRok s0) (hm0 : JMem g B s0 fl cs0 V0 w0) (F0 : Nat → Prop) (hF0 : ∀ x, jF g V0 x → F0 x) (hB : B ≤ w0.heap.size) :
    Calls Try.prog 132 #[.pointer (some ⟨g, 0, none⟩)] w0 (JRPost g B fl w0 F0 (jAll s0)) := by
  generalize hR : jAll s0 = R at *
  replace hR := Lib.hid hR
  go_enter Try.func132, Try.ntmps132
  go_wp2
  go_loopg [] (jm s0) (fun m wr => JRel g B fl w0 F0 R m wr)
  case atStart => exact ⟨s0, cs0, V0, hm0, hR.out, rfl, fun _ => hok0, Chg.refl _ _, fun x hx => .inl (hF0 x hx)⟩
  case round =>
    obtain ⟨s, cs, V, hm, hall, hmm, hok, hch, hFF⟩ := hrel
    have hBw : B ≤ wr.heap.size := by have := hch.size; omega
    have k0 : wr.cell? ⟨g, 0, none⟩ = some (.int .i64 s.at_) := (hm.blk.cell _).trans hm.c0
    have k1 : wr.cell? ⟨g, 1, none⟩ = some (.bool s.more) := (hm.blk.cell _).trans hm.c1
    have k2 : wr.cell? ⟨g, 2, none⟩ = some (.bool s.a.over) := (hm.blk.cell _).trans hm.c2
    have hfz : ∀ i, wr.frozen? ⟨g, i, none⟩ = false := fun i => hm.blk.frozen i
    have hend := fun (er : Int) (s' : JoS) (cs' : Array Value) (V' : Nat → Value) (w' : World) (hst : jrStep s = (s', false, er)) (hm' : JMem g B s' fl cs' V' w') (hc : Chg (jF g V) wr w') (hF : ∀ x, jF g V' x → jF g V x ∨ wr.heap.size ≤ x) => jrel_end hall hch hFF hst hm' hc hF
    replace hend := Lib.hid hend
    subst hmm
    by_cases ho : s.a.over = true
    · have hst := jr_over ho
      rw [ho] at k2
      replace hst := Lib.hid hst
      go_wp2_with (first
        | (go_at_call 134
           refine (b_over true _ k2).mono ?_
           rintro e1 w1 ⟨rfl, rfl⟩))
      go_ret
      exact hend.out 0 _ _ _ _ hst.out hm (Chg.refl _ _) (fun x hx => .inl hx)
    have ho' : s.a.over = false := by simpa using ho
    rw [ho'] at k2
    replace hok := hok ho'
    have hstep := fun (s' : JoS) (cs' : Array Value) (V' : Nat → Value) (w' : World) (hst : jrStep s = (s', true, 0)) (hm' : JMem g B s' fl cs' V' w') (hc : Chg (jF g V) wr w') (hF : ∀ x, jF g V' x → jF g V x ∨ wr.heap.size ≤ x) => jrel_step ho' hall hok hch hFF hst hm' hc hF
    have hnone := fun (s' : JoS) (cs' : Array Value) (V' : Nat → Value) (w' : World) (hst : jrStep s = (s', false, 0)) (ho2 : s'.a.over = true) (hm' : JMem g B s' fl cs' V' w') (hc : Chg (jF g V) wr w') (hF : ∀ x, jF g V' x → jF g V x ∨ wr.heap.size ≤ x) => jrel_none ho' hall hch hFF hst ho2 hm' hc hF
    replace hstep := Lib.hid hstep
    replace hnone := Lib.hid hnone
    clear hall hch hFF
    have w145 : wr.cell? ⟨g, 145, none⟩ = some (.bool (s.a.want 0)) := (hm.blk.cell _).trans (hm.want 0 (by omega))
    have w146 : wr.cell? ⟨g, 146, none⟩ = some (.bool (s.a.want 1)) := (hm.blk.cell _).trans (hm.want 1 (by omega))
    cases hw0 : s.a.want 0 with
    | true =>
      have hK : s.a.wk = 0 := by unfold JA.wk; rw [if_pos hw0]
      have h1 : ¬ (s.a.want 0 = false ∧ s.a.want 1 = false) := fun h => by rw [hw0] at h; cases h.1
      rw [hw0] at w145
      go_wp2_with (first
        | (go_at_call 134
           refine (b_over false _ k2).mono ?_
           rintro e1 w1 ⟨rfl, rfl⟩))
      go_loopw [3] (fun i wq => ∃ n : Nat, n ≤ 0 ∧ i = .int .i64 n ∧ wr = wq) (fun i _ => 0 - (intOf i).toNat)
      case atStart => exact ⟨0, Nat.zero_le _, rfl, rfl⟩
      case round =>
        obtain ⟨n, hn, rfl, rfl⟩ := hrel
        obtain rfl : n = 0 := by omega
        · skip
          have hgc := group_any g B 0 s fl cs V wr (by omega) hok.n1 hok.n2 hm (hok.keep.few 0 (by omega)) (hok.few (by omega)) (hok.keep.shq 0 (by omega)) (hok.keep.shl 0 (by omega)) (hok.keep.shk 0 (by omega)) (jF g V) (fun _ h => h) hBw
          have hG : s.a.grp s.by_ s.most = jgo s.by_ s.most (s.a.en 0) (s.a.key 0) (s.a.ls 0) (s.a.q 0) := by unfold JA.grp; rw [hK]
          have hwt := (jgo_what s.by_ s.most (s.a.en 0) (s.a.q 0) (s.a.key 0) (s.a.ls 0)).1
          generalize jgo s.by_ s.most (s.a.en 0) (s.a.key 0) (s.a.ls 0) (s.a.q 0) = G at *
          replace hG := Lib.hid hG
          replace hgc := Lib.hid hgc
          replace hK := Lib.hid hK
          replace h1 := Lib.hid h1
          replace ho' := Lib.hid ho'
          clear hm hok k0 k1 k2 hfz
          have hpost : ∀ w4 cs4 V4, JMem g B (grpS s 0 G.rest G.key G.ls) fl cs4 V4 w4 → w4.cell? ⟨g, 0, none⟩ = some (.int .i64 s.at_) ∧ w4.cell? ⟨g, 2, none⟩ = some (.bool false) ∧ w4.cell? ⟨g, 145 + 0, none⟩ = some (.bool (s.a.want 0)) ∧ ∀ i, w4.frozen? ⟨g, i, none⟩ = false := fun w4 cs4 V4 h4 =>
            ⟨(h4.blk.cell _).trans h4.c0, (h4.blk.cell _).trans (h4.c2.trans (by show some (Value.bool s.a.over) = _; rw [ho'.out])), (h4.blk.cell _).trans (h4.want 0 (by omega)), fun i => h4.blk.frozen i⟩
          replace hpost := Lib.hid hpost
          by_cases he : G.err = 0
          · have heI : (G.err != 0) = false := by rw [he]; rfl
            obtain hw | hw | hw : G.what = 0 ∨ G.what = 1 ∨ G.what = 2 := by omega
            · have hst := jr_whole ho'.out h1.out hK.out hG.out he hw
              replace hst := Lib.hid hst
              go_wp2_with (first
                | (go_at_call 140
                   refine hgc.out.mono ?_
                   rintro e4 w4 ⟨cs4, V4, rfl, hm4, hc4, hF4⟩
                   obtain ⟨x0, x2, x145, xf⟩ := hpost.out _ _ _ hm4
                   have xf2 := xf 2
                   have xf0 := xf 0
                   have xfw := xf (145 + 0)
                   replace hm4 := Lib.hid hm4)
                | (go_at_call 141
                   refine (b_turn _ _ _ x0 xf0).mono ?_
                   rintro e5 w5 ⟨rfl, rfl⟩)
                | (go_at_call 96
                   refine (b_stop false _ x2 xf2).mono ?_
                   rintro e5 w5 ⟨rfl, rfl⟩)
                | (go_at_call 134
                   refine (b_over _ _ rfl).mono ?_
                   rintro e1 w1 ⟨rfl, rfl⟩))
              have hr := hstep.out _ _ _ _ hst.out (hm4.out.set_want 0 (by omega) false).1 (hc4.trans ((hm4.out.set_want 0 (by omega) false).2.mono (fun k hk _ => .inl hk)) (fun _ h _ => h)) hF4
              go_roundg (jm (jrStep s).1)
              case measure => rw [hst.out]; exact hr.1
              case rel => rw [hst.out]; exact hr.2
            · have hst := jr_waits ho'.out h1.out hK.out hG.out he hw
              replace hst := Lib.hid hst
              go_wp2_with (first
                | (go_at_call 140
                   refine hgc.out.mono ?_
                   rintro e4 w4 ⟨cs4, V4, rfl, hm4, hc4, hF4⟩
                   obtain ⟨x0, x2, x145, xf⟩ := hpost.out _ _ _ hm4
                   have xf2 := xf 2
                   have xf0 := xf 0
                   have xfw := xf (145 + 0)
                   replace hm4 := Lib.hid hm4)
                | (go_at_call 141
                   refine (b_turn _ _ _ x0 xf0).mono ?_
                   rintro e5 w5 ⟨rfl, rfl⟩)
                | (go_at_call 96
                   refine (b_stop false _ x2 xf2).mono ?_
                   rintro e5 w5 ⟨rfl, rfl⟩)
                | (go_at_call 134
                   refine (b_over _ _ rfl).mono ?_
                   rintro e1 w1 ⟨rfl, rfl⟩))
              go_ret
              exact hend.out 0 _ _ _ _ hst.out (hm4.out.set_at 0).1 (hc4.trans ((hm4.out.set_at 0).2.mono (fun k hk _ => .inl hk)) (fun _ h _ => h)) hF4
            · have hst := jr_none ho'.out h1.out hK.out hG.out he hw
              replace hst := Lib.hid hst
              go_wp2_with (first
                | (go_at_call 140
                   refine hgc.out.mono ?_
                   rintro e4 w4 ⟨cs4, V4, rfl, hm4, hc4, hF4⟩
                   obtain ⟨x0, x2, x145, xf⟩ := hpost.out _ _ _ hm4
                   have xf2 := xf 2
                   have xf0 := xf 0
                   have xfw := xf (145 + 0)
                   replace hm4 := Lib.hid hm4)
                | (go_at_call 141
                   refine (b_turn _ _ _ x0 xf0).mono ?_
                   rintro e5 w5 ⟨rfl, rfl⟩)
                | (go_at_call 96
                   refine (b_stop false _ x2 xf2).mono ?_
                   rintro e5 w5 ⟨rfl, rfl⟩)
                | (go_at_call 134
                   refine (b_over _ _ rfl).mono ?_
                   rintro e1 w1 ⟨rfl, rfl⟩))
              have hr := hnone.out _ _ _ _ hst.out rfl (hm4.out.set_over).1 (hc4.trans ((hm4.out.set_over).2.mono (fun k hk _ => .inl hk)) (fun _ h _ => h)) hF4
              go_roundg (jm (jrStep s).1)
              case measure => rw [hst.out]; exact hr.1
              case rel => rw [hst.out]; exact hr.2
          · have hst := jr_err ho'.out h1.out hK.out hG.out he
            have heI : (G.err != 0) = true := by simpa using he
            replace hst := Lib.hid hst
            go_wp2_with (first
              | (go_at_call 140
                 refine hgc.out.mono ?_
                 rintro e4 w4 ⟨cs4, V4, rfl, hm4, hc4, hF4⟩
                 obtain ⟨x0, x2, x145, xf⟩ := hpost.out _ _ _ hm4
                 have xf2 := xf 2
                 have xf0 := xf 0
                 have xfw := xf (145 + 0)
                 replace hm4 := Lib.hid hm4)
              | (go_at_call 141
                 refine (b_turn _ _ _ x0 xf0).mono ?_
                 rintro e5 w5 ⟨rfl, rfl⟩)
              | (go_at_call 96
                 refine (b_stop false _ x2 xf2).mono ?_
                 rintro e5 w5 ⟨rfl, rfl⟩)
              | (go_at_call 134
                 refine (b_over _ _ rfl).mono ?_
                 rintro e1 w1 ⟨rfl, rfl⟩))
            go_ret
            exact hend.out G.err _ _ _ _ hst.out (hm4.out.set_over).1 (hc4.trans ((hm4.out.set_over).2.mono (fun k hk _ => .inl hk)) (fun _ h _ => h)) hF4
    | false =>
      rw [hw0] at w145
      cases hw1 : s.a.want 1 with
      | true =>
        have hK : s.a.wk = 1 := by unfold JA.wk; rw [if_neg (by rw [hw0]; decide)]
        have h1 : ¬ (s.a.want 0 = false ∧ s.a.want 1 = false) := fun h => by rw [hw1] at h; cases h.2
        rw [hw1] at w146
        go_wp2_with (first
          | (go_at_call 134
             refine (b_over false _ k2).mono ?_
             rintro e1 w1 ⟨rfl, rfl⟩))
        go_loopw [3] (fun i wq => ∃ n : Nat, n ≤ 1 ∧ i = .int .i64 n ∧ wr = wq) (fun i _ => 1 - (intOf i).toNat)
        case atStart => exact ⟨0, Nat.zero_le _, rfl, rfl⟩
        case round =>
          obtain ⟨n, hn, rfl, rfl⟩ := hrel
          obtain rfl | rfl : n = 0 ∨ n = 1 := by omega
          · go_wp2
            go_roundw
            case rel => exact ⟨1, by omega, by go_num, by trivial⟩
            case measure => simp [intOf]
          · skip
            have hgc := group_any g B 1 s fl cs V wr (by omega) hok.n1 hok.n2 hm (hok.keep.few 1 (by omega)) (hok.few (by omega)) (hok.keep.shq 1 (by omega)) (hok.keep.shl 1 (by omega)) (hok.keep.shk 1 (by omega)) (jF g V) (fun _ h => h) hBw
            have hG : s.a.grp s.by_ s.most = jgo s.by_ s.most (s.a.en 1) (s.a.key 1) (s.a.ls 1) (s.a.q 1) := by unfold JA.grp; rw [hK]
            have hwt := (jgo_what s.by_ s.most (s.a.en 1) (s.a.q 1) (s.a.key 1) (s.a.ls 1)).1
            generalize jgo s.by_ s.most (s.a.en 1) (s.a.key 1) (s.a.ls 1) (s.a.q 1) = G at *
            replace hG := Lib.hid hG
            replace hgc := Lib.hid hgc
            replace hK := Lib.hid hK
            replace h1 := Lib.hid h1
            replace ho' := Lib.hid ho'
            clear hm hok k0 k1 k2 hfz
            have hpost : ∀ w4 cs4 V4, JMem g B (grpS s 1 G.rest G.key G.ls) fl cs4 V4 w4 → w4.cell? ⟨g, 0, none⟩ = some (.int .i64 s.at_) ∧ w4.cell? ⟨g, 2, none⟩ = some (.bool false) ∧ w4.cell? ⟨g, 145 + 1, none⟩ = some (.bool (s.a.want 1)) ∧ ∀ i, w4.frozen? ⟨g, i, none⟩ = false := fun w4 cs4 V4 h4 =>
              ⟨(h4.blk.cell _).trans h4.c0, (h4.blk.cell _).trans (h4.c2.trans (by show some (Value.bool s.a.over) = _; rw [ho'.out])), (h4.blk.cell _).trans (h4.want 1 (by omega)), fun i => h4.blk.frozen i⟩
            replace hpost := Lib.hid hpost
            by_cases he : G.err = 0
            · have heI : (G.err != 0) = false := by rw [he]; rfl
              obtain hw | hw | hw : G.what = 0 ∨ G.what = 1 ∨ G.what = 2 := by omega
              · have hst := jr_whole ho'.out h1.out hK.out hG.out he hw
                replace hst := Lib.hid hst
                go_wp2_with (first
                  | (go_at_call 140
                     refine hgc.out.mono ?_
                     rintro e4 w4 ⟨cs4, V4, rfl, hm4, hc4, hF4⟩
                     obtain ⟨x0, x2, x145, xf⟩ := hpost.out _ _ _ hm4
                     have xf2 := xf 2
                     have xf0 := xf 0
                     have xfw := xf (145 + 1)
                     replace hm4 := Lib.hid hm4)
                  | (go_at_call 141
                     refine (b_turn _ _ _ x0 xf0).mono ?_
                     rintro e5 w5 ⟨rfl, rfl⟩)
                  | (go_at_call 96
                     refine (b_stop false _ x2 xf2).mono ?_
                     rintro e5 w5 ⟨rfl, rfl⟩)
                  | (go_at_call 134
                     refine (b_over _ _ rfl).mono ?_
                     rintro e1 w1 ⟨rfl, rfl⟩))
                have hr := hstep.out _ _ _ _ hst.out (hm4.out.set_want 1 (by omega) false).1 (hc4.trans ((hm4.out.set_want 1 (by omega) false).2.mono (fun k hk _ => .inl hk)) (fun _ h _ => h)) hF4
                go_roundg (jm (jrStep s).1)
                case measure => rw [hst.out]; exact hr.1
                case rel => rw [hst.out]; exact hr.2
              · have hst := jr_waits ho'.out h1.out hK.out hG.out he hw
                replace hst := Lib.hid hst
                go_wp2_with (first
                  | (go_at_call 140
                     refine hgc.out.mono ?_
                     rintro e4 w4 ⟨cs4, V4, rfl, hm4, hc4, hF4⟩
                     obtain ⟨x0, x2, x145, xf⟩ := hpost.out _ _ _ hm4
                     have xf2 := xf 2
                     have xf0 := xf 0
                     have xfw := xf (145 + 1)
                     replace hm4 := Lib.hid hm4)
                  | (go_at_call 141
                     refine (b_turn _ _ _ x0 xf0).mono ?_
                     rintro e5 w5 ⟨rfl, rfl⟩)
                  | (go_at_call 96
                     refine (b_stop false _ x2 xf2).mono ?_
                     rintro e5 w5 ⟨rfl, rfl⟩)
                  | (go_at_call 134
                     refine (b_over _ _ rfl).mono ?_
                     rintro e1 w1 ⟨rfl, rfl⟩))
                go_ret
                exact hend.out 0 _ _ _ _ hst.out (hm4.out.set_at 1).1 (hc4.trans ((hm4.out.set_at 1).2.mono (fun k hk _ => .inl hk)) (fun _ h _ => h)) hF4
              · have hst := jr_none ho'.out h1.out hK.out hG.out he hw
                replace hst := Lib.hid hst
                go_wp2_with (first
                  | (go_at_call 140
                     refine hgc.out.mono ?_
                     rintro e4 w4 ⟨cs4, V4, rfl, hm4, hc4, hF4⟩
                     obtain ⟨x0, x2, x145, xf⟩ := hpost.out _ _ _ hm4
                     have xf2 := xf 2
                     have xf0 := xf 0
                     have xfw := xf (145 + 1)
                     replace hm4 := Lib.hid hm4)
                  | (go_at_call 141
                     refine (b_turn _ _ _ x0 xf0).mono ?_
                     rintro e5 w5 ⟨rfl, rfl⟩)
                  | (go_at_call 96
                     refine (b_stop false _ x2 xf2).mono ?_
                     rintro e5 w5 ⟨rfl, rfl⟩)
                  | (go_at_call 134
                     refine (b_over _ _ rfl).mono ?_
                     rintro e1 w1 ⟨rfl, rfl⟩))
                have hr := hnone.out _ _ _ _ hst.out rfl (hm4.out.set_over).1 (hc4.trans ((hm4.out.set_over).2.mono (fun k hk _ => .inl hk)) (fun _ h _ => h)) hF4
                go_roundg (jm (jrStep s).1)
                case measure => rw [hst.out]; exact hr.1
                case rel => rw [hst.out]; exact hr.2
            · have hst := jr_err ho'.out h1.out hK.out hG.out he
              have heI : (G.err != 0) = true := by simpa using he
              replace hst := Lib.hid hst
              go_wp2_with (first
                | (go_at_call 140
                   refine hgc.out.mono ?_
                   rintro e4 w4 ⟨cs4, V4, rfl, hm4, hc4, hF4⟩
                   obtain ⟨x0, x2, x145, xf⟩ := hpost.out _ _ _ hm4
                   have xf2 := xf 2
                   have xf0 := xf 0
                   have xfw := xf (145 + 1)
                   replace hm4 := Lib.hid hm4)
                | (go_at_call 141
                   refine (b_turn _ _ _ x0 xf0).mono ?_
                   rintro e5 w5 ⟨rfl, rfl⟩)
                | (go_at_call 96
                   refine (b_stop false _ x2 xf2).mono ?_
                   rintro e5 w5 ⟨rfl, rfl⟩)
                | (go_at_call 134
                   refine (b_over _ _ rfl).mono ?_
                   rintro e1 w1 ⟨rfl, rfl⟩))
              go_ret
              exact hend.out G.err _ _ _ _ hst.out (hm4.out.set_over).1 (hc4.trans ((hm4.out.set_over).2.mono (fun k hk _ => .inl hk)) (fun _ h _ => h)) hF4
      | false =>
        rw [hw1] at w146
        go_wp2_with (first
          | (go_at_call 134
             refine (b_over false _ k2).mono ?_
             rintro e1 w1 ⟨rfl, rfl⟩))
        go_loopw [3] (fun i wq => ∃ n : Nat, n ≤ 2 ∧ i = .int .i64 n ∧ wr = wq) (fun i _ => 2 - (intOf i).toNat)
        case atStart => exact ⟨0, Nat.zero_le _, rfl, rfl⟩
        case round =>
          obtain ⟨n, hn, rfl, rfl⟩ := hrel
          obtain rfl | rfl | rfl : n = 0 ∨ n = 1 ∨ n = 2 := by omega
          · go_wp2
            go_roundw
            case rel => exact ⟨1, by omega, by go_num, by trivial⟩
            case measure => simp [intOf]
          · go_wp2
            go_roundw
            case rel => exact ⟨2, by omega, by go_num, by trivial⟩
            case measure => simp [intOf]
          · skip
            have h1 : s.a.want 0 = false ∧ s.a.want 1 = false := ⟨hw0, hw1⟩
            have w73 : wr.cell? ⟨g, 73, none⟩ = some (strv (s.a.key 0)) := (hm.blk.cell _).trans (hm.key 0 (by omega))
            have w143 : wr.cell? ⟨g, 143, none⟩ = some (strv (s.a.key 1)) := (hm.blk.cell _).trans (hm.key 1 (by omega))
            have w147 : wr.cell? ⟨g, 147, none⟩ = some (.int .i64 s.a.pi) := (hm.blk.cell _).trans hm.pi
            obtain ⟨A2, c2, hV2, _⟩ := (hm.gown 0 (by omega)).rd
            rw [show (strs (s.a.ls 0)).length = (s.a.ls 0).length from List.length_map ..] at hV2
            have w74 : wr.cell? ⟨g, 74, none⟩ = some (.slice A2 (s.a.ls 0).length c2) := (hm.blk.cell _).trans ((hm.grp 0 (by omega)).trans (by rw [hV2]))
            have f1 := hfz 1
            have hkm := fun (W : World) (hW : Chg (fun _ => False) wr W) => hm.keep hW (fun _ _ h => h)
            replace hkm := Lib.hid hkm
            replace hm := Lib.hid hm
            clear hV2 k0 hfz
            by_cases h2 : s.a.key 0 = s.a.key 1 ∧ s.a.pi < (s.a.ls 0).length
            · have hst := jr_due ho' h1 h2
              replace hst := Lib.hid hst
              have b1 : (s.a.key 0 == s.a.key 1) = true := by rw [h2.1]; simp
              have b2 : (s.a.pi : Int) < ((s.a.ls 0).length : Int) := by have := h2.2; omega
              replace h2 := Lib.hid h2
              replace h1 := Lib.hid h1
              generalize s.a.key 0 = a0 at *
              generalize s.a.key 1 = a1 at *
              go_wp2
              go_quiet (fail)
              have hc5 : Chg (fun _ => False) wr (wr.drewN nq) := (Chg.refl _ wr).drewN nq
              have hm5 := hkm.out _ hc5
              generalize wr.drewN nq = w5 at *
              have l1 : w5.cell? ⟨g, 1, none⟩ = some (.bool s.more) := (hm5.blk.cell _).trans hm5.c1
              have l1f : w5.frozen? ⟨g, 1, none⟩ = false := hm5.blk.frozen _
              replace hm5 := Lib.hid hm5
              go_wp2_with (first
                | (go_at_call 138
                   refine (b_pieces _ _ _ l1 l1f).mono ?_
                   rintro e6 w6 ⟨rfl, rfl⟩))
              go_ret
              exact hend.out 0 _ _ _ _ hst.out (hm5.out.set_more true).1 (hc5.mono (fun _ h _ => h.elim) |>.trans ((hm5.out.set_more true).2.mono (fun k hk _ => .inl hk)) (fun _ h _ => h)) (fun x hx => .inl hx)
            · have hst := jr_next ho' h1 h2
              replace hst := Lib.hid hst
              replace h1 := Lib.hid h1
              by_cases hkk : s.a.key 0 = s.a.key 1
              · have b1 : (s.a.key 0 == s.a.key 1) = true := by rw [hkk]; simp
                have b2 : ¬ (s.a.pi : Int) < ((s.a.ls 0).length : Int) := by
                  have : ¬ s.a.pi < (s.a.ls 0).length := fun h => h2 ⟨hkk, h⟩
                  omega
                replace h2 := Lib.hid h2
                replace hkk := Lib.hid hkk
                generalize s.a.key 0 = a0 at *
                generalize s.a.key 1 = a1 at *
                go_wp2
                go_quiet (fail)
                have hc5 : Chg (fun _ => False) wr (wr.drewN nq) := (Chg.refl _ wr).drewN nq
                have hm5 := hkm.out _ hc5
                generalize wr.drewN nq = w5 at *
                have l1 : w5.cell? ⟨g, 1, none⟩ = some (.bool s.more) := (hm5.blk.cell _).trans hm5.c1
                have l1f : w5.frozen? ⟨g, 1, none⟩ = false := hm5.blk.frozen _
                have hm6 := hm5.set_more false
                have hc6 : Chg (jF g V) wr (w5.setCell ⟨g, 1, none⟩ (.bool false)) := (hc5.mono (fun _ h _ => h.elim)).trans (hm6.2.mono (fun k hk _ => .inl hk)) (fun _ h _ => h)
                have hnx := jnext_any g B _ fl _ V _ hm6.1
                replace hnx := Lib.hid hnx
                clear hm6
                replace hm5 := Lib.hid hm5
                go_wp2_with (first
                  | (go_at_call 138
                     refine (b_pieces _ _ _ l1 l1f).mono ?_
                     rintro e6 w6 ⟨rfl, rfl⟩)
                  | (go_at_call 139
                     refine hnx.out.mono ?_
                     rintro e7 w7 ⟨rfl, cs7, V7, hm7, hc7, hF7⟩
                     replace hm7 := Lib.hid hm7))
                have hr := hstep.out _ _ _ _ hst.out hm7.out (hc6.trans hc7 (fun _ h _ => h)) (fun x hx => (hF7 x hx).imp id (fun h => Nat.le_trans hc6.size h))
                go_roundg (jm (jrStep s).1)
                case measure => rw [hst.out]; exact hr.1
                case rel => rw [hst.out]; exact hr.2
              · have b1 : (s.a.key 0 == s.a.key 1) = false := by simpa using hkk
                replace h2 := Lib.hid h2
                replace hkk := Lib.hid hkk
                generalize s.a.key 0 = a0 at *
                generalize s.a.key 1 = a1 at *
                go_wp2
                go_quiet (fail)
                have hc5 : Chg (fun _ => False) wr (wr.drewN nq) := (Chg.refl _ wr).drewN nq
                have hm5 := hkm.out _ hc5
                generalize wr.drewN nq = w5 at *
                have l1 : w5.cell? ⟨g, 1, none⟩ = some (.bool s.more) := (hm5.blk.cell _).trans hm5.c1
                have l1f : w5.frozen? ⟨g, 1, none⟩ = false := hm5.blk.frozen _
                have hm6 := hm5.set_more false
                have hc6 : Chg (jF g V) wr (w5.setCell ⟨g, 1, none⟩ (.bool false)) := (hc5.mono (fun _ h _ => h.elim)).trans (hm6.2.mono (fun k hk _ => .inl hk)) (fun _ h _ => h)
                have hnx := jnext_any g B _ fl _ V _ hm6.1
                replace hnx := Lib.hid hnx
                clear hm6
                replace hm5 := Lib.hid hm5
                go_wp2_with (first
                  | (go_at_call 138
                     refine (b_pieces _ _ _ l1 l1f).mono ?_
                     rintro e6 w6 ⟨rfl, rfl⟩)
                  | (go_at_call 139
                     refine hnx.out.mono ?_
                     rintro e7 w7 ⟨rfl, cs7, V7, hm7, hc7, hF7⟩
                     replace hm7 := Lib.hid hm7))
                have hr := hstep.out _ _ _ _ hst.out hm7.out (hc6.trans hc7 (fun _ h _ => h)) (fun x hx => (hF7 x hx).imp id (fun h => Nat.le_trans hc6.size h))
                go_roundg (jm (jrStep s).1)
                case measure => rw [hst.out]; exact hr.1
                case rel => rw [hst.out]; exact hr.2
end Go.Proofs.Ytkgmbomfkdkofaa
