/- penstockref14's Means: what the document says of join. -/
import Derived.Test.YtkgmbomfkdkofaaSame
import Derived.Test.YtkgmbomfkdkofaaRef3C
import Derived.Test.YtkgmbomfkdkofaaReady
import Derived.Test.YtkgmbomfkdkofaaJoinK
import Derived.Lib.SmallJoins
import Derived.Test.YtkgmbomfkdkofaaJoinRfL
/- penstocklaw14: heavy and fit. -/
namespace Go.Proofs.Ytkgmbomfkdkofaa.Join
open Go Go.RowKit

def slv (t : Option Addr × Nat × Nat) : Value := .slice t.1 t.2.1 t.2.2

def heavyB (a b : Nat) (ins : List Strm) (cs : List (Option Addr × Nat × Nat)) : Bool :=
  if 1000 < a ∨ 1000 < b ∨ 8 < ins.length then true else if ins.any (fun s => decide (2000 < s.bs.length)) = true then true else cs.any (fun c => decide (3000 < c.2.1))

theorem any_take_succ {α : Type} (f : α → Bool) (l : List α) (k : Nat) (hk : k < l.length) : (l.take (k + 1)).any f = ((l.take k).any f || f l[k]) := by
  rw [List.take_succ_eq_append_getElem hk]; simp only [List.any_append, List.any_cons, List.any_nil, Bool.or_false]
theorem any_of_get {α : Type} (f : α → Bool) (l : List α) (k : Nat) (hk : k < l.length) (h : f l[k] = true) : l.any f = true :=
  List.any_eq_true.2 ⟨l[k], List.getElem_mem hk, h⟩

def BoolPost (w : World) (b : Bool) (e : Ending) (w' : World) : Prop := e = .returned (.bool b) ∧ Chg (fun _ => False) w w'

set_option maxHeartbeats 1000000 in
set_option maxRecDepth 100000 in
theorem heavy_any (D : Nat → Prop) (pk pn : Int) (pA pB : Option Addr) (la ca lb cb : Nat) (A C : Option Addr) (ci cc : Nat) (ins : List Strm) (cs : List (Option Addr × Nat × Nat)) (w : World)
    (hla : la ≤ maxLen) (hlb : lb ≤ maxLen) (hil : ins.length ≤ maxLen) (hins : StrmsAt w D (.slice A ins.length ci) ins) (hbl : ∀ s ∈ ins, s.bs.length ≤ maxLen)
    (hcs : Rd w D 1 C cs.length (cs.map slv)) (hcl : cs.length ≤ 4) (hcm : ∀ c ∈ cs, c.2.1 ≤ maxLen) :
    Calls Try.prog 14 #[.agg #[.int .i64 pk, .int .i64 pn, .slice pA la ca, .slice pB lb cb], .slice A ins.length ci, .slice C cs.length cc] w (BoolPost w (heavyB la lb ins cs)) := by
  unfold maxLen at hla hlb hil hbl hcm
  by_cases h1 : 1000 < la ∨ 1000 < lb ∨ 8 < ins.length
  · have e : heavyB la lb ins cs = true := by unfold heavyB; rw [if_pos h1]
    rw [e]
    clear hins hbl hcs e
    by_cases ha : (1000 : Int) < (la : Int)
    · have ha2 : decide (1000 < la) = true := decide_eq_true (by omega)
      clear h1
      go_enter Try.func14, Try.ntmps14
      go_wp2
      go_ret
      exact ⟨rfl, (Chg.refl _ _).alloc _⟩
    · by_cases hb : (1000 : Int) < (lb : Int)
      · clear h1
        go_enter Try.func14, Try.ntmps14
        go_wp2
        go_ret
        exact ⟨rfl, (Chg.refl _ _).alloc _⟩
      · have hc : (8 : Int) < (ins.length : Int) := by omega
        clear h1
        go_enter Try.func14, Try.ntmps14
        go_wp2
        go_ret
        exact ⟨rfl, (Chg.refl _ _).alloc _⟩
  · have ha : ¬ (1000 : Int) < (la : Int) := by omega
    have hb : ¬ (1000 : Int) < (lb : Int) := by omega
    have hc : ¬ (8 : Int) < (ins.length : Int) := by omega
    have hil2 : (ins.length : Int) ≤ 8 := by omega
    have e0 : heavyB la lb ins cs = (if ins.any (fun s => decide (2000 < s.bs.length)) = true then true else cs.any (fun c => decide (3000 < c.2.1))) := by unfold heavyB; rw [if_neg h1]
    replace e0 := Lib.hid e0
    clear h1
    have hins' := hins.chg ((Chg.refl (fun _ => False) w).alloc (.cells #[.int .i64 pk, .int .i64 pn, .slice pA la ca, .slice pB lb cb] 24)) (fun _ _ _ h => h)
    have hcs' := hcs.chg ((Chg.refl (fun _ => False) w).alloc (.cells #[.int .i64 pk, .int .i64 pn, .slice pA la ca, .slice pB lb cb] 24)) (fun _ _ _ h => h)
    have hch : Chg (fun _ => False) w (w.alloc (.cells #[.int .i64 pk, .int .i64 pn, .slice pA la ca, .slice pB lb cb] 24)) := (Chg.refl _ _).alloc _
    clear hins hcs
    go_enter Try.func14, Try.ntmps14
    go_wp2
    generalize w.alloc (.cells #[.int .i64 pk, .int .i64 pn, .slice pA la ca, .slice pB lb cb] 24) = w0 at *
    go_loop [7] (fun i => ∃ k : Nat, k ≤ ins.length ∧ i = .int .i64 k ∧ (ins.take k).any (fun s => decide (2000 < s.bs.length)) = false) (fun i => ins.length - (intOf i).toNat)
    case atStart => exact ⟨0, by omega, rfl, by simp⟩
    case round =>
      obtain ⟨k, hk, rfl, hno⟩ := hrel
      by_cases hlt : k < ins.length
      · obtain ⟨z0, g2, o2, A2, c2, rfl, hg2, z1, q0, z2⟩ := strs_bs hins' hlt
        clear z0 z1 z2
        have hbk := hbl _ (List.getElem_mem hlt)
        have hlt' : (k : Int) < (ins.length : Int) := by omega
        have hk0 : (0 : Int) ≤ (k : Int) := by omega
        have hsn := any_take_succ (fun s : Strm => decide (2000 < s.bs.length)) ins k hlt
        have hyes := any_of_get (fun s : Strm => decide (2000 < s.bs.length)) ins k hlt
        rw [hno, Bool.false_or] at hsn
        generalize ins[k].bs.length = m at *
        by_cases hm : (2000 : Int) < (m : Int)
        · have hy := Lib.hid (hyes (decide_eq_true (by omega)))
          clear hsn hyes hno hins' hcs' hbl hcm
          go_wp2
          go_ret
          rw [e0.out, hy.out]
          exact ⟨rfl, hch⟩
        · rw [decide_eq_false (by omega : ¬ 2000 < m)] at hsn
          clear hyes hno hins' hcs' hbl hcm
          replace hsn := Lib.hid hsn
          go_wp2
          go_round
          case rel => exact ⟨k + 1, by omega, by go_num, hsn.out⟩
          case measure => simp [intOf]; omega
      · have hlt' : ¬ (k : Int) < (ins.length : Int) := by omega
        rw [List.take_of_length_le (by omega)] at hno
        have e1 := e0.out
        rw [hno, if_neg (by simp)] at e1
        replace e1 := Lib.hid e1
        clear hno hins' hbl e0
        go_wp2
        go_loop [8] (fun i => ∃ k : Nat, k ≤ cs.length ∧ i = .int .i64 k ∧ (cs.take k).any (fun c => decide (3000 < c.2.1)) = false) (fun i => cs.length - (intOf i).toNat)
        case atStart => exact ⟨0, by omega, rfl, by simp⟩
        case round =>
          obtain ⟨k2, hk2, rfl, hno⟩ := hrel
          by_cases hl2 : k2 < cs.length
          · obtain ⟨g2, o2, v2, rfl, hg2, z1, hv2, hc2⟩ := hcs'.at_ hl2
            simp only [List.getElem?_map, List.getElem?_eq_getElem hl2, Option.map_some, Option.some.injEq] at hv2
            have hck := hcm _ (List.getElem_mem hl2)
            have hlt' : (k2 : Int) < (cs.length : Int) := by omega
            have hk0 : (0 : Int) ≤ (k2 : Int) := by omega
            have hsn := any_take_succ (fun c : Option Addr × Nat × Nat => decide (3000 < c.2.1)) cs k2 hl2
            have hyes := any_of_get (fun c : Option Addr × Nat × Nat => decide (3000 < c.2.1)) cs k2 hl2
            rw [hno, Bool.false_or] at hsn
            rw [← hv2, slv] at hc2
            clear hv2 z1
            generalize cs[k2].2.1 = m at *
            generalize cs[k2].1 = mA at *
            generalize cs[k2].2.2 = mc at *
            by_cases hm : (3000 : Int) < (m : Int)
            · have hy := Lib.hid (hyes (decide_eq_true (by omega)))
              clear hsn hyes hno hcs' hcm
              go_wp2
              go_ret
              rw [e1.out, hy.out]
              exact ⟨rfl, hch⟩
            · rw [decide_eq_false (by omega : ¬ 3000 < m)] at hsn
              clear hyes hno hcs' hcm
              replace hsn := Lib.hid hsn
              go_wp2
              go_round
              case rel => exact ⟨k2 + 1, by omega, by go_num, hsn.out⟩
              case measure => simp [intOf]; omega
          · have hlt' : ¬ (k2 : Int) < (cs.length : Int) := by omega
            rw [List.take_of_length_le (by omega)] at hno
            replace hno := Lib.hid hno
            clear hcs' hcm
            go_wp2
            go_ret
            rw [e1.out, hno.out]
            exact ⟨rfl, hch⟩
end Go.Proofs.Ytkgmbomfkdkofaa.Join

/- Literals in memory: bytes, streams, parameters. -/
namespace Go.Proofs.Ytkgmbomfkdkofaa
open Go Go.RowKit

theorem bs_new {w : World} {g : Nat} {T : TypeId} {cs : Array Value} {fr : Nat × Nat} (D : Nat → Prop) (bs : Bs) (hcs : cs.toList = u8s bs) (hg : w.heap.size = g) (hD : D g) : Rd (w.alloc (.cells cs T fr)) D 1 (some ⟨g, 0, none⟩) bs.length (u8s bs) := by
  subst hg
  refine ⟨by simp [u8s], fun _ => ⟨w.heap.size, 0, rfl, by simp, hD, fun j u hu => ?_⟩⟩
  rw [Nat.zero_add, cell_of_row _ _ j _ _ _ (heap_alloc_new w _), ← hu, ← hcs]
  simp

theorem is_new {w : World} {g : Nat} {T : TypeId} {cs : Array Value} (D : Nat → Prop) (l : List Int) (hcs : cs.toList = i64s l) (hg : w.heap.size = g) (hD : D g) : Rd (w.alloc (.cells cs T)) D 1 (some ⟨g, 0, none⟩) l.length (i64s l) := by
  subst hg
  refine ⟨by simp [i64s], fun _ => ⟨w.heap.size, 0, rfl, by simp, hD, fun j u hu => ?_⟩⟩
  rw [Nat.zero_add, cell_of_row _ _ j _ _ _ (heap_alloc_new w _), ← hu, ← hcs]
  simp

theorem strms_new {w : World} {g : Nat} {T : TypeId} {cs : Array Value} (D : Nat → Prop) (its : List (Strm × Value)) (hcs : cs.toList = its.flatMap strmC) (hg : w.heap.size = g) (hD : D g) (h : ∀ t ∈ its, BsAt w D t.2 t.1.bs ∧ CapOk t.2) :
    StrmsAt (w.alloc (.cells cs T)) D (.slice (some ⟨g, 0, none⟩) its.length its.length) (its.map fun t => t.1) := by
  subst hg
  have hl : (its.flatMap strmC).length = its.length * 5 := by
    clear hcs h
    induction its with
    | nil => rfl
    | cons t r ih => rw [List.flatMap_cons, List.length_append, ih, List.length_cons]; show 5 + _ = _; omega
  have e : (its.map fun t => t.1).length = its.length := by simp
  refine ⟨some ⟨w.heap.size, 0, none⟩, its.length, its, by rw [e], rfl, ⟨by rw [e, hl], fun _ => ⟨w.heap.size, 0, rfl, by simp, hD, fun j u hu => ?_⟩⟩, fun t ht => ⟨(h t ht).1.chg ((Chg.refl (fun _ => False) w).alloc _) (fun _ _ _ h => h), (h t ht).2⟩⟩
  rw [Nat.zero_add, cell_of_row _ _ j _ _ _ (heap_alloc_new w _), ← hu, ← hcs]
  simp

theorem prm_lit (w : World) (k n : Int) : PAt w (fun _ => True) (.agg #[.int .i64 k, .int .i64 n, .slice none 0 0, .slice none 0 0]) ⟨k, n, [], []⟩ :=
  ⟨none, 0, none, 0, rfl, Rd.nil _ _ _ _, Rd.nil _ _ _ _⟩
theorem capOk_slice {A : Option Addr} {n c : Nat} (h : n ≤ c) : CapOk (.slice A n c) := fun _ _ _ e => by cases e; exact h
end Go.Proofs.Ytkgmbomfkdkofaa

/- penstocklaw14: fit. -/
namespace Go.Proofs.Ytkgmbomfkdkofaa.Join
open Go Go.RowKit

def fitB (p : Prm) (n : Nat) : Bool := (refCheck p == 0 && p.kind == kind) && ((n : Int) == (refArity p).1)

theorem fitB_true {p : Prm} {ins : List Strm} (h : fitB p ins.length = true) : fitI p ins := by
  unfold fitB at h
  simp only [Bool.and_eq_true, beq_iff_eq] at h
  exact ⟨h.1, h.2⟩

theorem heavyB_false {a b : Nat} {ins : List Strm} {cs : List (Option Addr × Nat × Nat)} (h : heavyB a b ins cs = false) : a ≤ 1000 ∧ b ≤ 1000 ∧ ins.length ≤ 8 ∧ (∀ s ∈ ins, s.bs.length ≤ 2000) ∧ ∀ c ∈ cs, c.2.1 ≤ 3000 := by
  unfold heavyB at h
  split at h
  · cases h
  · rename_i h1
    split at h
    · cases h
    · rename_i h2
      refine ⟨by omega, by omega, by omega, fun s hs => ?_, fun c hc => ?_⟩
      · rcases Nat.lt_or_ge 2000 s.bs.length with h3 | h3
        · exact absurd (List.any_eq_true.2 ⟨s, hs, decide_eq_true h3⟩) h2
        · exact h3
      · rcases Nat.lt_or_ge 3000 c.2.1 with h3 | h3
        · rw [List.any_eq_true.2 ⟨c, hc, decide_eq_true h3⟩] at h; cases h
        · exact h3

theorem row_new {w : World} {g : Nat} {T : TypeId} (cs : Array Value) (n : Nat) (hn : cs.size = n) (hg : w.heap.size = g) : Rd (w.alloc (.cells cs T)) (fun _ => True) 1 (some ⟨g, 0, none⟩) n cs.toList := by
  subst hg hn
  refine ⟨by simp, fun _ => ⟨w.heap.size, 0, rfl, by simp, trivial, fun j u hu => ?_⟩⟩
  rw [Nat.zero_add, cell_of_row _ _ j _ _ (0, 0) (heap_alloc_new w _), ← hu]
  simp

set_option maxHeartbeats 400000 in
set_option maxRecDepth 100000 in
theorem fit_any (D : Nat → Prop) (p : Prm) (hp : p.Fine) (v : Value) (w : World) (h : PAt w D v p) (A : Option Addr) (n ci : Nat) :
    Calls Try.prog 17 #[v, .slice A n ci] w (BoolPost w (fitB p n)) := by
  have har := fun (W : World) (hW : Chg (fun _ => False) w W) => arity_any D p hp v W (h.chg hW (fun _ _ _ h => h))
  unfold ArPost at har
  have e : fitB p n = ((refCheck p == 0 && p.kind == 14) && ((n : Int) == (refArity p).1)) := rfl
  rw [e]
  clear e
  obtain ⟨A1, ca, B1, cb, rfl, _, _⟩ := h
  have hst : Blk (w.alloc (.cells #[.int .i64 p.kind, .int .i64 p.n, .slice A1 p.a.length ca, .slice B1 p.b.length cb] 24)) w.heap.size 24 #[.int .i64 p.kind, .int .i64 p.n, .slice A1 p.a.length ca, .slice B1 p.b.length cb] := Blk.new _ _ _
  replace har := Lib.hid har
  generalize hrc : refCheck p = rc at *
  generalize hra : refArity p = ra at *
  replace hrc := Lib.hid hrc
  replace hra := Lib.hid hra
  obtain ⟨β0, h0⟩ := bool_any (rc == 0)
  obtain ⟨β1, h1⟩ := bool_any (p.kind == 14)
  obtain ⟨β2, h2⟩ := bool_any ((n : Int) == ra.1)
  rw [h0, h1, h2]
  cases β0 <;> cases β1 <;> cases β2
  all_goals
    go_enter Try.func17, Try.ntmps17
    go_wp2_with (first
      | (go_at_call 29
         refine (har.out _ ((Chg.refl _ _).alloc _)).mono ?_
         rintro e1 w1 ⟨rfl, hc1⟩
         have q0 : w1.cell? ⟨w.heap.size, 0, none⟩ = some (.int .i64 p.kind) := ((hst.chg hc1 (fun h => h)).cell 0).trans rfl))
    go_ret
    exact ⟨rfl, ((Chg.refl _ _).alloc _).trans hc1 (fun _ h _ => h)⟩
end Go.Proofs.Ytkgmbomfkdkofaa.Join

/- penstocklaw14: awake. -/
namespace Go.Proofs.Ytkgmbomfkdkofaa.Join
open Go Go.RowKit

def awIns : List Strm := [⟨[97, 58, 49, 10, 98, 58, 50, 10, 98, 58, 51, 10, 100], true, 0, 0, 0⟩, ⟨[98, 58, 120, 10, 99, 10, 100, 58, 121], true, 0, 0, 0⟩]
def awP : Prm := ⟨14, 3, [58], []⟩
theorem aw_fit : fitI awP awIns := ⟨⟨by decide, rfl⟩, by decide⟩
theorem aw_den : (den awP awIns).outs 0 = [98, 58, 50, 58, 120, 10, 98, 58, 51, 58, 120, 10, 100, 58, 58, 121, 10] ∧ (den awP awIns).need = -1 ∧ (den awP awIns).err = 0 := ⟨by decide +kernel, by decide +kernel, by decide +kernel⟩
theorem prm_lit1 (w : World) (T : TypeId) (fr : Nat × Nat) (k n : Int) (x : UInt8) : PAt (w.alloc (.cells #[.int .u8 x.toNat] T fr)) (fun _ => True) (.agg #[.int .i64 k, .int .i64 n, .slice (some ⟨w.heap.size, 0, none⟩) 1 1, .slice none 0 0]) ⟨k, n, [x], []⟩ :=
  ⟨some ⟨w.heap.size, 0, none⟩, 1, none, 0, rfl, bs_new _ [x] rfl rfl trivial, Rd.nil _ _ _ _⟩

theorem nil_no (a : Addr) (w : World) : (binOp .eql 31 (.iface 72 (.pointer (some a))) .nilIface).run Try.prog w = .ok (.bool false) w := by kernel_rfl

set_option maxHeartbeats 1000000 in
set_option maxRecDepth 100000 in
theorem awake_any (B : Nat) (w : World) (hB : B ≤ w.heap.size) (_ : E B w) : Calls Try.prog 15 #[] w (TruePost w) := by
  have hd := drive_ok awP awIns aw_fit (by decide) [2]
  have hnil := nil_no
  have hcv := fun (W : World) (C : Array Value) (n c g : Nat) (hg : g = W.heap.size) => Go.Joins.run_convert_bytes_const_at (P := Try.prog) W 22 5 C n c g hg Try.underlying22 Try.underlying5
  obtain ⟨d1, d2, d3⟩ := aw_den
  replace hd := Lib.hid hd
  replace d1 := Lib.hid d1
  replace d2 := Lib.hid d2
  replace d3 := Lib.hid d3
  go_enter Try.func15, Try.ntmps15
  go_wp2_with (first
    | (go_at_call 16
       refine (new_any (fun _ => True) awP aw_fit.1 _ _ (prm_lit1 w _ _ 14 3 58) B (by simp; omega) trivial).mono ?_
       rintro e1 w1 ⟨g, F, rfl, hr1, hF1, hc1⟩)
    | (go_at_call 18
       refine (drive_ready (hr1.chg (((((Chg.refl (fun _ => False) w1).alloc _).alloc _).alloc _).alloc _) (fun _ _ h => h) (fun _ h => h.elim)) awIns [2] _ _ hd.out _ _ _ _ (fun k => w1.heap.size ≤ k) ?_ ?_ ?_ (by decide) (by decide)).mono ?_
       rotate_left 3
       rintro e2 w2 ⟨dd, F', rfl, hh, hh0, hc2, hr2, hF2⟩)
    | (refine wpList_store_got rfl (.tmp 3) (.tmp 26) rfl w2.heap.size _ _ _ _ _ _ rfl rfl _ (Blk.new w2 _ _) rfl ?_
       intro w3 hG3 hc3
       have g0 : w3.cell? ⟨w2.heap.size, 0, none⟩ = some (strv [98, 58, 50, 58, 120, 10, 98, 58, 51, 58, 120, 10, 100, 58, 58, 121, 10]) := (hG3.cell 0).trans (by rw [← d1.out]; rfl)
       have g4 : w3.cell? ⟨w2.heap.size, 4, none⟩ = some (.int .i64 (-1)) := (hG3.cell 4).trans (by rw [← d2.out]; rfl)
       have g5 : w3.cell? ⟨w2.heap.size, 5, none⟩ = some (.int .i64 0) := (hG3.cell 5).trans (by rw [← d3.out]; rfl)
       have g11 : w3.cell? ⟨w2.heap.size, 11, none⟩ = some (.bool false) := (hG3.cell 11).trans rfl))
  · go_ret
    refine ⟨rfl, ?_⟩
    have hi := hr1.inside
    have k2 : Chg F w1 w2 := ((((Chg.refl F w1).alloc _).alloc _).alloc _).alloc _ |>.trans hc2 (fun _ h _ => h)
    have k3 : Chg F w1 w3 := (k2.alloc _).trans hc3 (fun k hk hlt => by have := k2.size; omega)
    exact ((Chg.refl (fun _ => False) w).alloc _).trans (hc1.trans k3 (fun k hk hlt => by have := hF1 k hk; omega)) (fun _ h _ => h)
  · exact ((strms_new (fun k => w1.heap.size ≤ k) [(⟨[97, 58, 49, 10, 98, 58, 50, 10, 98, 58, 51, 10, 100], true, 0, 0, 0⟩, .slice (some ⟨w1.heap.size, 0, none⟩) 13 13), (⟨[98, 58, 120, 10, 99, 10, 100, 58, 121], true, 0, 0, 0⟩, .slice (some ⟨w1.heap.size + 1, 0, none⟩) 9 9)] rfl (by simp) (by show w1.heap.size ≤ _; omega) (by
      intro t ht
      simp at ht
      rcases ht with rfl | rfl
      · exact ⟨⟨_, _, rfl, (bs_new _ [97, 58, 49, 10, 98, 58, 50, 10, 98, 58, 51, 10, 100] rfl rfl (Nat.le_refl _)).chg ((Chg.refl (fun _ => False) _).alloc _) (fun _ _ _ h => h)⟩, capOk_slice (Nat.le_refl _)⟩
      · exact ⟨⟨_, _, rfl, bs_new _ [98, 58, 120, 10, 99, 10, 100, 58, 121] rfl (by simp) (by omega)⟩, capOk_slice (Nat.le_refl _)⟩)).chg ((Chg.refl (fun _ => False) _).alloc _) (fun _ _ _ h => h))
  · exact is_new _ [2] rfl (by simp) (by omega)
  · exact fun k hk hF => by have := (hr1.inside.2.1 k hF).2; omega
end Go.Proofs.Ytkgmbomfkdkofaa.Join

/- penstockref14's Means: what the document says of join. -/
namespace Go.Proofs.Ytkgmbomfkdkofaa.Join
open Go Go.RowKit

def means (p : Prm) (ins : List Strm) : List Strm := joMeans (byte p) p.n.toNat ins
theorem fit_two {p : Prm} {ins : List Strm} (h : fitI p ins) : ins.length = 2 := by
  have hn := fit_n h.1
  have hi := h.2
  rw [hn.2.2.2.1] at hi
  dsimp only at hi
  omega
theorem same_ok (p : Prm) (ins : List Strm) (h : fitI p ins) (_ : ∀ s ∈ ins, s.bs.length ≤ 4000) : SameOk (den p ins) ins (means p ins) := join_same (byte p) p.n.toNat ins (fit_two h)
theorem refOut_len (b : Bs) (all : Bool) (c st id : Int) : (refOut b all c st id).length = 1 := by cases all <;> rfl
theorem means_len (p : Prm) (ins : List Strm) (_ : fitI p ins) : (means p ins).length ≤ 100 := by
  unfold means joMeans
  split
  · split
    · rw [refOut_len]; omega
    · rw [refOut_len]; omega
  · rw [refOut_len]; omega
theorem means_any (D : Nat → Prop) (p : Prm) (ins : List Strm) (hf : fitI p ins) (hl : ∀ s ∈ ins, s.bs.length ≤ 4000) (v : Value) (A : Option Addr) (ci : Nat) (w : World)
    (hv : PAt w D v p) (hins : StrmsAt w D (.slice A ins.length ci) ins) :
    Calls Try.prog 20 #[v, .slice A ins.length ci] w (OutPost w (means p ins)) := by
  have hn := fit_n hf.1
  obtain ⟨N, hN⟩ : ∃ N : Nat, p.n = N := ⟨p.n.toNat, by omega⟩
  obtain ⟨A1, ca, B1, cb, rfl, hA, _⟩ := hv
  obtain ⟨ga, oa, va, rfl, hga, _, hva, hca⟩ := hA.at_ (show 0 < p.a.length by rw [hn.2.2.1]; simp)
  have hva2 : va = .int .u8 (byte p).toNat := by rw [hn.2.2.1] at hva; injection hva with e; exact e.symm
  have hal : p.a.length = 1 := by rw [hn.2.2.1]; rfl
  subst hva2
  unfold means
  rw [hN, hal]
  exact rounds_any D p.kind N (byte p) ins (fit_two hf) (by omega) (by omega) hl _ _ ga oa ca ci A w rfl hga hca hins
end Go.Proofs.Ytkgmbomfkdkofaa.Join
