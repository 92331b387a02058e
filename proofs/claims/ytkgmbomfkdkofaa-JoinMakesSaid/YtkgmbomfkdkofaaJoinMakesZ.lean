/- JoinMakes: which parameters are taken: the function returns true for every input, and its arguments read as before. No conditions. -/
import Derived.Test.YtkgmbomfkdkofaaJoinFit
import Derived.Test.YtkgmbomfkdkofaaLit
import Derived.Lib.SmallJoins
import Derived.Test.YtkgmbomfkdkofaaFresh
import Derived.Test.YtkgmbomfkdkofaaDrive
import Derived.Outline
import Derived.Lib.SliceRun
import Derived.Test.YtkgmbomfkdkofaaStrm
import Derived.Shelf.SlicesE.Compact
import Derived.Shelf.SlicesE.Index
import Derived.Test.YtkgmbomfkdkofaaSortH
import Derived.Test.YtkgmbomfkdkofaaChk
import Derived.Test.YtkgmbomfkdkofaaChk2
import Derived.Test.YtkgmbomfkdkofaaJoinK
import Derived.Test.YtkgmbomfkdkofaaRef3C
import Derived.Test.YtkgmbomfkdkofaaSame
import Derived.Test.YtkgmbomfkdkofaaRef4B
import Derived.BigQuiet
import Derived.ProofKit
import Derived.OpenShut
import Derived.Deep.Slices
import Derived.Deep.Strs
import Derived.Carry
import Derived.Test.YtkgmbomfkdkofaaRows
import Derived.WalkKit
/- penstocklaw14: awake. -/
namespace Go.Proofs.Ytkgmbomfkdkofaa.Join
open Go Go.RowKit

def awIns : List Strm := [⟨[97, 58, 49, 10, 98, 58, 50, 10, 98, 58, 51, 10, 100], true, 0, 0, 0⟩, ⟨[98, 58, 120, 10, 99, 10, 100, 58, 121], true, 0, 0, 0⟩]
def awP : Prm := ⟨14, 3, [58], []⟩
theorem aw_fit : fitI awP awIns := ⟨⟨by decide, rfl⟩, by decide⟩
theorem aw_den : (den awP awIns).outs 0 = [98, 58, 50, 58, 120, 10, 98, 58, 51, 58, 120, 10, 100, 58, 58, 121, 10] ∧ (den awP awIns).need = -1 ∧ (den awP awIns).err = 0 := ⟨by decide +kernel, by decide +kernel, by decide +kernel⟩
theorem prm_lit1 (w : World) (T : TypeId) (fr : Nat × Nat) (k n : Int) (x : UInt8) : PAt (w.alloc (.cells #[.int .u8 x.toNat] T fr)) (fun _ => True) (.agg #[.int .i64 k, .int .i64 n, .slice (some ⟨w.heap.size, 0, none⟩) 1 1, .slice none 0 0]) ⟨k, n, [x], []⟩ :=
  ⟨some ⟨w.heap.size, 0, none⟩, 1, none, 0, rfl, bs_new _ [x] rfl rfl trivial, Rd.nil _ _ _ _⟩

theorem nil_no (a : Addr) (w : World) : (binOp .eql 31 (.iface 72 (.pointer (some a))) .nilIface).run Try.prog w = .ok (.bool false) w := by kernel_rfl

set_option maxHeartbeats 1000000 in
set_option maxRecDepth 100000 in
theorem awake_any (B : Nat) (w : World) (hB : B ≤ w.heap.size) (_ : E B w) : Calls Try.prog 15 #[] w (TruePost w) := by
  have hd := drive_ok awP awIns aw_fit (by decide) [2]
  have hnil := nil_no
  have hcv := fun (W : World) (C : Array Value) (n c g : Nat) (hg : g = W.heap.size) => Go.Joins.run_convert_bytes_const_at (P := Try.prog) W 22 5 C n c g hg Try.underlying22 Try.underlying5
  obtain ⟨d1, d2, d3⟩ := aw_den
  replace hd := Lib.hid hd
  replace d1 := Lib.hid d1
  replace d2 := Lib.hid d2
  replace d3 := Lib.hid d3
  go_enter Try.func15, Try.ntmps15
  go_wp2_with (first
    | (go_at_call 16
       refine (new_any (fun _ => True) awP aw_fit.1 _ _ (prm_lit1 w _ _ 14 3 58) B (by simp; omega) trivial).mono ?_
       rintro e1 w1 ⟨g, F, rfl, hr1, hF1, hc1⟩)
    | (go_at_call 18
       refine (drive_ready (hr1.chg (((((Chg.refl (fun _ => False) w1).alloc _).alloc _).alloc _).alloc _) (fun _ _ h => h) (fun _ h => h.elim)) awIns [2] _ _ hd.out _ _ _ _ (fun k => w1.heap.size ≤ k) ?_ ?_ ?_ (by decide) (by decide)).mono ?_
       rotate_left 3
       rintro e2 w2 ⟨dd, F', rfl, hh, hh0, hc2, hr2, hF2⟩)
    | (refine wpList_store_got rfl (.tmp 3) (.tmp 26) rfl w2.heap.size _ _ _ _ _ _ rfl rfl _ (Blk.new w2 _ _) rfl ?_
       intro w3 hG3 hc3
       have g0 : w3.cell? ⟨w2.heap.size, 0, none⟩ = some (strv [98, 58, 50, 58, 120, 10, 98, 58, 51, 58, 120, 10, 100, 58, 58, 121, 10]) := (hG3.cell 0).trans (by rw [← d1.out]; rfl)
       have g4 : w3.cell? ⟨w2.heap.size, 4, none⟩ = some (.int .i64 (-1)) := (hG3.cell 4).trans (by rw [← d2.out]; rfl)
       have g5 : w3.cell? ⟨w2.heap.size, 5, none⟩ = some (.int .i64 0) := (hG3.cell 5).trans (by rw [← d3.out]; rfl)
       have g11 : w3.cell? ⟨w2.heap.size, 11, none⟩ = some (.bool false) := (hG3.cell 11).trans rfl))
  · go_ret
    refine ⟨rfl, ?_⟩
    have hi := hr1.inside
    have k2 : Chg F w1 w2 := ((((Chg.refl F w1).alloc _).alloc _).alloc _).alloc _ |>.trans hc2 (fun _ h _ => h)
    have k3 : Chg F w1 w3 := (k2.alloc _).trans hc3 (fun k hk hlt => by have := k2.size; omega)
    exact ((Chg.refl (fun _ => False) w).alloc _).trans (hc1.trans k3 (fun k hk hlt => by have := hF1 k hk; omega)) (fun _ h _ => h)
  · exact ((strms_new (fun k => w1.heap.size ≤ k) [(⟨[97, 58, 49, 10, 98, 58, 50, 10, 98, 58, 51, 10, 100], true, 0, 0, 0⟩, .slice (some ⟨w1.heap.size, 0, none⟩) 13 13), (⟨[98, 58, 120, 10, 99, 10, 100, 58, 121], true, 0, 0, 0⟩, .slice (some ⟨w1.heap.size + 1, 0, none⟩) 9 9)] rfl (by simp) (by show w1.heap.size ≤ _; omega) (by
      intro t ht
      simp at ht
      rcases ht with rfl | rfl
      · exact ⟨⟨_, _, rfl, (bs_new _ [97, 58, 49, 10, 98, 58, 50, 10, 98, 58, 51, 10, 100] rfl rfl (Nat.le_refl _)).chg ((Chg.refl (fun _ => False) _).alloc _) (fun _ _ _ h => h)⟩, capOk_slice (Nat.le_refl _)⟩
      · exact ⟨⟨_, _, rfl, bs_new _ [98, 58, 120, 10, 99, 10, 100, 58, 121] rfl (by simp) (by omega)⟩, capOk_slice (Nat.le_refl _)⟩)).chg ((Chg.refl (fun _ => False) _).alloc _) (fun _ _ _ h => h))
  · exact is_new _ [2] rfl (by simp) (by omega)
  · exact fun k hk hF => by have := (hr1.inside.2.1 k hF).2; omega
end Go.Proofs.Ytkgmbomfkdkofaa.Join

/- slices.Clone at bytes, and what the Base of a machine answers. -/
namespace Go.Proofs.Ytkgmbomfkdkofaa
open Go Go.RowKit

def ClonePost (w : World) (bs : Bs) (e : Ending) (w' : World) : Prop :=
  ∃ A' c', e = .returned (.slice A' bs.length c') ∧ Rd w' (fun k => w.heap.size ≤ k) 1 A' bs.length (u8s bs) ∧ Below w.heap.size w w'

set_option maxRecDepth 100000 in
theorem clone_any (D : Nat → Prop) (A : Option Addr) (c : Nat) (bs : Bs) (w : World) (hr : Rd w D 1 A bs.length (u8s bs)) (h0 : 0 < bs.length) (hl : bs.length ≤ 100000) :
    Calls Try.prog 47 #[.slice A bs.length c] w (ClonePost w bs) := by
  obtain ⟨i0, hi0, hz0, hz1, hz2⟩ := info_parts info_u8
  obtain ⟨g, o, rfl, hg, hD, hc⟩ := hr.2 h0
  have qT : ∀ (w : World) (a : Option Addr) (n c n' c' : Nat), (binOp .eql 22 (.slice a n c) (.slice none n' c')).run Try.prog w = .ok (.bool a.isNone) w := fun w a n c n' c' => Lib.run_eql_slice_nil w _ _ a n c n' c' Try.underlying22
  have hr' := hr.chg ((Chg.refl (fun _ => False) w).alloc (.cells #[] 5)) (fun _ _ _ h => h)
  go_enter Try.func47, Try.ntmps47
  go_wp2_with (first
    | (at_builtin
       refine wpList_append_fresh _ (by rfl) (.tmp 5) (.tmp 6) 22 (by rfl) 5 i0 _ 1 1 Try.underlying22 hi0 hz0 hz1 hz2 (by rfl) (by omega) _ (by rfl) D _ bs.length c (u8s bs) (by rfl) hr' (u8s_one _) (by simp only [maxLen]; omega) (by omega) ?_
       intro A' c' w' hcc hr2 hb2))
  go_ret
  exact ⟨A', c', rfl, hr2.mono (fun k hk _ => by simp at hk; omega), ((Below.refl _ _).alloc (Nat.le_refl _) _).trans (hb2.mono (by simp))⟩
end Go.Proofs.Ytkgmbomfkdkofaa

/- The contracts of slices.Contains and slices.Compact at bytes (the shelf's, laid at this program). -/
namespace Go.Proofs.Ytkgmbomfkdkofaa
open Go Go.Shelf Go.RowKit
def slren : Go.Shelf.Ren := ⟨fun | 29 => 50 | 31 => 46 | 43 => 49 | n => n, fun | 0 => 0 | 3 => 3 | 4 => 4 | 22 => 22 | 23 => 5 | n => n, fun | n => n⟩
theorem lay43 : SlLaysE.n43 Try.prog slren := {
  mixed := by kernel_rfl
  f43 := ⟨"slices.Compact[[]byte,byte]", rfl, Try.func49.trans (congrArg some (by kernel_rfl))⟩
  t0 := Try.underlying0
  a0 := Try.isAgg0
  z0 := Try.sizeOf0
  v0 := Try.zeroValue0
  t3 := Try.underlying3
  a3 := Try.isAgg3
  z3 := Try.sizeOf3
  v3 := Try.zeroValue3
  t4 := Try.underlying4
  a4 := Try.isAgg4
  z4 := Try.sizeOf4
  v4 := Try.zeroValue4
  t22 := Try.underlying22
  a22 := Try.isAgg22
  z22 := Try.sizeOf22
  v22 := Try.zeroValue22
  a23 := Try.isAgg5
  z23 := Try.sizeOf5 }
theorem lay31 : SlLaysE.n31 Try.prog slren := {
  mixed := by kernel_rfl
  f29 := ⟨"slices.Index[[]byte,byte]", rfl, Try.func50.trans (congrArg some (by kernel_rfl))⟩
  f31 := ⟨"slices.Contains[[]byte,byte]", rfl, Try.func46.trans (congrArg some (by kernel_rfl))⟩
  t0 := Try.underlying0
  a0 := Try.isAgg0
  z0 := Try.sizeOf0
  v0 := Try.zeroValue0
  t3 := Try.underlying3
  a3 := Try.isAgg3
  z3 := Try.sizeOf3
  v3 := Try.zeroValue3
  t4 := Try.underlying4
  a4 := Try.isAgg4
  z4 := Try.sizeOf4
  v4 := Try.zeroValue4
  t22 := Try.underlying22
  a22 := Try.isAgg22
  z22 := Try.sizeOf22
  v22 := Try.zeroValue22
  a23 := Try.isAgg5
  z23 := Try.sizeOf5 }

theorem compact_raw (blk off cap : Nat) (d : Array Int) (w : World) (hH : Sort.Holds (Value.int .u8) w blk off d) (hsz : d.size ≤ 9223372036854775807) (hcap : d.size ≤ cap) :
    Calls Try.prog 49 #[.slice (some ⟨blk, off, none⟩) d.size cap] w fun e w' => e = .returned (.slice (some ⟨blk, off, none⟩) (Lib.compactUpTo d d.size).length cap) ∧ ∃ q, w' = Sort.putRow (Value.int .u8) (Sort.ahead w q) blk off (Lib.compactUpTo d d.size ++ List.replicate (d.size - (Lib.compactUpTo d d.size).length) 0).toArray :=
  AnyE.slices_Compact lay43 (Value.int .u8) (fun _ => rfl) (EqlAt.intD _ _ .u8) (NeqAt.intD _ _ .u8) 0 Try.zeroValue5 blk off cap d w hH hsz hcap

theorem contains_raw (b off n c : Nat) (zs : List Int) (x : Int) (w : World) (hz : n ≤ zs.length) (hbig : n ≤ 9223372036854775807) (hc : ∀ j, j < zs.length → w.cell? ⟨b, off + j, none⟩ = some (.int .u8 zs[j]!)) :
    Calls Try.prog 46 #[.slice (some ⟨b, off, none⟩) n c, .int .u8 x] w fun e w' => e = .returned (.bool ((zs.take n).any fun y => decide (x = y))) ∧ w' = w :=
  AnyE.slices_Contains lay31 (Value.int .u8) (fun x y => decide (x = y)) (EqlAt.intD _ _ .u8) b off n c zs x w hz hbig hc
theorem contains_none (a : Option Addr) (c : Nat) (x : Value) (w : World) :
    Calls Try.prog 46 #[.slice a 0 c, x] w fun e w' => e = .returned (.bool false) ∧ w' = w := AnyE.slices_Contains_empty lay31 a c x w
end Go.Proofs.Ytkgmbomfkdkofaa

/- slices.Clone at bytes in memory of its own; slices.Contains and slices.Compact at bytes. -/
namespace Go.Proofs.Ytkgmbomfkdkofaa
open Go Go.RowKit Go.Sort

section
variable {P : Program} (w : World)
theorem run_append_own (t ty e : TypeId) (i : TypeInfo) (z : Value) (size bytes : Nat) (ht : P.underlying t = some (.slice e)) (hi : P.info? e = some i) (hz : i.zero = some z)
    (hsize : i.size = size) (hby : i.bytes = bytes) (hzs : z.cells.size = size) (hsz : 0 < size)
    (ad : Addr) (D : Nat → Prop) (A : Option Addr) (m c : Nat) (news : List Value) (hm : 0 < m) (hr : Rd w D size A m news) (h1 : ∀ u ∈ news, u.oneCell' = true)
    (h63 : m ≤ maxLen) (hbytes : m * bytes ≤ 140737488355328) :
    ∃ v' w', (Builtin.append_ #[t, t] ty #[.slice (some ad) 0 0, .slice A m c]).run P w = .ok v' w' ∧ w'.ownsRow w.heap.size e size v' m news ∧ Below w.heap.size w w' := by
  obtain ⟨v', w', hrun, hown, hg, hv⟩ := run_append_rd (P := P) w w.heap.size t ty e i z size bytes ht hi hz hsize hby hzs hsz (.slice none 0 0) 0 [] (World.ownsRow_nil w _ _ _) D A m c news hr h1 (by omega) (by rw [Nat.zero_add]; exact hbytes) (Nat.le_refl _)
  rw [Nat.zero_add, List.nil_append] at hown
  exact ⟨v', w', (run_append_fresh_nil w t ty e i ht hi ad A m c hm h63 (by rw [hby]; exact hbytes)).trans hrun, hown, (Below.refl _ _).grown hg (Nat.le_refl _) (fun k hk => by simp [Value.ownBlock] at hk)⟩

theorem wp_append_own {o : Oper} {a : Act} {K : Act → World → Prop} {Q : Exit → Act → World → Prop} (s x : Operand) (t : TypeId)
    (ho : o.op = .call { callee := .builtin .append, args := #[s, x], argTypes := #[t, t] })
    (e : TypeId) (i : TypeInfo) (z : Value) (size bytes : Nat) (ht : P.underlying t = some (.slice e)) (hi : P.info? e = some i) (hz : i.zero = some z)
    (hsize : i.size = size) (hby : i.bytes = bytes) (hzs : z.cells.size = size) (hsz : 0 < size)
    (ad : Addr) (hs : a.eval s = .slice (some ad) 0 0) (D : Nat → Prop) (A : Option Addr) (m c : Nat) (news : List Value) (hm : 0 < m) (hx : a.eval x = .slice A m c) (hr : Rd w D size A m news) (h1 : ∀ u ∈ news, u.oneCell' = true)
    (h63 : m ≤ maxLen) (hbytes : m * bytes ≤ 140737488355328)
    (h : ∀ v' w', w'.ownsRow w.heap.size e size v' m news → Below w.heap.size w w' → K (a.put o.dst v') w') : o.wp P a w K Q := by
  obtain ⟨v', w', hrun, h2, h3⟩ := run_append_own (P := P) w t o.type e i z size bytes ht hi hz hsize hby hzs hsz ad D A m c news hm hr h1 h63 hbytes
  unfold Oper.wp execOp
  simp only [ho, resolve, invoke, builtin, Sem.run_bind, Sem.run_pure, Result.andThen_ok, List.map_toArray, List.map_cons, List.map_nil, hs, hx, hrun]
  exact h v' w' h2 h3

theorem wpList_append_own {ops : Array Oper} {rest : List Oper} {o : Oper} {a : Act} {Q : Exit → Act → World → Prop} (hgd : o.guard = none) (s x : Operand) (t : TypeId)
    (ho : o.op = .call { callee := .builtin .append, args := #[s, x], argTypes := #[t, t] })
    (e : TypeId) (i : TypeInfo) (z : Value) (size bytes : Nat) (ht : P.underlying t = some (.slice e)) (hi : P.info? e = some i) (hz : i.zero = some z)
    (hsize : i.size = size) (hby : i.bytes = bytes) (hzs : z.cells.size = size) (hsz : 0 < size)
    (ad : Addr) (hs : a.eval s = .slice (some ad) 0 0) (D : Nat → Prop) (A : Option Addr) (m c : Nat) (news : List Value) (hm : 0 < m) (hx : a.eval x = .slice A m c) (hr : Rd w D size A m news) (h1 : ∀ u ∈ news, u.oneCell' = true)
    (h63 : m ≤ maxLen) (hbytes : m * bytes ≤ 140737488355328)
    (h : ∀ v' w', w'.ownsRow w.heap.size e size v' m news → Below w.heap.size w w' → wpList P ops Q rest (a.put o.dst v') w') : wpList P ops Q (o :: rest) a w :=
  wpList_plain hgd fun _ hK => wp_append_own w s x t ho e i z size bytes ht hi hz hsize hby hzs hsz ad hs D A m c news hm hx hr h1 h63 hbytes fun v' w' h2 h3 => hK _ _ (h v' w' h2 h3)
end

/-- A row of bytes of one's own. -/
def OwnPost (w : World) (bs : Bs) (e : Ending) (w' : World) : Prop :=
  ∃ g cap, e = .returned (.slice (some ⟨g, 0, none⟩) bs.length cap) ∧ w.heap.size ≤ g ∧ g < w'.heap.size ∧ bs.length ≤ cap ∧ Holds e8 w' g 0 (nums bs) ∧ Below w.heap.size w w'

theorem own_holds {w : World} {base : Nat} {v : Value} {bs : Bs} (h0 : 0 < bs.length) (h : w.ownsRow base 5 1 v bs.length (u8s bs)) :
    ∃ g cap, v = .slice (some ⟨g, 0, none⟩) bs.length cap ∧ base ≤ g ∧ g < w.heap.size ∧ bs.length ≤ cap ∧ Holds e8 w g 0 (nums bs) := by
  rcases h.2 with ⟨_, h1⟩ | ⟨g, cap, cur, rfl, hb, hg, hc, _, hs, ht⟩
  · omega
  · refine ⟨g, cap, rfl, hb, (Array.getElem?_eq_some_iff.1 hg).1, hc, fun j hj => ?_⟩
    have hj' : j < bs.length := by rw [nums_size] at hj; exact hj
    have e1 : cur[j]? = some (.int .u8 ((bs[j]).toNat : Int)) := by
      have : (cur.toList.take (bs.length * 1))[j]? = (u8s bs)[j]? := by rw [ht]
      rw [List.getElem?_take_of_lt (by omega)] at this
      simp [u8s, List.getElem?_eq_getElem hj'] at this
      exact this
    refine ⟨?_, ?_⟩
    · rw [Nat.zero_add, cell_of_row _ _ j _ _ (0, 0) hg, e1]
      rw [getElem!_pos (nums bs) j hj]
      simp [nums, e8]
    · unfold World.frozen?
      simp [hg]

set_option maxRecDepth 100000 in
theorem clone8 (D : Nat → Prop) (A : Option Addr) (c : Nat) (bs : Bs) (w : World) (hr : Rd w D 1 A bs.length (u8s bs)) (h0 : 0 < bs.length) (hl : bs.length ≤ 100000) :
    Calls Try.prog 47 #[.slice A bs.length c] w (OwnPost w bs) := by
  obtain ⟨i0, hi0, hz0, hz1, hz2⟩ := info_parts info_u8
  obtain ⟨g, o, rfl, hg, hD, hc⟩ := hr.2 h0
  have qT : ∀ (w : World) (a : Option Addr) (n c n' c' : Nat), (binOp .eql 22 (.slice a n c) (.slice none n' c')).run Try.prog w = .ok (.bool a.isNone) w := fun w a n c n' c' => Lib.run_eql_slice_nil w _ _ a n c n' c' Try.underlying22
  have hr' := hr.chg ((Chg.refl (fun _ => False) w).alloc (.cells #[] 5)) (fun _ _ _ h => h)
  go_enter Try.func47, Try.ntmps47
  go_wp2_with (first
    | (at_builtin
       refine wpList_append_own _ (by rfl) (.tmp 5) (.tmp 6) 22 (by rfl) 5 i0 _ 1 1 Try.underlying22 hi0 hz0 hz1 hz2 (by rfl) (by omega) _ (by rfl) D _ bs.length c (u8s bs) h0 (by rfl) hr' (u8s_one _) (by simp only [maxLen]; omega) (by omega) ?_
       intro v' w' hown hb2))
  go_ret
  obtain ⟨g2, cap, rfl, h1, h2, h3, h4⟩ := own_holds h0 hown
  exact ⟨g2, cap, rfl, by simp at h1; omega, h2, h3, h4, ((Below.refl _ _).alloc (Nat.le_refl _) _).trans (hb2.mono (by simp))⟩

theorem chg_putRow8 (w : World) (blk off q : Nat) (d : Array Int) : Chg (fun k => k = blk) w (putRow e8 (Go.Sort.ahead w q) blk off d) := by
  refine ⟨rfl, rfl, rfl, by simp [putRow, mapBlock, Go.Sort.ahead], fun k hk hn => ?_⟩
  simp only [putRow, mapBlock, Go.Sort.ahead, Array.getElem?_modify]
  rw [if_neg (fun e => hn e.symm)]

theorem compact8 (blk off cap n : Nat) (d : Array Int) (w : World) (hn : d.size = n) (hH : Holds e8 w blk off d) (hsz : n < 1000000) (hcap : n ≤ cap) :
    Calls Try.prog 49 #[.slice (some ⟨blk, off, none⟩) n cap] w fun e w' => e = .returned (.slice (some ⟨blk, off, none⟩) (Lib.compactUpTo d d.size).length cap) ∧ Chg (fun k => k = blk) w w' := by
  subst hn
  refine (compact_raw blk off cap d w hH (by omega) hcap).mono ?_
  rintro e w' ⟨rfl, q, rfl⟩
  exact ⟨rfl, chg_putRow8 _ _ _ _ _⟩

theorem contains8 (D : Nat → Prop) (A : Option Addr) (c : Nat) (bs : Bs) (x : UInt8) (w : World) (hr : Rd w D 1 A bs.length (u8s bs)) (hl : bs.length ≤ 1000000) :
    Calls Try.prog 46 #[.slice A bs.length c, .int .u8 x.toNat] w fun e w' => e = .returned (.bool (decide (x ∈ bs))) ∧ w' = w := by
  rcases Nat.eq_zero_or_pos bs.length with h0 | h0
  · have hb : bs = [] := List.eq_nil_of_length_eq_zero h0
    subst hb
    exact contains_none A c _ w
  · obtain ⟨g, o, rfl, hg, hD, hc⟩ := hr.2 h0
    refine (contains_raw g o bs.length c (bs.map fun x => (x.toNat : Int)) x.toNat w (by simp) (by omega) (fun j hj => ?_)).mono ?_
    · have hj' : j < bs.length := by simpa using hj
      rw [hc j (.int .u8 (bs[j]).toNat) (by simp [u8s, List.getElem?_eq_getElem hj'])]
      rw [getElem!_pos (bs.map fun x => (x.toNat : Int)) j hj]
      simp
    · rintro e w' ⟨rfl, rfl⟩
      refine ⟨?_, rfl⟩
      congr 2
      rw [List.take_of_length_le (by simp)]
      rw [Bool.eq_iff_iff]
      simp only [List.any_eq_true, decide_eq_true_eq, List.mem_map]
      constructor
      · rintro ⟨y, ⟨z, hz, rfl⟩, h⟩
        have : x = z := UInt8.toNat_inj.1 (by omega)
        rw [this]; exact hz
      · intro h
        exact ⟨_, ⟨x, h, rfl⟩, rfl⟩
end Go.Proofs.Ytkgmbomfkdkofaa

/- (params.rule).bytes for whatever rule and parameters. -/
namespace Go.Proofs.Ytkgmbomfkdkofaa
open Go Go.RowKit Go.Sort

def TellPost (b : Bool) (w : World) (e : Ending) (w' : World) : Prop := e = .returned (.bool b) ∧ Chg (fun _ => False) w w'

set_option maxRecDepth 100000 in
theorem bytes_none (l m i o h e k n : Int) (A B : Option Addr) (la ca lb cb : Nat) (w : World) :
    Calls Try.prog 45 #[.agg #[.int .i64 l, .int .i64 m, .int .i64 0, .int .i64 i, .int .i64 o, .int .i64 h, .int .i64 e], .agg #[.int .i64 k, .int .i64 n, .slice A la ca, .slice B lb cb]] w (TellPost (((la : Int) == 0) && ((lb : Int) == 0)) w) := by
  obtain ⟨β0, h0⟩ := bool_any ((la : Int) == 0)
  obtain ⟨β1, h1⟩ := bool_any ((lb : Int) == 0)
  rw [h0, h1]
  cases β0 <;> cases β1
  all_goals
    go_enter Try.func45, Try.ntmps45
    go_wp2
    go_ret
    exact ⟨rfl, ((Chg.refl _ _).alloc _).alloc _⟩

set_option maxRecDepth 100000 in
theorem bytes_word (D : Nat → Prop) (l m i o h e k n : Int) (A B : Option Addr) (ca cb : Nat) (a b : Bs) (hl : a.length ≤ 1000000) (w : World) (hA : Rd w D 1 A a.length (u8s a)) :
    Calls Try.prog 45 #[.agg #[.int .i64 l, .int .i64 m, .int .i64 1, .int .i64 i, .int .i64 o, .int .i64 h, .int .i64 e], .agg #[.int .i64 k, .int .i64 n, .slice A a.length ca, .slice B b.length cb]] w (TellPost ((ze b && wi a.length 1 16) && !decide ((10 : UInt8) ∈ a)) w) := by
  have hct : ∀ W : World, Chg (fun _ => False) w W → Calls Try.prog 46 #[.slice A a.length ca, .int .u8 10] W fun e w' => e = .returned (.bool (decide ((10 : UInt8) ∈ a))) ∧ w' = W := fun W hW => contains8 D A ca a 10 W (hA.chg hW (fun _ _ _ h => h)) hl
  clear hA
  generalize decide ((10 : UInt8) ∈ a) = β at *
  unfold ze wi
  generalize a.length = la at *
  generalize b.length = lb at *
  replace hct := Lib.hid hct
  obtain ⟨β0, h0⟩ := bool_any ((lb : Int) == 0)
  by_cases h1 : (1 : Int) ≤ (la : Int)
  · by_cases h2 : (la : Int) ≤ 16
    · have e1 : decide ((1 : Int) ≤ (la : Int) ∧ (la : Int) ≤ 16) = true := decide_eq_true ⟨h1, h2⟩
      rw [e1, h0]
      clear e1
      cases β <;> cases β0
      all_goals
        go_enter Try.func45, Try.ntmps45
        go_wp2_with (first
          | (go_at_call 46
             refine (hct.out _ (((Chg.refl _ _).alloc _).alloc _)).mono ?_
             rintro e1 w1 ⟨rfl, rfl⟩))
        go_ret
        exact ⟨rfl, ((Chg.refl _ _).alloc _).alloc _⟩
    · have e1 : decide ((1 : Int) ≤ (la : Int) ∧ (la : Int) ≤ 16) = false := decide_eq_false (fun h => h2 h.2)
      rw [e1, Bool.and_false, Bool.false_and]
      clear e1 h0
      go_enter Try.func45, Try.ntmps45
      go_wp2
      go_ret
      exact ⟨rfl, ((Chg.refl _ _).alloc _).alloc _⟩
  · have e1 : decide ((1 : Int) ≤ (la : Int) ∧ (la : Int) ≤ 16) = false := decide_eq_false (fun h => h1 h.1)
    rw [e1, Bool.and_false, Bool.false_and]
    clear e1 h0
    go_enter Try.func45, Try.ntmps45
    go_wp2
    go_ret
    exact ⟨rfl, ((Chg.refl _ _).alloc _).alloc _⟩

set_option maxRecDepth 100000 in
theorem bytes_parting (D : Nat → Prop) (l m i o h e k n : Int) (A B : Option Addr) (ca cb : Nat) (a b : Bs) (w : World) (hA : Rd w D 1 A a.length (u8s a)) :
    Calls Try.prog 45 #[.agg #[.int .i64 l, .int .i64 m, .int .i64 3, .int .i64 i, .int .i64 o, .int .i64 h, .int .i64 e], .agg #[.int .i64 k, .int .i64 n, .slice A a.length ca, .slice B b.length cb]] w (TellPost (ze b && oneB a) w) := by
  by_cases ha : a.length = 1
  · obtain ⟨x, rfl⟩ := List.length_eq_one_iff.1 ha
    obtain ⟨g, off, v, rfl, hg, _, hv, hc⟩ := hA.at_ (k := 0) (by simp)
    simp [u8s] at hv
    subst hv
    have hc' : w.cell? ⟨g, off, none⟩ = some (.int .u8 x.toNat) := hc
    obtain ⟨β1, h1⟩ := bool_any ((b.length : Int) == 0)
    have e1 : ze b = β1 := h1
    obtain ⟨β0, h0⟩ := bool_any ((x.toNat : Int) != 10)
    have e2 : oneB [x] = β0 := by
      unfold oneB
      rw [← h0]
      rw [Bool.eq_iff_iff]
      simp only [decide_eq_true_eq, bne_iff_ne, List.length_cons, List.length_nil, true_and, ne_eq, List.cons.injEq, and_true]
      exact ⟨fun h e => h (UInt8.toNat_inj.1 (by simpa using (by omega : x.toNat = 10))), fun h e => h (by subst e; rfl)⟩
    rw [e1, e2]
    clear e1 e2 hA hc ha
    show Calls _ _ #[_, .agg #[_, _, .slice _ 1 _, _]] _ _
    cases β0 <;> cases β1
    all_goals
      go_enter Try.func45, Try.ntmps45
      go_wp2
      go_ret
      exact ⟨rfl, ((Chg.refl _ _).alloc _).alloc _⟩
  · have e2 : oneB a = false := by unfold oneB; exact decide_eq_false (fun h => ha h.1)
    rw [e2, Bool.and_false]
    clear hA e2
    generalize a.length = la at *
    have h1 : ¬ (la : Int) = 1 := by omega
    have h2 : ((la : Int) == 1) = false := by rw [beq_eq_false_iff_ne]; exact h1
    clear h1
    go_enter Try.func45, Try.ntmps45
    go_wp2
    go_ret
    exact ⟨rfl, ((Chg.refl _ _).alloc _).alloc _⟩

end Go.Proofs.Ytkgmbomfkdkofaa

/- (params.rule).bytes at the rule of unlike bytes. -/
namespace Go.Proofs.Ytkgmbomfkdkofaa
open Go Go.RowKit Go.Sort

def OwnP (n : Nat) (d : Array Int) (w : World) (e : Ending) (w' : World) : Prop :=
  ∃ g cap, e = .returned (.slice (some ⟨g, 0, none⟩) n cap) ∧ w.heap.size ≤ g ∧ g < w'.heap.size ∧ n ≤ cap ∧ Holds e8 w' g 0 d ∧ Below w.heap.size w w'

/-- What Compact tells of a sorted row. -/
def CompPost (g cap n : Nat) (b : Bool) (w : World) (e : Ending) (w' : World) : Prop :=
  ∃ L : Nat, e = .returned (.slice (some ⟨g, 0, none⟩) L cap) ∧ ((L : Int) == (n : Int)) = b ∧ L ≤ n ∧ Chg (fun k => k = g) w w'

theorem comp_any (a : Bs) (hal : a.length ≤ 100000) (g cap : Nat) (d' : Array Int) (w : World) (hg : g < w.heap.size) (hcap : a.length ≤ cap) (hp : PermIn 0 a.length (nums a) d') (hs : SortedIn ltInt 0 a.length d') (hH : Holds e8 w g 0 d') (W : World) (hW : Chg (fun _ => False) w W) :
    Calls Try.prog 49 #[.slice (some ⟨g, 0, none⟩) a.length cap] W (CompPost g cap a.length (decide a.Nodup) W) := by
  have hz : d'.size = a.length := by rw [hp.1, nums_size]
  refine (compact8 g 0 cap a.length d' W hz (holds_chg8 hH hW hg (fun h => h)) (by omega) hcap).mono ?_
  rintro e w' ⟨rfl, hc⟩
  refine ⟨_, rfl, ?_, ?_, hc⟩
  · have h := compact_nodup (nums_size a) hp hs
    rw [nums_nodup] at h
    by_cases hn : a.Nodup
    · rw [decide_eq_true hn, h.2 hn]; simp
    · rw [decide_eq_false hn, beq_eq_false_iff_ne]
      intro e
      exact hn (h.1 (by omega))
  · have := compact_le d'
    omega

set_option maxHeartbeats 8000000 in
set_option maxRecDepth 100000 in
theorem bytes_unlike (D : Nat → Prop) (l m i o h e k n : Int) (A B : Option Addr) (ca cb : Nat) (a b : Bs) (h0 : 0 < a.length) (hl : a.length ≤ 100000) (w : World) (hA : Rd w D 1 A a.length (u8s a)) :
    Calls Try.prog 45 #[.agg #[.int .i64 l, .int .i64 m, .int .i64 2, .int .i64 i, .int .i64 o, .int .i64 h, .int .i64 e], .agg #[.int .i64 k, .int .i64 n, .slice A a.length ca, .slice B b.length cb]] w (TellPost ((wi a.length 1 64 && decide a.Nodup) && decide ((b.length : Int) ≤ a.length)) w) := by
  have hcl : ∀ W : World, Chg (fun _ => False) w W → Calls Try.prog 47 #[.slice A a.length ca] W (OwnP a.length (nums a) W) := fun W hW => clone8 D A ca a W (hA.chg hW (fun _ _ _ h => h)) h0 hl
  have hso := fun (g cap : Nat) (W : World) (hH : Holds e8 W g 0 (nums a)) (hg : g < W.heap.size) => sort8 g 0 cap a.length (nums a) W (nums_size a) hH hg (by omega)
  have hco := comp_any a hl
  replace hcl := Lib.hid hcl
  replace hso := Lib.hid hso
  replace hco := Lib.hid hco
  clear hA
  have hst : Blk ((w.alloc (.cells #[.int .i64 l, .int .i64 m, .int .i64 2, .int .i64 i, .int .i64 o, .int .i64 h, .int .i64 e] 116)).alloc (.cells #[.int .i64 k, .int .i64 n, .slice A a.length ca, .slice B b.length cb] 24)) (w.heap.size + 1) 24 #[.int .i64 k, .int .i64 n, .slice A a.length ca, .slice B b.length cb] := by
    have := Blk.new (w.alloc (.cells #[.int .i64 l, .int .i64 m, .int .i64 2, .int .i64 i, .int .i64 o, .int .i64 h, .int .i64 e] 116)) 24 #[.int .i64 k, .int .i64 n, .slice A a.length ca, .slice B b.length cb]
    simp only [World.size_alloc] at this
    exact this
  have hwq : Chg (fun _ => False) w ((w.alloc (.cells #[.int .i64 l, .int .i64 m, .int .i64 2, .int .i64 i, .int .i64 o, .int .i64 h, .int .i64 e] 116)).alloc (.cells #[.int .i64 k, .int .i64 n, .slice A a.length ca, .slice B b.length cb] 24)) := ((Chg.refl _ _).alloc _).alloc _
  have hfin : ∀ W : World, Chg (fun k => w.heap.size ≤ k) w W → Chg (fun _ => False) w W := fun W h => (Chg.refl (fun _ => False) w).trans h (fun k hk hlt => by omega)
  replace hfin := Lib.hid hfin
  unfold wi
  generalize hν : decide a.Nodup = ν at *
  clear hν
  generalize hla : a.length = la at *
  replace hla := Lib.hid hla
  generalize b.length = lb at *
  have e1 : (1 : Int) ≤ (la : Int) := by omega
  have e1d : decide ((1 : Int) ≤ (la : Int)) = true := decide_eq_true e1
  obtain ⟨β, hβ⟩ := bool_any (decide ((lb : Int) ≤ (la : Int)))
  by_cases h64 : (la : Int) ≤ 64
  · have e2 : decide ((1 : Int) ≤ (la : Int) ∧ (la : Int) ≤ 64) = true := decide_eq_true ⟨e1, h64⟩
    rw [e2, hβ]
    clear e2
    have e64 : decide ((la : Int) ≤ 64) = true := decide_eq_true h64
    replace hβ := Lib.hid hβ
    cases ν
    · rw [Bool.and_false, Bool.false_and]
      go_enter Try.func45, Try.ntmps45
      go_wp2_with (first
        | (go_at_call 47
           refine (hcl.out _ hwq).mono ?_
           intro e1 w1 ho1
           obtain ⟨g, cap, rfl, hg0, hg1, hcap, hH1, hb1⟩ := ho1
           have k1 := hwq.trans (Chg.of_below (S := fun _ => False) hb1) (fun _ h _ => h)
           have hs1 := hst.chg (Chg.of_below (S := fun _ => False) hb1) (fun h => h)
           simp only [World.size_alloc] at hg0)
        | (go_at_call 48
           refine (hso.out g cap w1 hH1 hg1).mono ?_
           intro e2 w2 ho2
           obtain ⟨d2, rfl, hp2, hs2, hR2⟩ := ho2))
      have hg2 := Nat.lt_of_lt_of_le hg1 hR2.2.size
      have hP := hs1.chg hR2.2 (fun h => by have h : w.heap.size + 1 = g := h; omega)
      have p2 : w2.cell? ⟨w.heap.size + 1, 2, none⟩ = some (.slice A la ca) := (hP.cell 2).trans rfl
      have p3 : w2.cell? ⟨w.heap.size + 1, 3, none⟩ = some (.slice B lb cb) := (hP.cell 3).trans rfl
      have k2 : Chg (fun _ => False) w w2 := k1.trans hR2.2 (fun k hk hlt => by have hk : k = g := hk; omega)
      have hcc := fun (W : World) (hW : Chg (fun _ => False) w2 W) => hco.out g cap d2 w2 hg2 hcap hp2 hs2 hR2.1 W hW
      have hgw : w.heap.size + 2 ≤ g := hg0
      replace hcc := Lib.hid hcc
      clear hs1 hst hb1 hH1 hp2 hs2 hR2 hg1 hg2 hg0 k1 hwq
      have c0 := Chg.refl (fun k => k = g) w2
      have hS : ∀ W, Chg (fun k => k = g) w2 W → W.cell? ⟨w.heap.size + 1, 2, none⟩ = some (.slice A la ca) ∧ W.cell? ⟨w.heap.size + 1, 3, none⟩ = some (.slice B lb cb) ∧ Chg (fun k => k = g) w2 W := fun W hW => by
        have hPW := hP.chg hW (fun h => by have h : w.heap.size + 1 = g := h; omega)
        exact ⟨(hPW.cell 2).trans rfl, (hPW.cell 3).trans rfl, hW⟩
      have hS0 := hS w2 c0
      replace hS := Lib.hid hS
      refine wp_region_held_drew (S := (fun W => W.cell? ⟨w.heap.size + 1, 2, none⟩ = some (.slice A la ca) ∧ W.cell? ⟨w.heap.size + 1, 3, none⟩ = some (.slice B lb cb) ∧ Chg (fun k => k = g) w2 W)) (by kernel_rfl) (hS.out _ c0.drew) (fun hHeld => ?_)
      refine wpAnyH_take (i := 0) (v := (.slice (some ⟨g, 0, none⟩) la cap)) rfl (by kernel_rfl) (by kernel_rfl) (by kernel_rfl) (fun _ _ _ h => h) (Or.inl ⟨by kernel_rfl, ?_⟩) (by assumption) ?_
      · intro W hSW
        (try dsimp only at hSW)
        go_simp
      simp only [Act.put, List.getElem_toArray, List.getElem_cons_zero, List.setIfInBounds_toArray, List.set_cons_zero, List.set_cons_succ]
      refine wpAnyH_take (i := 1) (v := (.int .i64 (la : Int))) rfl (by kernel_rfl) (by kernel_rfl) (by kernel_rfl) (fun _ _ _ h => h) (Or.inl ⟨by kernel_rfl, ?_⟩) (by assumption) ?_
      · intro W hSW
        (try dsimp only at hSW)
        go_simp
      simp only [Act.put, List.getElem_toArray, List.getElem_cons_zero, List.getElem_cons_succ, List.setIfInBounds_toArray, List.set_cons_zero, List.set_cons_succ]
      refine wpAnyH_take (i := 2) (v := (.bool true)) rfl (by kernel_rfl) (by kernel_rfl) (by kernel_rfl) (fun _ _ _ h => h) (Or.inl ⟨by kernel_rfl, ?_⟩) (by assumption) ?_
      · intro W hSW
        (try dsimp only at hSW)
        go_simp
      simp only [Act.put, List.getElem_toArray, List.getElem_cons_zero, List.getElem_cons_succ, List.setIfInBounds_toArray, List.set_cons_zero, List.set_cons_succ]
      refine wpAnyH_take (i := 3) (v := (.bool true)) rfl (by kernel_rfl) (by kernel_rfl) (by kernel_rfl) (fun _ _ _ h => h) (Or.inl ⟨by kernel_rfl, ?_⟩) (by assumption) ?_
      · intro W hSW
        (try dsimp only at hSW)
        go_simp
      simp only [Act.put, List.getElem_toArray, List.getElem_cons_zero, List.getElem_cons_succ, List.setIfInBounds_toArray, List.set_cons_zero, List.set_cons_succ]
      refine wpAnyH_take (i := 4) (v := (.slice (some ⟨g, 0, none⟩) la cap)) rfl (by kernel_rfl) (by kernel_rfl) (by kernel_rfl) (fun _ _ _ h => h) (Or.inl ⟨by kernel_rfl, ?_⟩) (by assumption) ?_
      · intro W hSW
        (try dsimp only at hSW)
        go_simp
      simp only [Act.put, List.getElem_toArray, List.getElem_cons_zero, List.getElem_cons_succ, List.setIfInBounds_toArray, List.set_cons_zero, List.set_cons_succ]
      refine wpAnyH_take (i := 5) (v := (.int .i64 (la : Int))) rfl (by kernel_rfl) (by kernel_rfl) (by kernel_rfl) (fun _ _ _ h => h) (Or.inl ⟨by kernel_rfl, ?_⟩) (by assumption) ?_
      · intro W hSW
        (try dsimp only at hSW)
        go_simp
      simp only [Act.put, List.getElem_toArray, List.getElem_cons_zero, List.getElem_cons_succ, List.setIfInBounds_toArray, List.set_cons_zero, List.set_cons_succ]
      refine wpAnyH_take (i := 6) (v := (.bool true)) rfl (by kernel_rfl) (by kernel_rfl) (by kernel_rfl) (fun _ _ _ h => h) (Or.inl ⟨by kernel_rfl, ?_⟩) (by assumption) ?_
      · intro W hSW
        (try dsimp only at hSW)
        go_simp
      simp only [Act.put, List.getElem_toArray, List.getElem_cons_zero, List.getElem_cons_succ, List.setIfInBounds_toArray, List.set_cons_zero, List.set_cons_succ]
      refine wpAnyH_take (i := 7) (v := (.bool true)) rfl (by kernel_rfl) (by kernel_rfl) (by kernel_rfl) (fun _ _ _ h => h) (Or.inl ⟨by kernel_rfl, ?_⟩) (by assumption) ?_
      · intro W hSW
        (try dsimp only at hSW)
        go_simp
      simp only [Act.put, List.getElem_toArray, List.getElem_cons_zero, List.getElem_cons_succ, List.setIfInBounds_toArray, List.set_cons_zero, List.set_cons_succ]
      refine wpAnyH_take (i := 8) (v := (.bool true)) rfl (by kernel_rfl) (by kernel_rfl) (by kernel_rfl) (fun _ _ _ h => h) (Or.inl ⟨by kernel_rfl, ?_⟩) (by assumption) ?_
      · intro W hSW
        (try dsimp only at hSW)
        go_simp
      simp only [Act.put, List.getElem_toArray, List.getElem_cons_zero, List.getElem_cons_succ, List.setIfInBounds_toArray, List.set_cons_zero, List.set_cons_succ]
      refine wpAnyH_take (i := 9) (v := (.slice (some ⟨g, 0, none⟩) la cap)) rfl (by kernel_rfl) (by kernel_rfl) (by kernel_rfl) (fun _ _ _ h => h) (Or.inl ⟨by kernel_rfl, ?_⟩) (by assumption) ?_
      · intro W hSW
        (try dsimp only at hSW)
        go_simp
      simp only [Act.put, List.getElem_toArray, List.getElem_cons_zero, List.getElem_cons_succ, List.setIfInBounds_toArray, List.set_cons_zero, List.set_cons_succ]
      refine wpAnyH_take (i := 12) (v := (.pointer (some ⟨w.heap.size + 1, 2, none⟩))) rfl (by kernel_rfl) (by kernel_rfl) (by kernel_rfl) (fun _ _ _ h => h) (Or.inl ⟨by kernel_rfl, ?_⟩) (by assumption) ?_
      · intro W hSW
        (try dsimp only at hSW)
        go_simp
      simp only [Act.put, List.getElem_toArray, List.getElem_cons_zero, List.getElem_cons_succ, List.setIfInBounds_toArray, List.set_cons_zero, List.set_cons_succ]
      refine wpAnyH_take (i := 13) (v := (.slice A la ca)) rfl (by kernel_rfl) (by kernel_rfl) (by kernel_rfl) (fun _ _ _ h => h) (Or.inl ⟨by kernel_rfl, ?_⟩) (by assumption) ?_
      · intro W hSW
        (try dsimp only at hSW)
        go_simp
      simp only [Act.put, List.getElem_toArray, List.getElem_cons_zero, List.getElem_cons_succ, List.setIfInBounds_toArray, List.set_cons_zero, List.set_cons_succ]
      refine wpAnyH_take (i := 14) (v := (.int .i64 (la : Int))) rfl (by kernel_rfl) (by kernel_rfl) (by kernel_rfl) (fun _ _ _ h => h) (Or.inl ⟨by kernel_rfl, ?_⟩) (by assumption) ?_
      · intro W hSW
        (try dsimp only at hSW)
        go_simp
      simp only [Act.put, List.getElem_toArray, List.getElem_cons_zero, List.getElem_cons_succ, List.setIfInBounds_toArray, List.set_cons_zero, List.set_cons_succ]
      refine wpAnyH_ready (rs := [10]) (by kernel_rfl) (by simp) ?_
      refine AllReadyH.cons rfl (fun K hK => ?_) AllReadyH.nil
      go_simp
      refine (hcc.out _ (Chg.refl _ _).drew).mono ?_
      intro e3 w3 ho3
      obtain ⟨L, rfl, hL, hL2, hc3⟩ := ho3
      have dX : Chg (fun k => k = g) w2 w3 := c0.drew.trans hc3 (fun _ h _ => h)
      go_wp2_with fail
      refine hK.out _ _ (hS.out _ dX) (fun hHeld3 => ?_)
      clear hK K
      try simp only [Act.put, List.getElem_toArray, List.getElem_cons_zero, List.getElem_cons_succ, List.setIfInBounds_toArray, List.set_cons_zero, List.set_cons_succ]
      refine wpAnyH_take (i := 11) (v := (.int .i64 (L : Int))) rfl (by kernel_rfl) (by kernel_rfl) (by kernel_rfl) (fun _ _ _ h => h) (Or.inl ⟨by kernel_rfl, ?_⟩) (by assumption) ?_
      · intro W hSW
        (try dsimp only at hSW)
        go_simp
      simp only [Act.put, List.getElem_toArray, List.getElem_cons_zero, List.getElem_cons_succ, List.setIfInBounds_toArray, List.set_cons_zero, List.set_cons_succ]
      refine wpAnyH_take (i := 15) (v := (.bool false)) rfl (by kernel_rfl) (by kernel_rfl) (by kernel_rfl) (fun _ _ _ h => h) (Or.inl ⟨by kernel_rfl, ?_⟩) (by assumption) ?_
      · intro W hSW
        (try dsimp only at hSW)
        go_simp
      simp only [Act.put, List.getElem_toArray, List.getElem_cons_zero, List.getElem_cons_succ, List.setIfInBounds_toArray, List.set_cons_zero, List.set_cons_succ]
      refine wpAnyH_take (i := 16) (v := (.bool false)) rfl (by kernel_rfl) (by kernel_rfl) (by kernel_rfl) (fun _ _ _ h => h) (Or.inl ⟨by kernel_rfl, ?_⟩) (by assumption) ?_
      · intro W hSW
        (try dsimp only at hSW)
        go_simp
      simp only [Act.put, List.getElem_toArray, List.getElem_cons_zero, List.getElem_cons_succ, List.setIfInBounds_toArray, List.set_cons_zero, List.set_cons_succ]
      refine wpAnyH_take (i := 17) (v := (.bool false)) rfl (by kernel_rfl) (by kernel_rfl) (by kernel_rfl) (fun _ _ _ h => h) (Or.inl ⟨by kernel_rfl, ?_⟩) (by assumption) ?_
      · intro W hSW
        (try dsimp only at hSW)
        go_simp
      simp only [Act.put, List.getElem_toArray, List.getElem_cons_zero, List.getElem_cons_succ, List.setIfInBounds_toArray, List.set_cons_zero, List.set_cons_succ]
      refine wpAnyH_take (i := 18) (v := undef) rfl (by kernel_rfl) (by kernel_rfl) (by kernel_rfl) (fun _ _ _ h => h) (Or.inr ⟨by kernel_rfl, rfl⟩) (by assumption) ?_
      simp only [Act.put, List.getElem_toArray, List.getElem_cons_zero, List.getElem_cons_succ, List.setIfInBounds_toArray, List.set_cons_zero, List.set_cons_succ]
      refine wpAnyH_take (i := 19) (v := undef) rfl (by kernel_rfl) (by kernel_rfl) (by kernel_rfl) (fun _ _ _ h => h) (Or.inr ⟨by kernel_rfl, rfl⟩) (by assumption) ?_
      simp only [Act.put, List.getElem_toArray, List.getElem_cons_zero, List.getElem_cons_succ, List.setIfInBounds_toArray, List.set_cons_zero, List.set_cons_succ]
      refine wpAnyH_take (i := 20) (v := undef) rfl (by kernel_rfl) (by kernel_rfl) (by kernel_rfl) (fun _ _ _ h => h) (Or.inr ⟨by kernel_rfl, rfl⟩) (by assumption) ?_
      simp only [Act.put, List.getElem_toArray, List.getElem_cons_zero, List.getElem_cons_succ, List.setIfInBounds_toArray, List.set_cons_zero, List.set_cons_succ]
      refine wpAnyH_take (i := 21) (v := undef) rfl (by kernel_rfl) (by kernel_rfl) (by kernel_rfl) (fun _ _ _ h => h) (Or.inr ⟨by kernel_rfl, rfl⟩) (by assumption) ?_
      simp only [Act.put, List.getElem_toArray, List.getElem_cons_zero, List.getElem_cons_succ, List.setIfInBounds_toArray, List.set_cons_zero, List.set_cons_succ]
      refine wpAnyH_take (i := 22) (v := undef) rfl (by kernel_rfl) (by kernel_rfl) (by kernel_rfl) (fun _ _ _ h => h) (Or.inr ⟨by kernel_rfl, rfl⟩) (by assumption) ?_
      simp only [Act.put, List.getElem_toArray, List.getElem_cons_zero, List.getElem_cons_succ, List.setIfInBounds_toArray, List.set_cons_zero, List.set_cons_succ]
      refine wpAnyH_take (i := 23) (v := undef) rfl (by kernel_rfl) (by kernel_rfl) (by kernel_rfl) (fun _ _ _ h => h) (Or.inr ⟨by kernel_rfl, rfl⟩) (by assumption) ?_
      simp only [Act.put, List.getElem_toArray, List.getElem_cons_zero, List.getElem_cons_succ, List.setIfInBounds_toArray, List.set_cons_zero, List.set_cons_succ]
      refine wpAnyH_take (i := 24) (v := undef) rfl (by kernel_rfl) (by kernel_rfl) (by kernel_rfl) (fun _ _ _ h => h) (Or.inr ⟨by kernel_rfl, rfl⟩) (by assumption) ?_
      simp only [Act.put, List.getElem_toArray, List.getElem_cons_zero, List.getElem_cons_succ, List.setIfInBounds_toArray, List.set_cons_zero, List.set_cons_succ]
      refine wpAnyH_take (i := 25) (v := (.bool false)) rfl (by kernel_rfl) (by kernel_rfl) (by kernel_rfl) (fun _ _ _ h => h) (Or.inl ⟨by kernel_rfl, ?_⟩) (by assumption) ?_
      · intro W hSW
        (try dsimp only at hSW)
        go_simp
      simp only [Act.put, List.getElem_toArray, List.getElem_cons_zero, List.getElem_cons_succ, List.setIfInBounds_toArray, List.set_cons_zero, List.set_cons_succ]
      refine wpAnyH_take (i := 26) (v := (.bool false)) rfl (by kernel_rfl) (by kernel_rfl) (by kernel_rfl) (fun _ _ _ h => h) (Or.inl ⟨by kernel_rfl, ?_⟩) (by assumption) ?_
      · intro W hSW
        (try dsimp only at hSW)
        go_simp
      simp only [Act.put, List.getElem_toArray, List.getElem_cons_zero, List.getElem_cons_succ, List.setIfInBounds_toArray, List.set_cons_zero, List.set_cons_succ]
      refine wpAnyH_done (by kernel_rfl) ?_ _
      go_wp2
      go_ret
      exact ⟨rfl, k2.trans dX (fun k hk hlt => by have hk : k = g := hk; omega)⟩
    · replace hβ := hβ.out
      have hβn : decide (lb ≤ la) = β := by rw [← hβ]; simp
      cases β
      all_goals
        go_enter Try.func45, Try.ntmps45
        go_wp2_with (first
          | (go_at_call 47
             refine (hcl.out _ hwq).mono ?_
             intro e1 w1 ho1
             obtain ⟨g, cap, rfl, hg0, hg1, hcap, hH1, hb1⟩ := ho1
             have k1 := hwq.trans (Chg.of_below (S := fun _ => False) hb1) (fun _ h _ => h)
             have hs1 := hst.chg (Chg.of_below (S := fun _ => False) hb1) (fun h => h)
             simp only [World.size_alloc] at hg0)
          | (go_at_call 48
             refine (hso.out g cap w1 hH1 hg1).mono ?_
             intro e2 w2 ho2
             obtain ⟨d2, rfl, hp2, hs2, hR2⟩ := ho2))
        have hg2 := Nat.lt_of_lt_of_le hg1 hR2.2.size
        have hP := hs1.chg hR2.2 (fun h => by have h : w.heap.size + 1 = g := h; omega)
        have p2 : w2.cell? ⟨w.heap.size + 1, 2, none⟩ = some (.slice A la ca) := (hP.cell 2).trans rfl
        have p3 : w2.cell? ⟨w.heap.size + 1, 3, none⟩ = some (.slice B lb cb) := (hP.cell 3).trans rfl
        have k2 : Chg (fun _ => False) w w2 := k1.trans hR2.2 (fun k hk hlt => by have hk : k = g := hk; omega)
        have hcc := fun (W : World) (hW : Chg (fun _ => False) w2 W) => hco.out g cap d2 w2 hg2 hcap hp2 hs2 hR2.1 W hW
        have hgw : w.heap.size + 2 ≤ g := hg0
        replace hcc := Lib.hid hcc
        clear hs1 hst hb1 hH1 hp2 hs2 hR2 hg1 hg2 hg0 k1 hwq
        have c0 := Chg.refl (fun k => k = g) w2
        have hS : ∀ W, Chg (fun k => k = g) w2 W → W.cell? ⟨w.heap.size + 1, 2, none⟩ = some (.slice A la ca) ∧ W.cell? ⟨w.heap.size + 1, 3, none⟩ = some (.slice B lb cb) ∧ Chg (fun k => k = g) w2 W := fun W hW => by
          have hPW := hP.chg hW (fun h => by have h : w.heap.size + 1 = g := h; omega)
          exact ⟨(hPW.cell 2).trans rfl, (hPW.cell 3).trans rfl, hW⟩
        have hS0 := hS w2 c0
        replace hS := Lib.hid hS
        go_region_held3 (fun W => W.cell? ⟨w.heap.size + 1, 2, none⟩ = some (.slice A la ca) ∧ W.cell? ⟨w.heap.size + 1, 3, none⟩ = some (.slice B lb cb) ∧ Chg (fun k => k = g) w2 W)
            (first
              | with_reducible exact hS0
              | with_reducible exact hS.out _ c0.drew
              | with_reducible exact hS.out _ dX)
            (first
              | (go_at_call 49
                 go_split_ands
                 refine (hcc.out _ (Chg.refl _ _).drew).mono ?_
                 intro e3 w3 ho3
                 obtain ⟨L, rfl, hL, hL2, hc3⟩ := ho3
                 have dX : Chg (fun k => k = g) w2 w3 := Chg.trans (by assumption) hc3 (fun _ h _ => h)))
        go_wp2
        go_ret
        exact ⟨rfl, k2.trans dX (fun k hk hlt => by have hk : k = g := hk; omega)⟩
  · have e2 : decide ((1 : Int) ≤ (la : Int) ∧ (la : Int) ≤ 64) = false := decide_eq_false (fun h => h64 h.2)
    rw [e2, Bool.false_and, Bool.false_and]
    clear e2 hβ
    have e64 : decide ((la : Int) ≤ 64) = false := decide_eq_false h64
    go_enter Try.func45, Try.ntmps45
    go_wp2_with (first
      | (go_at_call 47
         refine (hcl.out _ hwq).mono ?_
         intro e1 w1 ho1
         obtain ⟨g, cap, rfl, hg0, hg1, hcap, hH1, hb1⟩ := ho1
         have k1 := hwq.trans (Chg.of_below (S := fun _ => False) hb1) (fun _ h _ => h)
         have hs1 := hst.chg (Chg.of_below (S := fun _ => False) hb1) (fun h => h)
         simp only [World.size_alloc] at hg0)
      | (go_at_call 48
         refine (hso.out g cap w1 hH1 hg1).mono ?_
         intro e2 w2 ho2
         obtain ⟨d2, rfl, hp2, hs2, hR2⟩ := ho2))
    have k2 : Chg (fun _ => False) w w2 := k1.trans hR2.2 (fun k hk hlt => by have hk : k = g := hk; omega)
    clear hs1 hst hb1 hH1 hp2 hs2 hR2 hg1 hg0 k1 hwq
    go_quiet (fail)
    go_wp2
    go_ret
    exact ⟨rfl, k2.drewN nq⟩

set_option maxRecDepth 100000 in
theorem clone_none (A : Option Addr) (c : Nat) (w : World) : Calls Try.prog 47 #[.slice A 0 c] w fun e w' => ∃ A' c', e = .returned (.slice A' 0 c') ∧ Chg (fun _ => False) w w' := by
  obtain ⟨i0, hi0, hz0, hz1, hz2⟩ := info_parts info_u8
  have qT : ∀ (w : World) (a : Option Addr) (n c n' c' : Nat), (binOp .eql 22 (.slice a n c) (.slice none n' c')).run Try.prog w = .ok (.bool a.isNone) w := fun w a n c n' c' => Lib.run_eql_slice_nil w _ _ a n c n' c' Try.underlying22
  cases A with
  | none =>
    go_enter Try.func47, Try.ntmps47
    go_wp2
    go_ret
    exact ⟨_, _, rfl, Chg.refl _ _⟩
  | some ad =>
    have hown0 : (w.alloc (.cells #[] 5)).ownsRow w.heap.size 5 1 (.slice (some ⟨w.heap.size, 0, none⟩) 0 0) 0 [] := World.ownsRow_made w #[] 0 (Nat.le_refl _) (by simp [maxLen]) rfl
    go_enter Try.func47, Try.ntmps47
    go_wp2_with (first
      | (at_builtin
         refine wpList_append_rd _ (by rfl) (.tmp 5) (.tmp 6) 22 (by rfl) w.heap.size 5 i0 _ 1 1 Try.underlying22 hi0 hz0 hz1 hz2 (by rfl) (by omega) (.slice (some ⟨w.heap.size, 0, none⟩) 0 0) 0 [] (by rfl) hown0 (fun _ => True) (some ad) 0 c [] (by rfl) ⟨rfl, fun h => absurd h (Nat.lt_irrefl 0)⟩ (by simp) (by simp [maxLen]) (by omega) (by simp) ?_
         intro v' w' hown hgr hbl
         obtain ⟨A', c', rfl, hrd⟩ := own_rd hown))
    go_ret
    exact ⟨_, _, rfl, ((Chg.refl _ _).alloc _).grown hgr (fun k e => .inr (by simp [Value.ownBlock] at e; omega))⟩

set_option maxHeartbeats 1000000 in
set_option maxRecDepth 100000 in
theorem bytes_unlike0 (l m i o h e k n : Int) (A B : Option Addr) (ca lb cb : Nat) (w : World) :
    Calls Try.prog 45 #[.agg #[.int .i64 l, .int .i64 m, .int .i64 2, .int .i64 i, .int .i64 o, .int .i64 h, .int .i64 e], .agg #[.int .i64 k, .int .i64 n, .slice A 0 ca, .slice B lb cb]] w (TellPost false w) := by
  have hcl := clone_none
  have hso := sort_none
  replace hcl := Lib.hid hcl
  replace hso := Lib.hid hso
  have hwq : Chg (fun _ => False) w ((w.alloc (.cells #[.int .i64 l, .int .i64 m, .int .i64 2, .int .i64 i, .int .i64 o, .int .i64 h, .int .i64 e] 116)).alloc (.cells #[.int .i64 k, .int .i64 n, .slice A 0 ca, .slice B lb cb] 24)) := ((Chg.refl _ _).alloc _).alloc _
  go_enter Try.func45, Try.ntmps45
  go_wp2_with (first
    | (go_at_call 47
       refine (hcl.out _ _ _).mono ?_
       intro e1 w1 ho1
       obtain ⟨A', c', rfl, hc1⟩ := ho1)
    | (go_at_call 48
       refine (hso.out _ _ _).mono ?_
       intro e2 w2 ho2
       obtain ⟨rfl, hc2⟩ := ho2))
  have k2 : Chg (fun _ => False) w w2 := (hwq.trans hc1 (fun _ h _ => h)).trans hc2 (fun _ h _ => h)
  clear hc1 hc2 hwq
  go_quiet (fail)
  go_wp2
  go_ret
  exact ⟨rfl, k2.drewN nq⟩

theorem bytes_set (D : Nat → Prop) (l m i o h e k n : Int) (A B : Option Addr) (ca cb : Nat) (a b : Bs) (hl : a.length ≤ 100000) (w : World) (hA : Rd w D 1 A a.length (u8s a)) :
    Calls Try.prog 45 #[.agg #[.int .i64 l, .int .i64 m, .int .i64 2, .int .i64 i, .int .i64 o, .int .i64 h, .int .i64 e], .agg #[.int .i64 k, .int .i64 n, .slice A a.length ca, .slice B b.length cb]] w (TellPost ((wi a.length 1 64 && decide a.Nodup) && decide ((b.length : Int) ≤ a.length)) w) := by
  rcases Nat.eq_zero_or_pos a.length with h0 | h0
  · have e : ((wi a.length 1 64 && decide a.Nodup) && decide ((b.length : Int) ≤ a.length)) = false := by
      rw [h0]
      rfl
    rw [e, h0]
    exact bytes_unlike0 _ _ _ _ _ _ _ _ _ _ _ _ _ _
  · exact bytes_unlike D _ _ _ _ _ _ _ _ _ _ _ _ _ _ h0 hl w hA
end Go.Proofs.Ytkgmbomfkdkofaa

/- params.of: parameters that may not be. Printed by genof.py. -/
namespace Go.Proofs.Ytkgmbomfkdkofaa
open Go Go.RowKit

set_option maxHeartbeats 1000000 in
set_option maxRecDepth 100000 in
theorem of_low (κ n l m a i o h e : Int) (hk1 : 1 ≤ κ) (hk2 : κ ≤ 16) (hn0 : n < l) (A B : Option Addr) (la ca lb cb : Nat) (w : World) (hidx : ∀ w, (Instr.index 119 rulesV (.int .i64 κ)).run Try.prog w = .ok (.agg #[.int .i64 l, .int .i64 m, .int .i64 a, .int .i64 i, .int .i64 o, .int .i64 h, .int .i64 e]) w)
    : Calls Try.prog 43 #[.agg #[.int .i64 κ, .int .i64 n, .slice A la ca, .slice B lb cb]] w fun e w' => e = .returned (.tuple #[.agg #[.int .i64 0, .int .i64 0, .int .i64 0, .int .i64 0, .int .i64 0, .int .i64 0, .int .i64 0], .int .i64 11]) ∧ Chg (fun _ => False) w w' := by
  have hwq : Chg (fun _ => False) w ((w.alloc (.cells #[.int .i64 κ, .int .i64 n, .slice A la ca, .slice B lb cb] 24)).alloc (.cells #[.int .i64 0, .int .i64 0, .int .i64 0, .int .i64 0, .int .i64 0, .int .i64 0, .int .i64 0] 116)) := ((Chg.refl _ _).alloc _).alloc _
  have hst : Blk ((w.alloc (.cells #[.int .i64 κ, .int .i64 n, .slice A la ca, .slice B lb cb] 24)).alloc (.cells #[.int .i64 0, .int .i64 0, .int .i64 0, .int .i64 0, .int .i64 0, .int .i64 0, .int .i64 0] 116)) w.heap.size 24 #[.int .i64 κ, .int .i64 n, .slice A la ca, .slice B lb cb] := (Blk.new _ _ _).alloc _
  have hre : Blk ((w.alloc (.cells #[.int .i64 κ, .int .i64 n, .slice A la ca, .slice B lb cb] 24)).alloc (.cells #[.int .i64 0, .int .i64 0, .int .i64 0, .int .i64 0, .int .i64 0, .int .i64 0, .int .i64 0] 116)) (w.heap.size + 1) 116 #[.int .i64 0, .int .i64 0, .int .i64 0, .int .i64 0, .int .i64 0, .int .i64 0, .int .i64 0] := by
    have := Blk.new (w.alloc (.cells #[.int .i64 κ, .int .i64 n, .slice A la ca, .slice B lb cb] 24)) 116 #[.int .i64 0, .int .i64 0, .int .i64 0, .int .i64 0, .int .i64 0, .int .i64 0, .int .i64 0]
    simp only [World.size_alloc] at this
    exact this
  go_enter Try.func43, Try.ntmps43
  go_wp2
  generalize ((w.alloc (.cells #[.int .i64 κ, .int .i64 n, .slice A la ca, .slice B lb cb] 24)).alloc (.cells #[.int .i64 0, .int .i64 0, .int .i64 0, .int .i64 0, .int .i64 0, .int .i64 0, .int .i64 0] 116)) = wq at *
  generalize hg : w.heap.size = g at *
  have hg := Lib.hid hg
  have hS1 : ∀ W, Chg (fun _ => False) wq W → W.cell? ⟨g, 0, none⟩ = some (.int .i64 κ) ∧ Chg (fun _ => False) wq W := fun W hW => ⟨((hst.chg hW (fun h => h)).cell 0).trans rfl, hW⟩
  have hgq := Nat.le_refl wq.heap.size
  have c0 := Chg.refl (fun _ => False) wq
  have hSq := hS1 wq c0
  go_cut [4] from 13 (fun v4 W => ∃ g4, v4 = .pointer (some ⟨g4, 0, none⟩) ∧ Blk W g4 116 #[.int .i64 l, .int .i64 m, .int .i64 a, .int .i64 i, .int .i64 o, .int .i64 h, .int .i64 e] ∧ Chg (fun _ => False) wq W)
  case first =>
    go_region_held3 (fun W => W.cell? ⟨g, 0, none⟩ = some (.int .i64 κ) ∧ Chg (fun _ => False) wq W)
      (first
        | with_reducible exact hS1 _ c0.drew
        | with_reducible exact hS1 _ (c0.alloc _)
        | with_reducible exact hS1 _ (c0.alloc _).drew
        | with_reducible exact hS1 _ (c0.drew.alloc _)
        | with_reducible exact hS1 _ dX
        | with_reducible exact hS1 _ (dX.alloc _)
        | with_reducible exact hS1 _ (of_region_keep dX hgq _ _ _ _ _ _ _))
      (first
        | (go_at_call 44
           refine (rules_val _).mono ?_
           rintro e1 w1 ⟨rfl, hch1⟩
           go_split_ands
           have dX : Chg (fun _ => False) wq w1 := Chg.trans (by assumption) hch1 (fun _ h _ => h)
           first
             | (have hz : Blk w1 wq.heap.size 116 #[.int .i64 0, .int .i64 0, .int .i64 0, .int .i64 0, .int .i64 0, .int .i64 0, .int .i64 0] := by first | exact (Blk.new wq _ _).drew.chg hch1 (fun h => h) | exact (Blk.new wq _ _).chg hch1 (fun h => h)
                have z0 : w1.cell? ⟨wq.heap.size, 0, none⟩ = some (.int .i64 0) := (hz.cell 0).trans rfl
                have z1 : w1.cell? ⟨wq.heap.size, 1, none⟩ = some (.int .i64 0) := (hz.cell 1).trans rfl
                have z2 : w1.cell? ⟨wq.heap.size, 2, none⟩ = some (.int .i64 0) := (hz.cell 2).trans rfl
                have z3 : w1.cell? ⟨wq.heap.size, 3, none⟩ = some (.int .i64 0) := (hz.cell 3).trans rfl
                have z4 : w1.cell? ⟨wq.heap.size, 4, none⟩ = some (.int .i64 0) := (hz.cell 4).trans rfl
                have z5 : w1.cell? ⟨wq.heap.size, 5, none⟩ = some (.int .i64 0) := (hz.cell 5).trans rfl
                have z6 : w1.cell? ⟨wq.heap.size, 6, none⟩ = some (.int .i64 0) := (hz.cell 6).trans rfl
                have zf : ∀ i, w1.frozen? ⟨wq.heap.size, i, none⟩ = false := fun i => hz.frozen i)
             | skip))
    all_goals
      try clear z0 z1 z2 z3 z4 z5 z6 zf
      go_wp2_with fail
      go_meet
      first
        | with_reducible exact ⟨_, rfl, Blk.new w1 _ _, dX.alloc _⟩
        | exact ⟨_, rfl, ((((((hz.set 0 _).set 1 _).set 2 _).set 3 _).set 4 _).set 5 _).set 6 _, of_region_keep dX hgq _ _ _ _ _ _ _⟩
  case rest =>
    obtain ⟨g4, rfl, hb4, hcc⟩ := hcut
    have hcw := Lib.hid (hwq.trans hcc (fun _ h _ => h))
    have hbg := hst.chg hcc (fun h => h)
    have hbr := hre.chg hcc (fun h => h)
    have p0 : wc.cell? ⟨g, 0, none⟩ = some (.int .i64 κ) := (hbg.cell 0).trans rfl
    have p1 : wc.cell? ⟨g, 1, none⟩ = some (.int .i64 n) := (hbg.cell 1).trans rfl
    have p2 : wc.cell? ⟨g, 2, none⟩ = some (.slice A la ca) := (hbg.cell 2).trans rfl
    have p3 : wc.cell? ⟨g, 3, none⟩ = some (.slice B lb cb) := (hbg.cell 3).trans rfl
    have y0 : wc.cell? ⟨g + 1, 0, none⟩ = some (.int .i64 0) := (hbr.cell 0).trans rfl
    have yf : ∀ i, wc.frozen? ⟨g + 1, i, none⟩ = false := fun i => hbr.frozen i
    have z0 : wc.cell? ⟨g4, 0, none⟩ = some (.int .i64 l) := (hb4.cell 0).trans rfl
    have z1 : wc.cell? ⟨g4, 1, none⟩ = some (.int .i64 m) := (hb4.cell 1).trans rfl
    have z2 : wc.cell? ⟨g4, 2, none⟩ = some (.int .i64 a) := (hb4.cell 2).trans rfl
    have z3 : wc.cell? ⟨g4, 3, none⟩ = some (.int .i64 i) := (hb4.cell 3).trans rfl
    have z4 : wc.cell? ⟨g4, 4, none⟩ = some (.int .i64 o) := (hb4.cell 4).trans rfl
    have z5 : wc.cell? ⟨g4, 5, none⟩ = some (.int .i64 h) := (hb4.cell 5).trans rfl
    have z6 : wc.cell? ⟨g4, 6, none⟩ = some (.int .i64 e) := (hb4.cell 6).trans rfl
    clear hwq hst hre hS1 hgq c0 hSq hcc
    have hbr2 := hbr
    have hcw2 := hcw.out
    go_wp2_with (first
      | (refine wpList_store_row rfl 116 (.tmp 2) (.tmp 37) rfl (g + 1) _ rfl rfl 116 _ hbr2 info_rule rfl (by simp [Value.oneCell']) ?_))
    refine bodyPost_ret (results_cell_tmp_row rfl _ _ (g + 1) _ _ _ _ rfl (blk_setRow hbr2) Try.underlying116 rfl info_rule) rfl ?_
    refine ⟨rfl, ?_⟩
    exact chg_setRow hcw2 (.inr (by have := hg.out; omega)) _

set_option maxHeartbeats 1000000 in
set_option maxRecDepth 100000 in
theorem of_high (κ n l m a i o h e : Int) (hk1 : 1 ≤ κ) (hk2 : κ ≤ 16) (hn0 : l ≤ n) (hn1 : m < n) (A B : Option Addr) (la ca lb cb : Nat) (w : World) (hidx : ∀ w, (Instr.index 119 rulesV (.int .i64 κ)).run Try.prog w = .ok (.agg #[.int .i64 l, .int .i64 m, .int .i64 a, .int .i64 i, .int .i64 o, .int .i64 h, .int .i64 e]) w)
    : Calls Try.prog 43 #[.agg #[.int .i64 κ, .int .i64 n, .slice A la ca, .slice B lb cb]] w fun e w' => e = .returned (.tuple #[.agg #[.int .i64 0, .int .i64 0, .int .i64 0, .int .i64 0, .int .i64 0, .int .i64 0, .int .i64 0], .int .i64 11]) ∧ Chg (fun _ => False) w w' := by
  have hwq : Chg (fun _ => False) w ((w.alloc (.cells #[.int .i64 κ, .int .i64 n, .slice A la ca, .slice B lb cb] 24)).alloc (.cells #[.int .i64 0, .int .i64 0, .int .i64 0, .int .i64 0, .int .i64 0, .int .i64 0, .int .i64 0] 116)) := ((Chg.refl _ _).alloc _).alloc _
  have hst : Blk ((w.alloc (.cells #[.int .i64 κ, .int .i64 n, .slice A la ca, .slice B lb cb] 24)).alloc (.cells #[.int .i64 0, .int .i64 0, .int .i64 0, .int .i64 0, .int .i64 0, .int .i64 0, .int .i64 0] 116)) w.heap.size 24 #[.int .i64 κ, .int .i64 n, .slice A la ca, .slice B lb cb] := (Blk.new _ _ _).alloc _
  have hre : Blk ((w.alloc (.cells #[.int .i64 κ, .int .i64 n, .slice A la ca, .slice B lb cb] 24)).alloc (.cells #[.int .i64 0, .int .i64 0, .int .i64 0, .int .i64 0, .int .i64 0, .int .i64 0, .int .i64 0] 116)) (w.heap.size + 1) 116 #[.int .i64 0, .int .i64 0, .int .i64 0, .int .i64 0, .int .i64 0, .int .i64 0, .int .i64 0] := by
    have := Blk.new (w.alloc (.cells #[.int .i64 κ, .int .i64 n, .slice A la ca, .slice B lb cb] 24)) 116 #[.int .i64 0, .int .i64 0, .int .i64 0, .int .i64 0, .int .i64 0, .int .i64 0, .int .i64 0]
    simp only [World.size_alloc] at this
    exact this
  go_enter Try.func43, Try.ntmps43
  go_wp2
  generalize ((w.alloc (.cells #[.int .i64 κ, .int .i64 n, .slice A la ca, .slice B lb cb] 24)).alloc (.cells #[.int .i64 0, .int .i64 0, .int .i64 0, .int .i64 0, .int .i64 0, .int .i64 0, .int .i64 0] 116)) = wq at *
  generalize hg : w.heap.size = g at *
  have hg := Lib.hid hg
  have hS1 : ∀ W, Chg (fun _ => False) wq W → W.cell? ⟨g, 0, none⟩ = some (.int .i64 κ) ∧ Chg (fun _ => False) wq W := fun W hW => ⟨((hst.chg hW (fun h => h)).cell 0).trans rfl, hW⟩
  have hgq := Nat.le_refl wq.heap.size
  have c0 := Chg.refl (fun _ => False) wq
  have hSq := hS1 wq c0
  go_cut [4] from 13 (fun v4 W => ∃ g4, v4 = .pointer (some ⟨g4, 0, none⟩) ∧ Blk W g4 116 #[.int .i64 l, .int .i64 m, .int .i64 a, .int .i64 i, .int .i64 o, .int .i64 h, .int .i64 e] ∧ Chg (fun _ => False) wq W)
  case first =>
    go_region_held3 (fun W => W.cell? ⟨g, 0, none⟩ = some (.int .i64 κ) ∧ Chg (fun _ => False) wq W)
      (first
        | with_reducible exact hS1 _ c0.drew
        | with_reducible exact hS1 _ (c0.alloc _)
        | with_reducible exact hS1 _ (c0.alloc _).drew
        | with_reducible exact hS1 _ (c0.drew.alloc _)
        | with_reducible exact hS1 _ dX
        | with_reducible exact hS1 _ (dX.alloc _)
        | with_reducible exact hS1 _ (of_region_keep dX hgq _ _ _ _ _ _ _))
      (first
        | (go_at_call 44
           refine (rules_val _).mono ?_
           rintro e1 w1 ⟨rfl, hch1⟩
           go_split_ands
           have dX : Chg (fun _ => False) wq w1 := Chg.trans (by assumption) hch1 (fun _ h _ => h)
           first
             | (have hz : Blk w1 wq.heap.size 116 #[.int .i64 0, .int .i64 0, .int .i64 0, .int .i64 0, .int .i64 0, .int .i64 0, .int .i64 0] := by first | exact (Blk.new wq _ _).drew.chg hch1 (fun h => h) | exact (Blk.new wq _ _).chg hch1 (fun h => h)
                have z0 : w1.cell? ⟨wq.heap.size, 0, none⟩ = some (.int .i64 0) := (hz.cell 0).trans rfl
                have z1 : w1.cell? ⟨wq.heap.size, 1, none⟩ = some (.int .i64 0) := (hz.cell 1).trans rfl
                have z2 : w1.cell? ⟨wq.heap.size, 2, none⟩ = some (.int .i64 0) := (hz.cell 2).trans rfl
                have z3 : w1.cell? ⟨wq.heap.size, 3, none⟩ = some (.int .i64 0) := (hz.cell 3).trans rfl
                have z4 : w1.cell? ⟨wq.heap.size, 4, none⟩ = some (.int .i64 0) := (hz.cell 4).trans rfl
                have z5 : w1.cell? ⟨wq.heap.size, 5, none⟩ = some (.int .i64 0) := (hz.cell 5).trans rfl
                have z6 : w1.cell? ⟨wq.heap.size, 6, none⟩ = some (.int .i64 0) := (hz.cell 6).trans rfl
                have zf : ∀ i, w1.frozen? ⟨wq.heap.size, i, none⟩ = false := fun i => hz.frozen i)
             | skip))
    all_goals
      try clear z0 z1 z2 z3 z4 z5 z6 zf
      go_wp2_with fail
      go_meet
      first
        | with_reducible exact ⟨_, rfl, Blk.new w1 _ _, dX.alloc _⟩
        | exact ⟨_, rfl, ((((((hz.set 0 _).set 1 _).set 2 _).set 3 _).set 4 _).set 5 _).set 6 _, of_region_keep dX hgq _ _ _ _ _ _ _⟩
  case rest =>
    obtain ⟨g4, rfl, hb4, hcc⟩ := hcut
    have hcw := Lib.hid (hwq.trans hcc (fun _ h _ => h))
    have hbg := hst.chg hcc (fun h => h)
    have hbr := hre.chg hcc (fun h => h)
    have p0 : wc.cell? ⟨g, 0, none⟩ = some (.int .i64 κ) := (hbg.cell 0).trans rfl
    have p1 : wc.cell? ⟨g, 1, none⟩ = some (.int .i64 n) := (hbg.cell 1).trans rfl
    have p2 : wc.cell? ⟨g, 2, none⟩ = some (.slice A la ca) := (hbg.cell 2).trans rfl
    have p3 : wc.cell? ⟨g, 3, none⟩ = some (.slice B lb cb) := (hbg.cell 3).trans rfl
    have y0 : wc.cell? ⟨g + 1, 0, none⟩ = some (.int .i64 0) := (hbr.cell 0).trans rfl
    have yf : ∀ i, wc.frozen? ⟨g + 1, i, none⟩ = false := fun i => hbr.frozen i
    have z0 : wc.cell? ⟨g4, 0, none⟩ = some (.int .i64 l) := (hb4.cell 0).trans rfl
    have z1 : wc.cell? ⟨g4, 1, none⟩ = some (.int .i64 m) := (hb4.cell 1).trans rfl
    have z2 : wc.cell? ⟨g4, 2, none⟩ = some (.int .i64 a) := (hb4.cell 2).trans rfl
    have z3 : wc.cell? ⟨g4, 3, none⟩ = some (.int .i64 i) := (hb4.cell 3).trans rfl
    have z4 : wc.cell? ⟨g4, 4, none⟩ = some (.int .i64 o) := (hb4.cell 4).trans rfl
    have z5 : wc.cell? ⟨g4, 5, none⟩ = some (.int .i64 h) := (hb4.cell 5).trans rfl
    have z6 : wc.cell? ⟨g4, 6, none⟩ = some (.int .i64 e) := (hb4.cell 6).trans rfl
    clear hwq hst hre hS1 hgq c0 hSq hcc
    have hbr2 := hbr
    have hcw2 := hcw.out
    go_wp2_with (first
      | (refine wpList_store_row rfl 116 (.tmp 2) (.tmp 37) rfl (g + 1) _ rfl rfl 116 _ hbr2 info_rule rfl (by simp [Value.oneCell']) ?_))
    refine bodyPost_ret (results_cell_tmp_row rfl _ _ (g + 1) _ _ _ _ rfl (blk_setRow hbr2) Try.underlying116 rfl info_rule) rfl ?_
    refine ⟨rfl, ?_⟩
    exact chg_setRow hcw2 (.inr (by have := hg.out; omega)) _

set_option maxHeartbeats 1000000 in
set_option maxRecDepth 100000 in
theorem of_bad (κ n l m a i o h e : Int) (hk1 : 1 ≤ κ) (hk2 : κ ≤ 16) (hn0 : l ≤ n) (hn1 : n ≤ m) (A B : Option Addr) (la ca lb cb : Nat) (w : World) (hidx : ∀ w, (Instr.index 119 rulesV (.int .i64 κ)).run Try.prog w = .ok (.agg #[.int .i64 l, .int .i64 m, .int .i64 a, .int .i64 i, .int .i64 o, .int .i64 h, .int .i64 e]) w)
    (hby : ∀ W, Chg (fun _ => False) w W → Calls Try.prog 45 #[.agg #[.int .i64 l, .int .i64 m, .int .i64 a, .int .i64 i, .int .i64 o, .int .i64 h, .int .i64 e], .agg #[.int .i64 κ, .int .i64 n, .slice A la ca, .slice B lb cb]] W fun r w' => r = .returned (.bool false) ∧ Chg (fun _ => False) W w')
    : Calls Try.prog 43 #[.agg #[.int .i64 κ, .int .i64 n, .slice A la ca, .slice B lb cb]] w fun e w' => e = .returned (.tuple #[.agg #[.int .i64 0, .int .i64 0, .int .i64 0, .int .i64 0, .int .i64 0, .int .i64 0, .int .i64 0], .int .i64 11]) ∧ Chg (fun _ => False) w w' := by
  have hby := Lib.hid hby
  have hwq : Chg (fun _ => False) w ((w.alloc (.cells #[.int .i64 κ, .int .i64 n, .slice A la ca, .slice B lb cb] 24)).alloc (.cells #[.int .i64 0, .int .i64 0, .int .i64 0, .int .i64 0, .int .i64 0, .int .i64 0, .int .i64 0] 116)) := ((Chg.refl _ _).alloc _).alloc _
  have hst : Blk ((w.alloc (.cells #[.int .i64 κ, .int .i64 n, .slice A la ca, .slice B lb cb] 24)).alloc (.cells #[.int .i64 0, .int .i64 0, .int .i64 0, .int .i64 0, .int .i64 0, .int .i64 0, .int .i64 0] 116)) w.heap.size 24 #[.int .i64 κ, .int .i64 n, .slice A la ca, .slice B lb cb] := (Blk.new _ _ _).alloc _
  have hre : Blk ((w.alloc (.cells #[.int .i64 κ, .int .i64 n, .slice A la ca, .slice B lb cb] 24)).alloc (.cells #[.int .i64 0, .int .i64 0, .int .i64 0, .int .i64 0, .int .i64 0, .int .i64 0, .int .i64 0] 116)) (w.heap.size + 1) 116 #[.int .i64 0, .int .i64 0, .int .i64 0, .int .i64 0, .int .i64 0, .int .i64 0, .int .i64 0] := by
    have := Blk.new (w.alloc (.cells #[.int .i64 κ, .int .i64 n, .slice A la ca, .slice B lb cb] 24)) 116 #[.int .i64 0, .int .i64 0, .int .i64 0, .int .i64 0, .int .i64 0, .int .i64 0, .int .i64 0]
    simp only [World.size_alloc] at this
    exact this
  go_enter Try.func43, Try.ntmps43
  go_wp2
  generalize ((w.alloc (.cells #[.int .i64 κ, .int .i64 n, .slice A la ca, .slice B lb cb] 24)).alloc (.cells #[.int .i64 0, .int .i64 0, .int .i64 0, .int .i64 0, .int .i64 0, .int .i64 0, .int .i64 0] 116)) = wq at *
  generalize hg : w.heap.size = g at *
  have hg := Lib.hid hg
  have hS1 : ∀ W, Chg (fun _ => False) wq W → W.cell? ⟨g, 0, none⟩ = some (.int .i64 κ) ∧ Chg (fun _ => False) wq W := fun W hW => ⟨((hst.chg hW (fun h => h)).cell 0).trans rfl, hW⟩
  have hgq := Nat.le_refl wq.heap.size
  have c0 := Chg.refl (fun _ => False) wq
  have hSq := hS1 wq c0
  go_cut [4] from 13 (fun v4 W => ∃ g4, v4 = .pointer (some ⟨g4, 0, none⟩) ∧ Blk W g4 116 #[.int .i64 l, .int .i64 m, .int .i64 a, .int .i64 i, .int .i64 o, .int .i64 h, .int .i64 e] ∧ Chg (fun _ => False) wq W)
  case first =>
    go_region_held3 (fun W => W.cell? ⟨g, 0, none⟩ = some (.int .i64 κ) ∧ Chg (fun _ => False) wq W)
      (first
        | with_reducible exact hS1 _ c0.drew
        | with_reducible exact hS1 _ (c0.alloc _)
        | with_reducible exact hS1 _ (c0.alloc _).drew
        | with_reducible exact hS1 _ (c0.drew.alloc _)
        | with_reducible exact hS1 _ dX
        | with_reducible exact hS1 _ (dX.alloc _)
        | with_reducible exact hS1 _ (of_region_keep dX hgq _ _ _ _ _ _ _))
      (first
        | (go_at_call 44
           refine (rules_val _).mono ?_
           rintro e1 w1 ⟨rfl, hch1⟩
           go_split_ands
           have dX : Chg (fun _ => False) wq w1 := Chg.trans (by assumption) hch1 (fun _ h _ => h)
           first
             | (have hz : Blk w1 wq.heap.size 116 #[.int .i64 0, .int .i64 0, .int .i64 0, .int .i64 0, .int .i64 0, .int .i64 0, .int .i64 0] := by first | exact (Blk.new wq _ _).drew.chg hch1 (fun h => h) | exact (Blk.new wq _ _).chg hch1 (fun h => h)
                have z0 : w1.cell? ⟨wq.heap.size, 0, none⟩ = some (.int .i64 0) := (hz.cell 0).trans rfl
                have z1 : w1.cell? ⟨wq.heap.size, 1, none⟩ = some (.int .i64 0) := (hz.cell 1).trans rfl
                have z2 : w1.cell? ⟨wq.heap.size, 2, none⟩ = some (.int .i64 0) := (hz.cell 2).trans rfl
                have z3 : w1.cell? ⟨wq.heap.size, 3, none⟩ = some (.int .i64 0) := (hz.cell 3).trans rfl
                have z4 : w1.cell? ⟨wq.heap.size, 4, none⟩ = some (.int .i64 0) := (hz.cell 4).trans rfl
                have z5 : w1.cell? ⟨wq.heap.size, 5, none⟩ = some (.int .i64 0) := (hz.cell 5).trans rfl
                have z6 : w1.cell? ⟨wq.heap.size, 6, none⟩ = some (.int .i64 0) := (hz.cell 6).trans rfl
                have zf : ∀ i, w1.frozen? ⟨wq.heap.size, i, none⟩ = false := fun i => hz.frozen i)
             | skip))
    all_goals
      try clear z0 z1 z2 z3 z4 z5 z6 zf
      go_wp2_with fail
      go_meet
      first
        | with_reducible exact ⟨_, rfl, Blk.new w1 _ _, dX.alloc _⟩
        | exact ⟨_, rfl, ((((((hz.set 0 _).set 1 _).set 2 _).set 3 _).set 4 _).set 5 _).set 6 _, of_region_keep dX hgq _ _ _ _ _ _ _⟩
  case rest =>
    obtain ⟨g4, rfl, hb4, hcc⟩ := hcut
    have hcw := Lib.hid (hwq.trans hcc (fun _ h _ => h))
    have hbg := hst.chg hcc (fun h => h)
    have hbr := hre.chg hcc (fun h => h)
    have p0 : wc.cell? ⟨g, 0, none⟩ = some (.int .i64 κ) := (hbg.cell 0).trans rfl
    have p1 : wc.cell? ⟨g, 1, none⟩ = some (.int .i64 n) := (hbg.cell 1).trans rfl
    have p2 : wc.cell? ⟨g, 2, none⟩ = some (.slice A la ca) := (hbg.cell 2).trans rfl
    have p3 : wc.cell? ⟨g, 3, none⟩ = some (.slice B lb cb) := (hbg.cell 3).trans rfl
    have y0 : wc.cell? ⟨g + 1, 0, none⟩ = some (.int .i64 0) := (hbr.cell 0).trans rfl
    have yf : ∀ i, wc.frozen? ⟨g + 1, i, none⟩ = false := fun i => hbr.frozen i
    have z0 : wc.cell? ⟨g4, 0, none⟩ = some (.int .i64 l) := (hb4.cell 0).trans rfl
    have z1 : wc.cell? ⟨g4, 1, none⟩ = some (.int .i64 m) := (hb4.cell 1).trans rfl
    have z2 : wc.cell? ⟨g4, 2, none⟩ = some (.int .i64 a) := (hb4.cell 2).trans rfl
    have z3 : wc.cell? ⟨g4, 3, none⟩ = some (.int .i64 i) := (hb4.cell 3).trans rfl
    have z4 : wc.cell? ⟨g4, 4, none⟩ = some (.int .i64 o) := (hb4.cell 4).trans rfl
    have z5 : wc.cell? ⟨g4, 5, none⟩ = some (.int .i64 h) := (hb4.cell 5).trans rfl
    have z6 : wc.cell? ⟨g4, 6, none⟩ = some (.int .i64 e) := (hb4.cell 6).trans rfl
    clear hwq hst hre hS1 hgq c0 hSq hcc
    go_wp2_with (first
      | (go_at_call 45
         refine (hby.out _ (hcw.out)).mono ?_
         rintro e2 w2 ⟨rfl, hc2⟩
         have hb42 := hb4.chg hc2 (fun h => h)
         have hbr2 := hbr.chg hc2 (fun h => h)
         have hbg2 := hbg.chg hc2 (fun h => h)
         have r1 : w2.cell? ⟨g, 1, none⟩ = some (.int .i64 n) := (hbg2.cell 1).trans rfl
         have x0 : w2.cell? ⟨g4, 0, none⟩ = some (.int .i64 l) := (hb42.cell 0).trans rfl
         have x1 : w2.cell? ⟨g4, 1, none⟩ = some (.int .i64 m) := (hb42.cell 1).trans rfl
         have x2 : w2.cell? ⟨g4, 2, none⟩ = some (.int .i64 a) := (hb42.cell 2).trans rfl
         have x3 : w2.cell? ⟨g4, 3, none⟩ = some (.int .i64 i) := (hb42.cell 3).trans rfl
         have x4 : w2.cell? ⟨g4, 4, none⟩ = some (.int .i64 o) := (hb42.cell 4).trans rfl
         have x5 : w2.cell? ⟨g4, 5, none⟩ = some (.int .i64 h) := (hb42.cell 5).trans rfl
         have x6 : w2.cell? ⟨g4, 6, none⟩ = some (.int .i64 e) := (hb42.cell 6).trans rfl
         have hcw2 := hcw.out.trans hc2 (fun _ h _ => h))
      | (refine wpList_store_row rfl 116 (.tmp 2) (.tmp 37) rfl (g + 1) _ rfl rfl 116 _ hbr2 info_rule rfl (by simp [Value.oneCell']) ?_))
    refine bodyPost_ret (results_cell_tmp_row rfl _ _ (g + 1) _ _ _ _ rfl (blk_setRow hbr2) Try.underlying116 rfl info_rule) rfl ?_
    refine ⟨rfl, ?_⟩
    exact chg_setRow hcw2 (.inr (by have := hg.out; omega)) _

set_option maxRecDepth 100000 in
theorem of_kind (κ n : Int) (hk : κ < 1 ∨ 16 < κ) (A B : Option Addr) (la ca lb cb : Nat) (w : World) :
    Calls Try.prog 43 #[.agg #[.int .i64 κ, .int .i64 n, .slice A la ca, .slice B lb cb]] w fun e w' => e = .returned (.tuple #[.agg #[.int .i64 0, .int .i64 0, .int .i64 0, .int .i64 0, .int .i64 0, .int .i64 0, .int .i64 0], .int .i64 10]) ∧ Chg (fun _ => False) w w' := by
  have hre : Blk ((w.alloc (.cells #[.int .i64 κ, .int .i64 n, .slice A la ca, .slice B lb cb] 24)).alloc (.cells #[.int .i64 0, .int .i64 0, .int .i64 0, .int .i64 0, .int .i64 0, .int .i64 0, .int .i64 0] 116)) (w.heap.size + 1) 116 #[.int .i64 0, .int .i64 0, .int .i64 0, .int .i64 0, .int .i64 0, .int .i64 0, .int .i64 0] := by
    have := Blk.new (w.alloc (.cells #[.int .i64 κ, .int .i64 n, .slice A la ca, .slice B lb cb] 24)) 116 #[.int .i64 0, .int .i64 0, .int .i64 0, .int .i64 0, .int .i64 0, .int .i64 0, .int .i64 0]
    simp only [World.size_alloc] at this
    exact this
  have hwq : Chg (fun _ => False) w ((w.alloc (.cells #[.int .i64 κ, .int .i64 n, .slice A la ca, .slice B lb cb] 24)).alloc (.cells #[.int .i64 0, .int .i64 0, .int .i64 0, .int .i64 0, .int .i64 0, .int .i64 0, .int .i64 0] 116)) := ((Chg.refl _ _).alloc _).alloc _
  by_cases h1 : κ < 1
  · clear hk
    go_enter Try.func43, Try.ntmps43
    go_wp2_with (first
      | (refine wpList_store_row rfl 116 (.tmp 2) (.tmp 13) rfl (w.heap.size + 1) _ rfl rfl 116 _ hre info_rule rfl (by simp [Value.oneCell']) ?_))
    refine bodyPost_ret (results_cell_tmp_row rfl _ _ (w.heap.size + 1) _ _ _ _ rfl (blk_setRow hre) Try.underlying116 rfl info_rule) rfl ?_
    exact ⟨rfl, chg_setRow hwq (.inr (by omega)) _⟩
  · have h2 : 16 < κ := by omega
    have h3 : 1 ≤ κ := by omega
    clear hk h1
    go_enter Try.func43, Try.ntmps43
    go_wp2_with (first
      | (refine wpList_store_row rfl 116 (.tmp 2) (.tmp 13) rfl (w.heap.size + 1) _ rfl rfl 116 _ hre info_rule rfl (by simp [Value.oneCell']) ?_))
    refine bodyPost_ret (results_cell_tmp_row rfl _ _ (w.heap.size + 1) _ _ _ _ rfl (blk_setRow hre) Try.underlying116 rfl info_rule) rfl ?_
    exact ⟨rfl, chg_setRow hwq (.inr (by omega)) _⟩

end Go.Proofs.Ytkgmbomfkdkofaa

/- params.of: tail, and too much state. Printed by genof.py. -/
namespace Go.Proofs.Ytkgmbomfkdkofaa
open Go Go.RowKit

set_option maxHeartbeats 1000000 in
set_option maxRecDepth 100000 in
theorem of_4 (n : Int) (hn0 : 0 ≤ n) (hn1 : n ≤ 31) (A B : Option Addr) (la ca lb cb : Nat) (w : World) (hidx : ∀ w, (Instr.index 119 rulesV (.int .i64 4)).run Try.prog w = .ok (.agg #[.int .i64 0, .int .i64 9223372036854775807, .int .i64 0, .int .i64 1, .int .i64 1, .int .i64 64, .int .i64 64]) w)
    (hby : ∀ W, Chg (fun _ => False) w W → Calls Try.prog 45 #[.agg #[.int .i64 0, .int .i64 9223372036854775807, .int .i64 0, .int .i64 1, .int .i64 1, .int .i64 64, .int .i64 64], .agg #[.int .i64 4, .int .i64 n, .slice A la ca, .slice B lb cb]] W fun r w' => r = .returned (.bool true) ∧ Chg (fun _ => False) W w')
    : Calls Try.prog 43 #[.agg #[.int .i64 4, .int .i64 n, .slice A la ca, .slice B lb cb]] w fun e w' => e = .returned (.tuple #[.agg #[.int .i64 0, .int .i64 9223372036854775807, .int .i64 0, .int .i64 1, .int .i64 1, .int .i64 64, .int .i64 64], .int .i64 0]) ∧ Chg (fun _ => False) w w' := by
  have hby := Lib.hid hby
  have hwq : Chg (fun _ => False) w ((w.alloc (.cells #[.int .i64 4, .int .i64 n, .slice A la ca, .slice B lb cb] 24)).alloc (.cells #[.int .i64 0, .int .i64 0, .int .i64 0, .int .i64 0, .int .i64 0, .int .i64 0, .int .i64 0] 116)) := ((Chg.refl _ _).alloc _).alloc _
  have hst : Blk ((w.alloc (.cells #[.int .i64 4, .int .i64 n, .slice A la ca, .slice B lb cb] 24)).alloc (.cells #[.int .i64 0, .int .i64 0, .int .i64 0, .int .i64 0, .int .i64 0, .int .i64 0, .int .i64 0] 116)) w.heap.size 24 #[.int .i64 4, .int .i64 n, .slice A la ca, .slice B lb cb] := (Blk.new _ _ _).alloc _
  have hre : Blk ((w.alloc (.cells #[.int .i64 4, .int .i64 n, .slice A la ca, .slice B lb cb] 24)).alloc (.cells #[.int .i64 0, .int .i64 0, .int .i64 0, .int .i64 0, .int .i64 0, .int .i64 0, .int .i64 0] 116)) (w.heap.size + 1) 116 #[.int .i64 0, .int .i64 0, .int .i64 0, .int .i64 0, .int .i64 0, .int .i64 0, .int .i64 0] := by
    have := Blk.new (w.alloc (.cells #[.int .i64 4, .int .i64 n, .slice A la ca, .slice B lb cb] 24)) 116 #[.int .i64 0, .int .i64 0, .int .i64 0, .int .i64 0, .int .i64 0, .int .i64 0, .int .i64 0]
    simp only [World.size_alloc] at this
    exact this
  go_enter Try.func43, Try.ntmps43
  go_wp2
  generalize ((w.alloc (.cells #[.int .i64 4, .int .i64 n, .slice A la ca, .slice B lb cb] 24)).alloc (.cells #[.int .i64 0, .int .i64 0, .int .i64 0, .int .i64 0, .int .i64 0, .int .i64 0, .int .i64 0] 116)) = wq at *
  generalize hg : w.heap.size = g at *
  have hg := Lib.hid hg
  have hS1 : ∀ W, Chg (fun _ => False) wq W → W.cell? ⟨g, 0, none⟩ = some (.int .i64 4) ∧ Chg (fun _ => False) wq W := fun W hW => ⟨((hst.chg hW (fun h => h)).cell 0).trans rfl, hW⟩
  have hgq := Nat.le_refl wq.heap.size
  have c0 := Chg.refl (fun _ => False) wq
  have hSq := hS1 wq c0
  go_cut [4] from 13 (fun v4 W => ∃ g4, v4 = .pointer (some ⟨g4, 0, none⟩) ∧ Blk W g4 116 #[.int .i64 0, .int .i64 9223372036854775807, .int .i64 0, .int .i64 1, .int .i64 1, .int .i64 64, .int .i64 64] ∧ Chg (fun _ => False) wq W)
  case first =>
    go_region_held3 (fun W => W.cell? ⟨g, 0, none⟩ = some (.int .i64 4) ∧ Chg (fun _ => False) wq W)
      (first
        | with_reducible exact hS1 _ c0.drew
        | with_reducible exact hS1 _ (c0.alloc _)
        | with_reducible exact hS1 _ (c0.alloc _).drew
        | with_reducible exact hS1 _ (c0.drew.alloc _)
        | with_reducible exact hS1 _ dX
        | with_reducible exact hS1 _ (dX.alloc _)
        | with_reducible exact hS1 _ (of_region_keep dX hgq _ _ _ _ _ _ _))
      (first
        | (go_at_call 44
           refine (rules_val _).mono ?_
           rintro e1 w1 ⟨rfl, hch1⟩
           go_split_ands
           have dX : Chg (fun _ => False) wq w1 := Chg.trans (by assumption) hch1 (fun _ h _ => h)
           first
             | (have hz : Blk w1 wq.heap.size 116 #[.int .i64 0, .int .i64 0, .int .i64 0, .int .i64 0, .int .i64 0, .int .i64 0, .int .i64 0] := by first | exact (Blk.new wq _ _).drew.chg hch1 (fun h => h) | exact (Blk.new wq _ _).chg hch1 (fun h => h)
                have z0 : w1.cell? ⟨wq.heap.size, 0, none⟩ = some (.int .i64 0) := (hz.cell 0).trans rfl
                have z1 : w1.cell? ⟨wq.heap.size, 1, none⟩ = some (.int .i64 0) := (hz.cell 1).trans rfl
                have z2 : w1.cell? ⟨wq.heap.size, 2, none⟩ = some (.int .i64 0) := (hz.cell 2).trans rfl
                have z3 : w1.cell? ⟨wq.heap.size, 3, none⟩ = some (.int .i64 0) := (hz.cell 3).trans rfl
                have z4 : w1.cell? ⟨wq.heap.size, 4, none⟩ = some (.int .i64 0) := (hz.cell 4).trans rfl
                have z5 : w1.cell? ⟨wq.heap.size, 5, none⟩ = some (.int .i64 0) := (hz.cell 5).trans rfl
                have z6 : w1.cell? ⟨wq.heap.size, 6, none⟩ = some (.int .i64 0) := (hz.cell 6).trans rfl
                have zf : ∀ i, w1.frozen? ⟨wq.heap.size, i, none⟩ = false := fun i => hz.frozen i)
             | skip))
    all_goals
      try clear z0 z1 z2 z3 z4 z5 z6 zf
      go_wp2_with fail
      go_meet
      first
        | with_reducible exact ⟨_, rfl, Blk.new w1 _ _, dX.alloc _⟩
        | exact ⟨_, rfl, ((((((hz.set 0 _).set 1 _).set 2 _).set 3 _).set 4 _).set 5 _).set 6 _, of_region_keep dX hgq _ _ _ _ _ _ _⟩
  case rest =>
    obtain ⟨g4, rfl, hb4, hcc⟩ := hcut
    have hcw := Lib.hid (hwq.trans hcc (fun _ h _ => h))
    have hbg := hst.chg hcc (fun h => h)
    have hbr := hre.chg hcc (fun h => h)
    have p0 : wc.cell? ⟨g, 0, none⟩ = some (.int .i64 4) := (hbg.cell 0).trans rfl
    have p1 : wc.cell? ⟨g, 1, none⟩ = some (.int .i64 n) := (hbg.cell 1).trans rfl
    have p2 : wc.cell? ⟨g, 2, none⟩ = some (.slice A la ca) := (hbg.cell 2).trans rfl
    have p3 : wc.cell? ⟨g, 3, none⟩ = some (.slice B lb cb) := (hbg.cell 3).trans rfl
    have y0 : wc.cell? ⟨g + 1, 0, none⟩ = some (.int .i64 0) := (hbr.cell 0).trans rfl
    have yf : ∀ i, wc.frozen? ⟨g + 1, i, none⟩ = false := fun i => hbr.frozen i
    have z0 : wc.cell? ⟨g4, 0, none⟩ = some (.int .i64 0) := (hb4.cell 0).trans rfl
    have z1 : wc.cell? ⟨g4, 1, none⟩ = some (.int .i64 9223372036854775807) := (hb4.cell 1).trans rfl
    have z2 : wc.cell? ⟨g4, 2, none⟩ = some (.int .i64 0) := (hb4.cell 2).trans rfl
    have z3 : wc.cell? ⟨g4, 3, none⟩ = some (.int .i64 1) := (hb4.cell 3).trans rfl
    have z4 : wc.cell? ⟨g4, 4, none⟩ = some (.int .i64 1) := (hb4.cell 4).trans rfl
    have z5 : wc.cell? ⟨g4, 5, none⟩ = some (.int .i64 64) := (hb4.cell 5).trans rfl
    have z6 : wc.cell? ⟨g4, 6, none⟩ = some (.int .i64 64) := (hb4.cell 6).trans rfl
    clear hwq hst hre hS1 hgq c0 hSq hcc
    go_wp2_with (first
      | (go_at_call 45
         refine (hby.out _ (hcw.out)).mono ?_
         rintro e2 w2 ⟨rfl, hc2⟩
         have hb42 := hb4.chg hc2 (fun h => h)
         have hbr2 := hbr.chg hc2 (fun h => h)
         have hbg2 := hbg.chg hc2 (fun h => h)
         have r1 : w2.cell? ⟨g, 1, none⟩ = some (.int .i64 n) := (hbg2.cell 1).trans rfl
         have x0 : w2.cell? ⟨g4, 0, none⟩ = some (.int .i64 0) := (hb42.cell 0).trans rfl
         have x1 : w2.cell? ⟨g4, 1, none⟩ = some (.int .i64 9223372036854775807) := (hb42.cell 1).trans rfl
         have x2 : w2.cell? ⟨g4, 2, none⟩ = some (.int .i64 0) := (hb42.cell 2).trans rfl
         have x3 : w2.cell? ⟨g4, 3, none⟩ = some (.int .i64 1) := (hb42.cell 3).trans rfl
         have x4 : w2.cell? ⟨g4, 4, none⟩ = some (.int .i64 1) := (hb42.cell 4).trans rfl
         have x5 : w2.cell? ⟨g4, 5, none⟩ = some (.int .i64 64) := (hb42.cell 5).trans rfl
         have x6 : w2.cell? ⟨g4, 6, none⟩ = some (.int .i64 64) := (hb42.cell 6).trans rfl))
    have hcw2 := hcw.out.trans hc2 (fun _ h _ => h)
    go_quiet (fail)
    have hbn := hbr2.drewN nq
    go_wp2_with (first
      | (refine wpList_store_row rfl 116 (.tmp 2) (.tmp 54) rfl (g + 1) _ rfl rfl 116 _ hbn info_rule rfl (by simp [Value.oneCell']) ?_))
    refine bodyPost_ret (results_cell_tmp_row rfl _ _ (g + 1) _ _ _ _ rfl (blk_setRow hbn) Try.underlying116 rfl info_rule) rfl ?_
    refine ⟨rfl, ?_⟩
    exact chg_setRow (hcw2.drewN nq) (.inr (by have := hg.out; omega)) _

set_option maxHeartbeats 1000000 in
set_option maxRecDepth 100000 in
theorem of_over4 (n : Int) (hn0 : 31 < n) (hn1 : n ≤ 9223372036854775807) (A B : Option Addr) (la ca lb cb : Nat) (w : World) (hidx : ∀ w, (Instr.index 119 rulesV (.int .i64 4)).run Try.prog w = .ok (.agg #[.int .i64 0, .int .i64 9223372036854775807, .int .i64 0, .int .i64 1, .int .i64 1, .int .i64 64, .int .i64 64]) w)
    (hby : ∀ W, Chg (fun _ => False) w W → Calls Try.prog 45 #[.agg #[.int .i64 0, .int .i64 9223372036854775807, .int .i64 0, .int .i64 1, .int .i64 1, .int .i64 64, .int .i64 64], .agg #[.int .i64 4, .int .i64 n, .slice A la ca, .slice B lb cb]] W fun r w' => r = .returned (.bool true) ∧ Chg (fun _ => False) W w')
    : Calls Try.prog 43 #[.agg #[.int .i64 4, .int .i64 n, .slice A la ca, .slice B lb cb]] w fun e w' => e = .returned (.tuple #[.agg #[.int .i64 0, .int .i64 0, .int .i64 0, .int .i64 0, .int .i64 0, .int .i64 0, .int .i64 0], .int .i64 12]) ∧ Chg (fun _ => False) w w' := by
  have hby := Lib.hid hby
  have hwq : Chg (fun _ => False) w ((w.alloc (.cells #[.int .i64 4, .int .i64 n, .slice A la ca, .slice B lb cb] 24)).alloc (.cells #[.int .i64 0, .int .i64 0, .int .i64 0, .int .i64 0, .int .i64 0, .int .i64 0, .int .i64 0] 116)) := ((Chg.refl _ _).alloc _).alloc _
  have hst : Blk ((w.alloc (.cells #[.int .i64 4, .int .i64 n, .slice A la ca, .slice B lb cb] 24)).alloc (.cells #[.int .i64 0, .int .i64 0, .int .i64 0, .int .i64 0, .int .i64 0, .int .i64 0, .int .i64 0] 116)) w.heap.size 24 #[.int .i64 4, .int .i64 n, .slice A la ca, .slice B lb cb] := (Blk.new _ _ _).alloc _
  have hre : Blk ((w.alloc (.cells #[.int .i64 4, .int .i64 n, .slice A la ca, .slice B lb cb] 24)).alloc (.cells #[.int .i64 0, .int .i64 0, .int .i64 0, .int .i64 0, .int .i64 0, .int .i64 0, .int .i64 0] 116)) (w.heap.size + 1) 116 #[.int .i64 0, .int .i64 0, .int .i64 0, .int .i64 0, .int .i64 0, .int .i64 0, .int .i64 0] := by
    have := Blk.new (w.alloc (.cells #[.int .i64 4, .int .i64 n, .slice A la ca, .slice B lb cb] 24)) 116 #[.int .i64 0, .int .i64 0, .int .i64 0, .int .i64 0, .int .i64 0, .int .i64 0, .int .i64 0]
    simp only [World.size_alloc] at this
    exact this
  go_enter Try.func43, Try.ntmps43
  go_wp2
  generalize ((w.alloc (.cells #[.int .i64 4, .int .i64 n, .slice A la ca, .slice B lb cb] 24)).alloc (.cells #[.int .i64 0, .int .i64 0, .int .i64 0, .int .i64 0, .int .i64 0, .int .i64 0, .int .i64 0] 116)) = wq at *
  generalize hg : w.heap.size = g at *
  have hg := Lib.hid hg
  have hS1 : ∀ W, Chg (fun _ => False) wq W → W.cell? ⟨g, 0, none⟩ = some (.int .i64 4) ∧ Chg (fun _ => False) wq W := fun W hW => ⟨((hst.chg hW (fun h => h)).cell 0).trans rfl, hW⟩
  have hgq := Nat.le_refl wq.heap.size
  have c0 := Chg.refl (fun _ => False) wq
  have hSq := hS1 wq c0
  go_cut [4] from 13 (fun v4 W => ∃ g4, v4 = .pointer (some ⟨g4, 0, none⟩) ∧ Blk W g4 116 #[.int .i64 0, .int .i64 9223372036854775807, .int .i64 0, .int .i64 1, .int .i64 1, .int .i64 64, .int .i64 64] ∧ Chg (fun _ => False) wq W)
  case first =>
    go_region_held3 (fun W => W.cell? ⟨g, 0, none⟩ = some (.int .i64 4) ∧ Chg (fun _ => False) wq W)
      (first
        | with_reducible exact hS1 _ c0.drew
        | with_reducible exact hS1 _ (c0.alloc _)
        | with_reducible exact hS1 _ (c0.alloc _).drew
        | with_reducible exact hS1 _ (c0.drew.alloc _)
        | with_reducible exact hS1 _ dX
        | with_reducible exact hS1 _ (dX.alloc _)
        | with_reducible exact hS1 _ (of_region_keep dX hgq _ _ _ _ _ _ _))
      (first
        | (go_at_call 44
           refine (rules_val _).mono ?_
           rintro e1 w1 ⟨rfl, hch1⟩
           go_split_ands
           have dX : Chg (fun _ => False) wq w1 := Chg.trans (by assumption) hch1 (fun _ h _ => h)
           first
             | (have hz : Blk w1 wq.heap.size 116 #[.int .i64 0, .int .i64 0, .int .i64 0, .int .i64 0, .int .i64 0, .int .i64 0, .int .i64 0] := by first | exact (Blk.new wq _ _).drew.chg hch1 (fun h => h) | exact (Blk.new wq _ _).chg hch1 (fun h => h)
                have z0 : w1.cell? ⟨wq.heap.size, 0, none⟩ = some (.int .i64 0) := (hz.cell 0).trans rfl
                have z1 : w1.cell? ⟨wq.heap.size, 1, none⟩ = some (.int .i64 0) := (hz.cell 1).trans rfl
                have z2 : w1.cell? ⟨wq.heap.size, 2, none⟩ = some (.int .i64 0) := (hz.cell 2).trans rfl
                have z3 : w1.cell? ⟨wq.heap.size, 3, none⟩ = some (.int .i64 0) := (hz.cell 3).trans rfl
                have z4 : w1.cell? ⟨wq.heap.size, 4, none⟩ = some (.int .i64 0) := (hz.cell 4).trans rfl
                have z5 : w1.cell? ⟨wq.heap.size, 5, none⟩ = some (.int .i64 0) := (hz.cell 5).trans rfl
                have z6 : w1.cell? ⟨wq.heap.size, 6, none⟩ = some (.int .i64 0) := (hz.cell 6).trans rfl
                have zf : ∀ i, w1.frozen? ⟨wq.heap.size, i, none⟩ = false := fun i => hz.frozen i)
             | skip))
    all_goals
      try clear z0 z1 z2 z3 z4 z5 z6 zf
      go_wp2_with fail
      go_meet
      first
        | with_reducible exact ⟨_, rfl, Blk.new w1 _ _, dX.alloc _⟩
        | exact ⟨_, rfl, ((((((hz.set 0 _).set 1 _).set 2 _).set 3 _).set 4 _).set 5 _).set 6 _, of_region_keep dX hgq _ _ _ _ _ _ _⟩
  case rest =>
    obtain ⟨g4, rfl, hb4, hcc⟩ := hcut
    have hcw := Lib.hid (hwq.trans hcc (fun _ h _ => h))
    have hbg := hst.chg hcc (fun h => h)
    have hbr := hre.chg hcc (fun h => h)
    have p0 : wc.cell? ⟨g, 0, none⟩ = some (.int .i64 4) := (hbg.cell 0).trans rfl
    have p1 : wc.cell? ⟨g, 1, none⟩ = some (.int .i64 n) := (hbg.cell 1).trans rfl
    have p2 : wc.cell? ⟨g, 2, none⟩ = some (.slice A la ca) := (hbg.cell 2).trans rfl
    have p3 : wc.cell? ⟨g, 3, none⟩ = some (.slice B lb cb) := (hbg.cell 3).trans rfl
    have y0 : wc.cell? ⟨g + 1, 0, none⟩ = some (.int .i64 0) := (hbr.cell 0).trans rfl
    have yf : ∀ i, wc.frozen? ⟨g + 1, i, none⟩ = false := fun i => hbr.frozen i
    have z0 : wc.cell? ⟨g4, 0, none⟩ = some (.int .i64 0) := (hb4.cell 0).trans rfl
    have z1 : wc.cell? ⟨g4, 1, none⟩ = some (.int .i64 9223372036854775807) := (hb4.cell 1).trans rfl
    have z2 : wc.cell? ⟨g4, 2, none⟩ = some (.int .i64 0) := (hb4.cell 2).trans rfl
    have z3 : wc.cell? ⟨g4, 3, none⟩ = some (.int .i64 1) := (hb4.cell 3).trans rfl
    have z4 : wc.cell? ⟨g4, 4, none⟩ = some (.int .i64 1) := (hb4.cell 4).trans rfl
    have z5 : wc.cell? ⟨g4, 5, none⟩ = some (.int .i64 64) := (hb4.cell 5).trans rfl
    have z6 : wc.cell? ⟨g4, 6, none⟩ = some (.int .i64 64) := (hb4.cell 6).trans rfl
    clear hwq hst hre hS1 hgq c0 hSq hcc
    go_wp2_with (first
      | (go_at_call 45
         refine (hby.out _ (hcw.out)).mono ?_
         rintro e2 w2 ⟨rfl, hc2⟩
         have hb42 := hb4.chg hc2 (fun h => h)
         have hbr2 := hbr.chg hc2 (fun h => h)
         have hbg2 := hbg.chg hc2 (fun h => h)
         have r1 : w2.cell? ⟨g, 1, none⟩ = some (.int .i64 n) := (hbg2.cell 1).trans rfl
         have x0 : w2.cell? ⟨g4, 0, none⟩ = some (.int .i64 0) := (hb42.cell 0).trans rfl
         have x1 : w2.cell? ⟨g4, 1, none⟩ = some (.int .i64 9223372036854775807) := (hb42.cell 1).trans rfl
         have x2 : w2.cell? ⟨g4, 2, none⟩ = some (.int .i64 0) := (hb42.cell 2).trans rfl
         have x3 : w2.cell? ⟨g4, 3, none⟩ = some (.int .i64 1) := (hb42.cell 3).trans rfl
         have x4 : w2.cell? ⟨g4, 4, none⟩ = some (.int .i64 1) := (hb42.cell 4).trans rfl
         have x5 : w2.cell? ⟨g4, 5, none⟩ = some (.int .i64 64) := (hb42.cell 5).trans rfl
         have x6 : w2.cell? ⟨g4, 6, none⟩ = some (.int .i64 64) := (hb42.cell 6).trans rfl))
    have hcw2 := hcw.out.trans hc2 (fun _ h _ => h)
    go_quiet (fail)
    have hbn := hbr2.drewN nq
    go_wp2_with (first
      | (refine wpList_store_row rfl 116 (.tmp 2) (.tmp 53) rfl (g + 1) _ rfl rfl 116 _ hbn info_rule rfl (by simp [Value.oneCell']) ?_))
    refine bodyPost_ret (results_cell_tmp_row rfl _ _ (g + 1) _ _ _ _ rfl (blk_setRow hbn) Try.underlying116 rfl info_rule) rfl ?_
    refine ⟨rfl, ?_⟩
    exact chg_setRow (hcw2.drewN nq) (.inr (by have := hg.out; omega)) _

set_option maxHeartbeats 1000000 in
set_option maxRecDepth 100000 in
theorem of_over14 (n : Int) (hn0 : 14 < n) (hn1 : n ≤ 9223372036854775807) (A B : Option Addr) (la ca lb cb : Nat) (w : World) (hidx : ∀ w, (Instr.index 119 rulesV (.int .i64 14)).run Try.prog w = .ok (.agg #[.int .i64 1, .int .i64 9223372036854775807, .int .i64 3, .int .i64 2, .int .i64 1, .int .i64 192, .int .i64 128]) w)
    (hby : ∀ W, Chg (fun _ => False) w W → Calls Try.prog 45 #[.agg #[.int .i64 1, .int .i64 9223372036854775807, .int .i64 3, .int .i64 2, .int .i64 1, .int .i64 192, .int .i64 128], .agg #[.int .i64 14, .int .i64 n, .slice A la ca, .slice B lb cb]] W fun r w' => r = .returned (.bool true) ∧ Chg (fun _ => False) W w')
    : Calls Try.prog 43 #[.agg #[.int .i64 14, .int .i64 n, .slice A la ca, .slice B lb cb]] w fun e w' => e = .returned (.tuple #[.agg #[.int .i64 0, .int .i64 0, .int .i64 0, .int .i64 0, .int .i64 0, .int .i64 0, .int .i64 0], .int .i64 12]) ∧ Chg (fun _ => False) w w' := by
  have hby := Lib.hid hby
  have hwq : Chg (fun _ => False) w ((w.alloc (.cells #[.int .i64 14, .int .i64 n, .slice A la ca, .slice B lb cb] 24)).alloc (.cells #[.int .i64 0, .int .i64 0, .int .i64 0, .int .i64 0, .int .i64 0, .int .i64 0, .int .i64 0] 116)) := ((Chg.refl _ _).alloc _).alloc _
  have hst : Blk ((w.alloc (.cells #[.int .i64 14, .int .i64 n, .slice A la ca, .slice B lb cb] 24)).alloc (.cells #[.int .i64 0, .int .i64 0, .int .i64 0, .int .i64 0, .int .i64 0, .int .i64 0, .int .i64 0] 116)) w.heap.size 24 #[.int .i64 14, .int .i64 n, .slice A la ca, .slice B lb cb] := (Blk.new _ _ _).alloc _
  have hre : Blk ((w.alloc (.cells #[.int .i64 14, .int .i64 n, .slice A la ca, .slice B lb cb] 24)).alloc (.cells #[.int .i64 0, .int .i64 0, .int .i64 0, .int .i64 0, .int .i64 0, .int .i64 0, .int .i64 0] 116)) (w.heap.size + 1) 116 #[.int .i64 0, .int .i64 0, .int .i64 0, .int .i64 0, .int .i64 0, .int .i64 0, .int .i64 0] := by
    have := Blk.new (w.alloc (.cells #[.int .i64 14, .int .i64 n, .slice A la ca, .slice B lb cb] 24)) 116 #[.int .i64 0, .int .i64 0, .int .i64 0, .int .i64 0, .int .i64 0, .int .i64 0, .int .i64 0]
    simp only [World.size_alloc] at this
    exact this
  go_enter Try.func43, Try.ntmps43
  go_wp2
  generalize ((w.alloc (.cells #[.int .i64 14, .int .i64 n, .slice A la ca, .slice B lb cb] 24)).alloc (.cells #[.int .i64 0, .int .i64 0, .int .i64 0, .int .i64 0, .int .i64 0, .int .i64 0, .int .i64 0] 116)) = wq at *
  generalize hg : w.heap.size = g at *
  have hg := Lib.hid hg
  have hS1 : ∀ W, Chg (fun _ => False) wq W → W.cell? ⟨g, 0, none⟩ = some (.int .i64 14) ∧ Chg (fun _ => False) wq W := fun W hW => ⟨((hst.chg hW (fun h => h)).cell 0).trans rfl, hW⟩
  have hgq := Nat.le_refl wq.heap.size
  have c0 := Chg.refl (fun _ => False) wq
  have hSq := hS1 wq c0
  go_cut [4] from 13 (fun v4 W => ∃ g4, v4 = .pointer (some ⟨g4, 0, none⟩) ∧ Blk W g4 116 #[.int .i64 1, .int .i64 9223372036854775807, .int .i64 3, .int .i64 2, .int .i64 1, .int .i64 192, .int .i64 128] ∧ Chg (fun _ => False) wq W)
  case first =>
    go_region_held3 (fun W => W.cell? ⟨g, 0, none⟩ = some (.int .i64 14) ∧ Chg (fun _ => False) wq W)
      (first
        | with_reducible exact hS1 _ c0.drew
        | with_reducible exact hS1 _ (c0.alloc _)
        | with_reducible exact hS1 _ (c0.alloc _).drew
        | with_reducible exact hS1 _ (c0.drew.alloc _)
        | with_reducible exact hS1 _ dX
        | with_reducible exact hS1 _ (dX.alloc _)
        | with_reducible exact hS1 _ (of_region_keep dX hgq _ _ _ _ _ _ _))
      (first
        | (go_at_call 44
           refine (rules_val _).mono ?_
           rintro e1 w1 ⟨rfl, hch1⟩
           go_split_ands
           have dX : Chg (fun _ => False) wq w1 := Chg.trans (by assumption) hch1 (fun _ h _ => h)
           first
             | (have hz : Blk w1 wq.heap.size 116 #[.int .i64 0, .int .i64 0, .int .i64 0, .int .i64 0, .int .i64 0, .int .i64 0, .int .i64 0] := by first | exact (Blk.new wq _ _).drew.chg hch1 (fun h => h) | exact (Blk.new wq _ _).chg hch1 (fun h => h)
                have z0 : w1.cell? ⟨wq.heap.size, 0, none⟩ = some (.int .i64 0) := (hz.cell 0).trans rfl
                have z1 : w1.cell? ⟨wq.heap.size, 1, none⟩ = some (.int .i64 0) := (hz.cell 1).trans rfl
                have z2 : w1.cell? ⟨wq.heap.size, 2, none⟩ = some (.int .i64 0) := (hz.cell 2).trans rfl
                have z3 : w1.cell? ⟨wq.heap.size, 3, none⟩ = some (.int .i64 0) := (hz.cell 3).trans rfl
                have z4 : w1.cell? ⟨wq.heap.size, 4, none⟩ = some (.int .i64 0) := (hz.cell 4).trans rfl
                have z5 : w1.cell? ⟨wq.heap.size, 5, none⟩ = some (.int .i64 0) := (hz.cell 5).trans rfl
                have z6 : w1.cell? ⟨wq.heap.size, 6, none⟩ = some (.int .i64 0) := (hz.cell 6).trans rfl
                have zf : ∀ i, w1.frozen? ⟨wq.heap.size, i, none⟩ = false := fun i => hz.frozen i)
             | skip))
    all_goals
      try clear z0 z1 z2 z3 z4 z5 z6 zf
      go_wp2_with fail
      go_meet
      first
        | with_reducible exact ⟨_, rfl, Blk.new w1 _ _, dX.alloc _⟩
        | exact ⟨_, rfl, ((((((hz.set 0 _).set 1 _).set 2 _).set 3 _).set 4 _).set 5 _).set 6 _, of_region_keep dX hgq _ _ _ _ _ _ _⟩
  case rest =>
    obtain ⟨g4, rfl, hb4, hcc⟩ := hcut
    have hcw := Lib.hid (hwq.trans hcc (fun _ h _ => h))
    have hbg := hst.chg hcc (fun h => h)
    have hbr := hre.chg hcc (fun h => h)
    have p0 : wc.cell? ⟨g, 0, none⟩ = some (.int .i64 14) := (hbg.cell 0).trans rfl
    have p1 : wc.cell? ⟨g, 1, none⟩ = some (.int .i64 n) := (hbg.cell 1).trans rfl
    have p2 : wc.cell? ⟨g, 2, none⟩ = some (.slice A la ca) := (hbg.cell 2).trans rfl
    have p3 : wc.cell? ⟨g, 3, none⟩ = some (.slice B lb cb) := (hbg.cell 3).trans rfl
    have y0 : wc.cell? ⟨g + 1, 0, none⟩ = some (.int .i64 0) := (hbr.cell 0).trans rfl
    have yf : ∀ i, wc.frozen? ⟨g + 1, i, none⟩ = false := fun i => hbr.frozen i
    have z0 : wc.cell? ⟨g4, 0, none⟩ = some (.int .i64 1) := (hb4.cell 0).trans rfl
    have z1 : wc.cell? ⟨g4, 1, none⟩ = some (.int .i64 9223372036854775807) := (hb4.cell 1).trans rfl
    have z2 : wc.cell? ⟨g4, 2, none⟩ = some (.int .i64 3) := (hb4.cell 2).trans rfl
    have z3 : wc.cell? ⟨g4, 3, none⟩ = some (.int .i64 2) := (hb4.cell 3).trans rfl
    have z4 : wc.cell? ⟨g4, 4, none⟩ = some (.int .i64 1) := (hb4.cell 4).trans rfl
    have z5 : wc.cell? ⟨g4, 5, none⟩ = some (.int .i64 192) := (hb4.cell 5).trans rfl
    have z6 : wc.cell? ⟨g4, 6, none⟩ = some (.int .i64 128) := (hb4.cell 6).trans rfl
    clear hwq hst hre hS1 hgq c0 hSq hcc
    go_wp2_with (first
      | (go_at_call 45
         refine (hby.out _ (hcw.out)).mono ?_
         rintro e2 w2 ⟨rfl, hc2⟩
         have hb42 := hb4.chg hc2 (fun h => h)
         have hbr2 := hbr.chg hc2 (fun h => h)
         have hbg2 := hbg.chg hc2 (fun h => h)
         have r1 : w2.cell? ⟨g, 1, none⟩ = some (.int .i64 n) := (hbg2.cell 1).trans rfl
         have x0 : w2.cell? ⟨g4, 0, none⟩ = some (.int .i64 1) := (hb42.cell 0).trans rfl
         have x1 : w2.cell? ⟨g4, 1, none⟩ = some (.int .i64 9223372036854775807) := (hb42.cell 1).trans rfl
         have x2 : w2.cell? ⟨g4, 2, none⟩ = some (.int .i64 3) := (hb42.cell 2).trans rfl
         have x3 : w2.cell? ⟨g4, 3, none⟩ = some (.int .i64 2) := (hb42.cell 3).trans rfl
         have x4 : w2.cell? ⟨g4, 4, none⟩ = some (.int .i64 1) := (hb42.cell 4).trans rfl
         have x5 : w2.cell? ⟨g4, 5, none⟩ = some (.int .i64 192) := (hb42.cell 5).trans rfl
         have x6 : w2.cell? ⟨g4, 6, none⟩ = some (.int .i64 128) := (hb42.cell 6).trans rfl))
    have hcw2 := hcw.out.trans hc2 (fun _ h _ => h)
    go_quiet (fail)
    have hbn := hbr2.drewN nq
    go_wp2_with (first
      | (refine wpList_store_row rfl 116 (.tmp 2) (.tmp 53) rfl (g + 1) _ rfl rfl 116 _ hbn info_rule rfl (by simp [Value.oneCell']) ?_))
    refine bodyPost_ret (results_cell_tmp_row rfl _ _ (g + 1) _ _ _ _ rfl (blk_setRow hbn) Try.underlying116 rfl info_rule) rfl ?_
    refine ⟨rfl, ?_⟩
    exact chg_setRow (hcw2.drewN nq) (.inr (by have := hg.out; omega)) _

end Go.Proofs.Ytkgmbomfkdkofaa

/- params.of, params.Check, filter.Check of whatever parameters. -/
namespace Go.Proofs.Ytkgmbomfkdkofaa
open Go Go.RowKit

def OfAny (r : Int) (w : World) (e : Ending) (w' : World) : Prop := ∃ a0 a1 a2 a3 a4 a5 a6 : Int, e = .returned (.tuple #[.agg #[.int .i64 a0, .int .i64 a1, .int .i64 a2, .int .i64 a3, .int .i64 a4, .int .i64 a5, .int .i64 a6], .int .i64 r]) ∧ Chg (fun _ => False) w w'

/-- Of the kinds that there are: by the ends of N and what bytes tells. -/
theorem of_row (κ n l m a i o h e : Int) (hk1 : 1 ≤ κ) (hk2 : κ ≤ 16) (A B : Option Addr) (la ca lb cb : Nat) (w : World) (hidx : ∀ w, (Instr.index 119 rulesV (.int .i64 κ)).run Try.prog w = .ok (.agg #[.int .i64 l, .int .i64 m, .int .i64 a, .int .i64 i, .int .i64 o, .int .i64 h, .int .i64 e]) w)
    (β : Bool) (hby : ∀ W, Chg (fun _ => False) w W → Calls Try.prog 45 #[.agg #[.int .i64 l, .int .i64 m, .int .i64 a, .int .i64 i, .int .i64 o, .int .i64 h, .int .i64 e], .agg #[.int .i64 κ, .int .i64 n, .slice A la ca, .slice B lb cb]] W (TellPost β W))
    (r : Bool) (hr : r = (β && (decide (l ≤ n) && decide (n ≤ m)))) (c : Int)
    (hgood : l ≤ n → n ≤ m → β = true → (∀ W, Chg (fun _ => False) w W → Calls Try.prog 45 #[.agg #[.int .i64 l, .int .i64 m, .int .i64 a, .int .i64 i, .int .i64 o, .int .i64 h, .int .i64 e], .agg #[.int .i64 κ, .int .i64 n, .slice A la ca, .slice B lb cb]] W (TellPost true W)) →
      Calls Try.prog 43 #[.agg #[.int .i64 κ, .int .i64 n, .slice A la ca, .slice B lb cb]] w (OfAny c w)) :
    Calls Try.prog 43 #[.agg #[.int .i64 κ, .int .i64 n, .slice A la ca, .slice B lb cb]] w (OfAny (if r = false then 11 else c) w) := by
  by_cases h1 : l ≤ n
  · by_cases h2 : n ≤ m
    · cases hβ : β with
      | false =>
        subst hβ
        have er : r = false := by rw [hr, Bool.false_and]
        rw [if_pos er]
        exact (of_bad κ n l m a i o h e hk1 hk2 h1 h2 A B la ca lb cb w hidx hby).mono fun _ _ hx => ⟨_, _, _, _, _, _, _, hx⟩
      | true =>
        subst hβ
        have er : r = true := by rw [hr, decide_eq_true h1, decide_eq_true h2]; rfl
        rw [if_neg (by rw [er]; decide)]
        exact hgood h1 h2 rfl hby
    · have er : r = false := by rw [hr, decide_eq_false h2, Bool.and_false, Bool.and_false]
      rw [if_pos er]
      exact (of_high κ n l m a i o h e hk1 hk2 h1 (by omega) A B la ca lb cb w hidx).mono fun _ _ hx => ⟨_, _, _, _, _, _, _, hx⟩
  · have er : r = false := by rw [hr, decide_eq_false h1, Bool.false_and, Bool.and_false]
    rw [if_pos er]
    exact (of_low κ n l m a i o h e hk1 hk2 (by omega) A B la ca lb cb w hidx).mono fun _ _ hx => ⟨_, _, _, _, _, _, _, hx⟩

theorem check_row {p : Prm} (h1 : 1 ≤ p.kind) (h2 : p.kind ≤ 16) : refCheck p = if refRow p = false then 11 else (if 2048 < refHolds p then 12 else 0) := by
  unfold refCheck
  rw [if_neg (by omega)]

theorem eq0_and (n : Int) : (n == 0) = (decide (0 ≤ n) && decide (n ≤ 0)) := by
  rw [Bool.eq_iff_iff]
  simp
  omega

theorem of_any (D : Nat → Prop) (p : Prm) (hp : p.Fine) (hal : p.a.length ≤ 100000) (v : Value) (w : World) (h : PAt w D v p) :
    Calls Try.prog 43 #[v] w (OfAny (refCheck p) w) := by
  obtain ⟨A, ca, B, cb, rfl, hA, hB⟩ := h
  obtain ⟨kind, n, a, b⟩ := p
  have hn0 := hp.n0
  have hn1 := hp.n1
  clear hp
  dsimp only at *
  by_cases hk : kind < 1 ∨ 16 < kind
  · have e : refCheck ⟨kind, n, a, b⟩ = 10 := by unfold refCheck; rw [if_pos hk]
    rw [e]
    exact (of_kind kind n hk A B _ ca _ cb w).mono fun _ _ h => ⟨_, _, _, _, _, _, _, h⟩
  have h1 : 1 ≤ kind := by omega
  have h2 : kind ≤ 16 := by omega
  have e0 : refCheck ⟨kind, n, a, b⟩ = _ := check_row h1 h2
  rw [e0]
  clear e0
  have hbare : ∀ l m i o hs e, ∀ W : World, Chg (fun _ => False) w W → Calls Try.prog 45 #[.agg #[.int .i64 l, .int .i64 m, .int .i64 0, .int .i64 i, .int .i64 o, .int .i64 hs, .int .i64 e], .agg #[.int .i64 kind, .int .i64 n, .slice A a.length ca, .slice B b.length cb]] W (TellPost (ze a && ze b) W) := fun l m i o hs e W _ => bytes_none _ _ _ _ _ _ _ _ _ _ _ _ _ _ _
  have hpart : ∀ l m i o hs e, ∀ W : World, Chg (fun _ => False) w W → Calls Try.prog 45 #[.agg #[.int .i64 l, .int .i64 m, .int .i64 3, .int .i64 i, .int .i64 o, .int .i64 hs, .int .i64 e], .agg #[.int .i64 kind, .int .i64 n, .slice A a.length ca, .slice B b.length cb]] W (TellPost (ze b && oneB a) W) := fun l m i o hs e W hW => bytes_parting D _ _ _ _ _ _ _ _ _ _ _ _ _ _ W (hA.chg hW (fun _ _ _ h => h))
  have hword : ∀ l m i o hs e, ∀ W : World, Chg (fun _ => False) w W → Calls Try.prog 45 #[.agg #[.int .i64 l, .int .i64 m, .int .i64 1, .int .i64 i, .int .i64 o, .int .i64 hs, .int .i64 e], .agg #[.int .i64 kind, .int .i64 n, .slice A a.length ca, .slice B b.length cb]] W (TellPost ((ze b && wi a.length 1 16) && !decide ((10 : UInt8) ∈ a)) W) := fun l m i o hs e W hW => bytes_word D _ _ _ _ _ _ _ _ _ _ _ _ _ _ (Nat.le_trans hal (by decide)) W (hA.chg hW (fun _ _ _ h => h))
  have hset : ∀ l m i o hs e, ∀ W : World, Chg (fun _ => False) w W → Calls Try.prog 45 #[.agg #[.int .i64 l, .int .i64 m, .int .i64 2, .int .i64 i, .int .i64 o, .int .i64 hs, .int .i64 e], .agg #[.int .i64 kind, .int .i64 n, .slice A a.length ca, .slice B b.length cb]] W (TellPost ((wi a.length 1 64 && decide a.Nodup) && decide ((b.length : Int) ≤ a.length)) W) := fun l m i o hs e W hW => bytes_set D _ _ _ _ _ _ _ _ _ _ _ _ _ _ hal W (hA.chg hW (fun _ _ _ h => h))
  have hflat : ∀ l m a' i o hs : Int, (∀ w, (Instr.index 119 rulesV (.int .i64 kind)).run Try.prog w = .ok (.agg #[.int .i64 l, .int .i64 m, .int .i64 a', .int .i64 i, .int .i64 o, .int .i64 hs, .int .i64 0]) w) → ∀ β : Bool,
      (∀ W, Chg (fun _ => False) w W → Calls Try.prog 45 #[.agg #[.int .i64 l, .int .i64 m, .int .i64 a', .int .i64 i, .int .i64 o, .int .i64 hs, .int .i64 0], .agg #[.int .i64 kind, .int .i64 n, .slice A a.length ca, .slice B b.length cb]] W (TellPost β W)) →
      refHolds ⟨kind, n, a, b⟩ ≤ 2048 → refRow ⟨kind, n, a, b⟩ = (β && (decide (l ≤ n) && decide (n ≤ m))) →
      Calls Try.prog 43 #[.agg #[.int .i64 kind, .int .i64 n, .slice A a.length ca, .slice B b.length cb]] w (OfAny (if refRow ⟨kind, n, a, b⟩ = false then 11 else (if 2048 < refHolds ⟨kind, n, a, b⟩ then 12 else 0)) w) := fun l m a' i o hs hidx β hby hh hr => by
    refine of_row kind n l m a' i o hs 0 h1 h2 A B _ ca _ cb w hidx β hby _ hr _ fun h3 h4 _ hb => ?_
    rw [if_neg (by omega)]
    exact (of_flat kind n l m a' i o hs h1 h2 h3 h4 A B _ ca _ cb w hidx hb).mono fun _ _ h => ⟨_, _, _, _, _, _, _, h⟩
  have hc : ∀ x y : Bool, (x && y) = (y && x) := Bool.and_comm
  obtain rfl | rfl | rfl | rfl | rfl | rfl | rfl | rfl | rfl | rfl | rfl | rfl | rfl | rfl | rfl | rfl : kind = 1 ∨ kind = 2 ∨ kind = 3 ∨ kind = 4 ∨ kind = 5 ∨ kind = 6 ∨ kind = 7 ∨ kind = 8 ∨ kind = 9 ∨ kind = 10 ∨ kind = 11 ∨ kind = 12 ∨ kind = 13 ∨ kind = 14 ∨ kind = 15 ∨ kind = 16 := by omega
  · exact hflat 0 15 0 0 1 0 (fun _ => by kernel_rfl) _ (hbare _ _ _ _ _ _) (by simp [refHolds]) (by simp [refRow, wi, Bool.decide_and])
  · exact hflat 0 15 0 1 0 0 (fun _ => by kernel_rfl) _ (hbare _ _ _ _ _ _) (by simp [refHolds]) (by simp [refRow, wi, Bool.decide_and])
  · exact hflat 0 1000000000 0 1 1 64 (fun _ => by kernel_rfl) _ (hbare _ _ _ _ _ _) (by simp [refHolds]) (by simp [refRow, wi, Bool.decide_and])
  · refine of_row 4 n 0 9223372036854775807 0 1 1 64 64 h1 h2 A B _ ca _ cb w (fun _ => by kernel_rfl) _ (hbare _ _ _ _ _ _) _ ?_ _ fun h3 h4 _ hb => ?_
    · simp [refRow, hn1]
    · by_cases ho : n ≤ 31
      · rw [if_neg (by simp only [refHolds]; split <;> simp <;> omega)]
        exact (of_4 n h3 ho A B _ ca _ cb w (fun _ => by kernel_rfl) hb).mono fun _ _ h => ⟨_, _, _, _, _, _, _, h⟩
      · rw [if_pos (by simp only [refHolds]; split <;> simp <;> omega)]
        exact (of_over4 n (by omega) hn1 A B _ ca _ cb w (fun _ => by kernel_rfl) hb).mono fun _ _ h => ⟨_, _, _, _, _, _, _, h⟩
  · exact hflat 0 1 1 1 1 64 (fun _ => by kernel_rfl) _ (hword _ _ _ _ _ _) (by simp [refHolds]) (by simp [refRow, wi, Bool.decide_and, Bool.and_assoc, Bool.and_comm, Bool.and_left_comm])
  · exact hflat 0 0 2 1 1 0 (fun _ => by kernel_rfl) _ (hset _ _ _ _ _ _) (by simp [refHolds]) (by simp [refRow, wi, Bool.decide_and, eq0_and, Bool.and_assoc, Bool.and_comm, Bool.and_left_comm])
  · exact hflat 1 65535 3 1 1 64 (fun _ => by kernel_rfl) _ (hpart _ _ _ _ _ _) (by simp [refHolds]) (by simp [refRow, wi, Bool.decide_and])
  · exact hflat 0 1 0 1 1 128 (fun _ => by kernel_rfl) _ (hbare _ _ _ _ _ _) (by simp [refHolds]) (by simp [refRow, wi, Bool.decide_and])
  · exact hflat 0 0 0 1 1 0 (fun _ => by kernel_rfl) _ (hbare _ _ _ _ _ _) (by simp [refHolds]) (by simp [refRow, eq0_and])
  · exact hflat 0 1000000000 0 1 1 64 (fun _ => by kernel_rfl) _ (hbare _ _ _ _ _ _) (by simp [refHolds]) (by simp [refRow, wi, Bool.decide_and])
  · exact hflat 0 1 0 1 1 320 (fun _ => by kernel_rfl) _ (hbare _ _ _ _ _ _) (by simp [refHolds]) (by simp [refRow, wi, Bool.decide_and])
  · exact hflat 1 4 0 (-1) 1 0 (fun _ => by kernel_rfl) _ (hbare _ _ _ _ _ _) (by simp [refHolds]) (by simp [refRow, wi, Bool.decide_and])
  · refine of_row 13 n 1 4 3 (-1) 1 0 96 h1 h2 A B _ ca _ cb w (fun _ => by kernel_rfl) _ (hpart _ _ _ _ _ _) _ ?_ _ fun h3 h4 _ hb => ?_
    · simp [refRow, wi, Bool.decide_and]
    · rw [if_neg (by simp [refHolds]; omega)]
      exact (of_13 n h3 h4 A B _ ca _ cb w (fun _ => by kernel_rfl) hb).mono fun _ _ h => ⟨_, _, _, _, _, _, _, h⟩
  · refine of_row 14 n 1 9223372036854775807 3 2 1 192 128 h1 h2 A B _ ca _ cb w (fun _ => by kernel_rfl) _ (hpart _ _ _ _ _ _) _ ?_ _ fun h3 h4 _ hb => ?_
    · simp [refRow, hn1]
    · by_cases ho : n ≤ 14
      · rw [if_neg (by simp only [refHolds]; split <;> simp <;> omega)]
        exact (of_14 n h3 ho A B _ ca _ cb w (fun _ => by kernel_rfl) hb).mono fun _ _ h => ⟨_, _, _, _, _, _, _, h⟩
      · rw [if_pos (by simp only [refHolds]; split <;> simp <;> omega)]
        exact (of_over14 n (by omega) hn1 A B _ ca _ cb w (fun _ => by kernel_rfl) hb).mono fun _ _ h => ⟨_, _, _, _, _, _, _, h⟩
  · exact hflat 1 4 0 1 (-1) 0 (fun _ => by kernel_rfl) _ (hbare _ _ _ _ _ _) (by simp [refHolds]) (by simp [refRow, wi, Bool.decide_and])
  · exact hflat 1 4 0 1 (-1) 64 (fun _ => by kernel_rfl) _ (hbare _ _ _ _ _ _) (by simp [refHolds]) (by simp [refRow, wi, Bool.decide_and])

set_option maxRecDepth 100000 in
theorem pcheck_any (D : Nat → Prop) (p : Prm) (hp : p.Fine) (hal : p.a.length ≤ 100000) (v : Value) (w : World) (h : PAt w D v p) :
    Calls Try.prog 42 #[v] w (ErrPost w (refCheck p)) := by
  have ho := fun (W : World) (hW : Chg (fun _ => False) w W) => of_any D p hp hal v W (h.chg hW (fun _ _ _ h => h))
  generalize refCheck p = r at *
  have ho := Lib.hid ho
  obtain ⟨A, ca, B, cb, rfl, hA, hB⟩ := h
  clear hA hB hp
  go_enter Try.func42, Try.ntmps42
  go_wp2_with (first
    | (go_at_call 43
       refine (ho.out _ ((Chg.refl _ _).alloc _)).mono ?_
       rintro e1 w1 ⟨a0, a1, a2, a3, a4, a5, a6, rfl, hc1⟩))
  go_ret
  exact ⟨rfl, (((Chg.refl _ _).alloc _).trans hc1 (fun _ h _ => h)).alloc _⟩

/-- What filter.Check answers. -/
def wantOf (k : Int) (p : Prm) : Int := if refCheck p = 0 then (if p.kind = k then 0 else 10) else refCheck p

set_option maxRecDepth 100000 in
theorem fcheck_any (D : Nat → Prop) (p : Prm) (hp : p.Fine) (hal : p.a.length ≤ 100000) (k : Int) (v : Value) (w : World) (h : PAt w D v p) :
    Calls Try.prog 28 #[v, .int .i64 k] w (ErrPost w (wantOf k p)) := by
  have ho := fun (W : World) (hW : Chg (fun _ => False) w W) => pcheck_any D p hp hal v W (h.chg hW (fun _ _ _ h => h))
  unfold wantOf
  generalize refCheck p = r at *
  replace ho := Lib.hid ho
  obtain ⟨A, ca, B, cb, rfl, hA, hB⟩ := h
  have hst : Blk (w.alloc (.cells #[.int .i64 p.kind, .int .i64 p.n, .slice A p.a.length ca, .slice B p.b.length cb] 24)) w.heap.size 24 #[.int .i64 p.kind, .int .i64 p.n, .slice A p.a.length ca, .slice B p.b.length cb] := Blk.new _ _ _
  clear hA hB hp
  by_cases hr : r = 0
  · subst hr
    rw [if_pos rfl]
    by_cases hk : p.kind = k
    · rw [if_pos hk]
      have hk1 : (p.kind != k) = false := by rw [hk]; simp
      replace hk := Lib.hid hk
      go_enter Try.func28, Try.ntmps28
      go_wp2_with (first
        | (go_at_call 42
           refine (ho.out _ ((Chg.refl _ _).alloc _)).mono ?_
           rintro e1 w1 ⟨rfl, hc1⟩
           have q0 : w1.cell? ⟨w.heap.size, 0, none⟩ = some (.int .i64 p.kind) := ((hst.chg hc1 (fun h => h)).cell 0).trans rfl))
      go_ret
      exact ⟨rfl, ((Chg.refl _ _).alloc _).trans hc1 (fun _ h _ => h)⟩
    · rw [if_neg hk]
      have hk1 : (p.kind != k) = true := by rw [bne_iff_ne]; exact hk
      replace hk := Lib.hid hk
      go_enter Try.func28, Try.ntmps28
      go_wp2_with (first
        | (go_at_call 42
           refine (ho.out _ ((Chg.refl _ _).alloc _)).mono ?_
           rintro e1 w1 ⟨rfl, hc1⟩
           have q0 : w1.cell? ⟨w.heap.size, 0, none⟩ = some (.int .i64 p.kind) := ((hst.chg hc1 (fun h => h)).cell 0).trans rfl))
      go_ret
      exact ⟨rfl, ((Chg.refl _ _).alloc _).trans hc1 (fun _ h _ => h)⟩
  · rw [if_neg hr]
    have hr1 : (r != 0) = true := by rw [bne_iff_ne]; exact hr
    replace hr := Lib.hid hr
    go_enter Try.func28, Try.ntmps28
    go_wp2_with (first
      | (go_at_call 42
         refine (ho.out _ ((Chg.refl _ _).alloc _)).mono ?_
         rintro e1 w1 ⟨rfl, hc1⟩
         have q0 : w1.cell? ⟨w.heap.size, 0, none⟩ = some (.int .i64 p.kind) := ((hst.chg hc1 (fun h => h)).cell 0).trans rfl))
    go_ret
    exact ⟨rfl, ((Chg.refl _ _).alloc _).trans hc1 (fun _ h _ => h)⟩
end Go.Proofs.Ytkgmbomfkdkofaa

/- join.New of parameters that may not be. -/
namespace Go.Proofs.Ytkgmbomfkdkofaa.Join
open Go Go.RowKit

def BadPost (r : Int) (w : World) (e : Ending) (w' : World) : Prop := e = .returned (.tuple #[.nilIface, .int .i64 r]) ∧ Chg (fun _ => False) w w'

set_option maxRecDepth 100000 in
theorem new_bad (D : Nat → Prop) (p : Prm) (hp : p.Fine) (hal : p.a.length ≤ 100000) (hq : wantOf 14 p ≠ 0) (v : Value) (w : World) (hv : PAt w D v p) :
    Calls Try.prog 16 #[v] w (BadPost (wantOf 14 p) w) := by
  have hck := fun (W : World) (hW : Chg (fun _ => False) w W) => fcheck_any D p hp hal 14 v W (hv.chg hW (fun _ _ _ h => h))
  generalize wantOf 14 p = r at *
  replace hck := Lib.hid hck
  have hq1 : (r != 0) = true := by rw [bne_iff_ne]; exact hq
  replace hq := Lib.hid hq
  obtain ⟨A, ca, Bb, cb, rfl, _, _⟩ := hv
  go_enter Try.func16, Try.ntmps16
  go_wp2_with (first
    | (go_at_call 28
       refine (hck.out _ ((Chg.refl _ _).alloc _)).mono ?_
       rintro e1 w1 ⟨rfl, hc1⟩))
  go_ret2
  exact ⟨rfl, ((Chg.refl _ _).alloc _).trans hc1 (fun _ h _ => h)⟩
end Go.Proofs.Ytkgmbomfkdkofaa.Join

/- penstockref03.Same of parameters that are alike. -/
namespace Go.Proofs.Ytkgmbomfkdkofaa
open Go Go.RowKit

set_option maxHeartbeats 1000000 in
set_option maxRecDepth 100000 in
theorem prm_same (D D' : Nat → Prop) (p : Prm) (u v : Value) (w : World) (hu : PAt w D u p) (hv : PAt w D' v p) :
    Calls Try.prog 13 #[u, v] w (TruePost w) := by
  obtain ⟨A, ca, B, cb, rfl, hA, hB⟩ := hu
  obtain ⟨A2, ca2, B2, cb2, rfl, hA2, hB2⟩ := hv
  have c1 := fun (W : World) (hW : Chg (fun _ => False) w W) => conv_rd W D A p.a ca (hA.chg hW (fun _ _ _ h => h))
  have c2 := fun (W : World) (hW : Chg (fun _ => False) w W) => conv_rd W D' A2 p.a ca2 (hA2.chg hW (fun _ _ _ h => h))
  have c3 := fun (W : World) (hW : Chg (fun _ => False) w W) => conv_rd W D B p.b cb (hB.chg hW (fun _ _ _ h => h))
  have c4 := fun (W : World) (hW : Chg (fun _ => False) w W) => conv_rd W D' B2 p.b cb2 (hB2.chg hW (fun _ _ _ h => h))
  clear hA hB hA2 hB2
  generalize hw0 : (w.alloc (.cells #[.int .i64 p.kind, .int .i64 p.n, .slice A p.a.length ca, .slice B p.b.length cb] 24)).alloc (.cells #[.int .i64 p.kind, .int .i64 p.n, .slice A2 p.a.length ca2, .slice B2 p.b.length cb2] 24) = w0
  have k0 : Chg (fun _ => False) w w0 := by rw [← hw0]; exact ((Chg.refl _ _).alloc _).alloc _
  have h1 := c1 w0 k0
  have h2 := c2 w0 k0
  have h3 := c3 w0 k0
  have h4 := c4 w0 k0
  rw [← hw0] at h1 h2 h3 h4
  subst hw0
  go_enter Try.func13, Try.ntmps13
  go_wp2
  go_ret
  exact ⟨rfl, k0⟩
end Go.Proofs.Ytkgmbomfkdkofaa

/- JoinMakes. -/
namespace Go.Proofs.Ytkgmbomfkdkofaa.Join
open Go Go.RowKit

theorem nil_yes (w : World) : (binOp .eql 31 .nilIface .nilIface).run Try.prog w = .ok (.bool true) w := by kernel_rfl

/-- Parameters are stored into a box of their own. -/
theorem wpList_store_prm {ops : Array Oper} {rest : List Oper} {o : Oper} {a : Act} {w : World} {Q : Exit → Act → World → Prop} (hgd : o.guard = none) (x y : Operand) (ho : o.op = .store 24 x y)
    (g : Nat) (c0 c1 : Int) (A B : Option Addr) (la ca lb cb : Nat) (hx : a.eval x = .pointer (some ⟨g, 0, none⟩)) (hy : a.eval y = .agg #[.int .i64 c0, .int .i64 c1, .slice A la ca, .slice B lb cb])
    (old : Array Value) (hg : Blk w g 24 old) (hold : old.size = 4)
    (h : ∀ w', Blk w' g 24 #[.int .i64 c0, .int .i64 c1, .slice A la ca, .slice B lb cb] → Chg (fun k => k = g) w w' → wpList Try.prog ops Q rest (a.put o.dst undef) w') : wpList Try.prog ops Q (o :: rest) a w :=
  wpList_store_row hgd _ x y ho g _ hx hy _ old hg info_params hold (by simp [Value.oneCell']) (h _ (blk_setRow hg) (chg_setRow (Chg.refl (fun k => k = g) _) (.inl rfl) _))

theorem want_zero {p : Prm} (h : wantOf 14 p = 0) : fitP p := by
  unfold wantOf at h
  by_cases h0 : refCheck p = 0
  · rw [if_pos h0] at h
    by_cases h1 : p.kind = 14
    · exact ⟨h0, h1⟩
    · rw [if_neg h1] at h; cases h
  · rw [if_neg h0] at h; exact absurd h h0
theorem want_not {p : Prm} (h : wantOf 14 p ≠ 0) : (refCheck p ≠ 0 ∧ wantOf 14 p = refCheck p) ∨ (refCheck p = 0 ∧ p.kind ≠ 14 ∧ wantOf 14 p = 10) := by
  unfold wantOf at h ⊢
  by_cases h0 : refCheck p = 0
  · rw [if_pos h0] at h ⊢
    by_cases h1 : p.kind = 14
    · rw [if_pos h1] at h; exact absurd rfl h
    · exact .inr ⟨h0, h1, by rw [if_neg h1]⟩
  · exact .inl ⟨h0, by rw [if_neg h0]⟩

set_option maxHeartbeats 4000000 in
set_option maxRecDepth 100000 in
theorem makes_law (p : Prm) (v : Value) (w : World)
    (hn0 : -9223372036854775808 ≤ p.n) (hn1 : p.n ≤ 9223372036854775807) (hla : p.a.length ≤ maxLen) (hlb : p.b.length ≤ maxLen) (hv : PAt w (fun _ => True) v p) (hE : E w.heap.size w) :
    Calls Try.prog 4 #[v] w (TruePost w) := by
  have hEE : ∀ W, Chg (fun _ => False) w W → E w.heap.size W := fun W hW => E_on (hW.below (Nat.le_refl _) (fun _ h => h.elim)) hE
  have haw := fun (W : World) (hW : Chg (fun _ => False) w W) => awake_any w.heap.size W hW.size (hEE W hW)
  have hvv := fun (W : World) (hW : Chg (fun _ => False) w W) => hv.chg hW (fun _ _ _ h => h)
  have hv0 := hv
  obtain ⟨A1, c1, B1, d1, rfl, _, _⟩ := hv0
  have hhv : ∀ W : World, Calls Try.prog 14 #[.agg #[.int .i64 p.kind, .int .i64 p.n, .slice A1 p.a.length c1, .slice B1 p.b.length d1], .slice none 0 0, .slice none 0 0] W (BoolPost W (heavyB p.a.length p.b.length [] [])) := fun W =>
    heavy_any (fun _ => True) p.kind p.n A1 B1 p.a.length c1 p.b.length d1 none none 0 0 [] [] W hla hlb (by simp [maxLen]) ⟨none, 0, [], rfl, rfl, ⟨rfl, fun h => absurd h (Nat.lt_irrefl 0)⟩, fun _ h => by cases h⟩ (fun _ h => by cases h) ⟨rfl, fun h => absurd h (Nat.lt_irrefl 0)⟩ (by simp) (fun _ h => by cases h)
  have hst : Blk (w.alloc (.cells #[.int .i64 p.kind, .int .i64 p.n, .slice A1 p.a.length c1, .slice B1 p.b.length d1] 24)) w.heap.size 24 #[.int .i64 p.kind, .int .i64 p.n, .slice A1 p.a.length c1, .slice B1 p.b.length d1] := Blk.new _ _ _
  generalize hh : heavyB p.a.length p.b.length [] [] = hβ at *
  replace haw := Lib.hid haw
  replace hhv := Lib.hid hhv
  cases hβ
  · have hsz := heavyB_false hh
    have hp : p.Fine := ⟨hn0, hn1, by omega, by omega⟩
    have hcp := fun (W : World) (hW : Chg (fun _ => False) w W) => copy_params_any (fun _ => True) p hp _ W (hvv W hW)
    have hck := fun (W : World) (hW : Chg (fun _ => False) w W) => check_any (fun _ => True) p hp _ W (hvv W hW)
    have hsm := fun (D : Nat → Prop) (u : Value) (W : World) (hW : Chg (fun _ => False) w W) (hu : PAt W D u p) => prm_same D (fun _ => True) p u _ W hu (hvv W hW)
    replace hcp := Lib.hid hcp
    replace hsm := Lib.hid hsm
    replace hvv := Lib.hid hvv
    by_cases hq : wantOf 14 p = 0
    · have hI := want_zero hq
      have hkk : (p.kind != 14) = false := by rw [show p.kind = 14 from hI.2]; rfl
      rw [show refCheck p = 0 from hI.1] at hck
      have hnew := fun (W : World) (hW : Chg (fun _ => False) w W) (u : Value) (D : Nat → Prop) (hu : PAt W D u p) => new_any D p hI u W hu w.heap.size hW.size (hEE W hW)
      have hnil := nil_no
      replace hck := Lib.hid hck
      replace hnew := Lib.hid hnew
      clear hv hE hEE hh hsz hp hI hq
      go_enter Try.func4, Try.ntmps4
      go_wp2_with (first
        | (go_at_call 14
           refine (hhv.out _).mono ?_
           rintro e1 w1 ⟨rfl, hc1⟩
           have hb1 := hst.chg hc1 (fun h => h)
           have k1 : Chg (fun _ => False) w w1 := ((Chg.refl _ _).alloc _).trans hc1 (fun _ h _ => h)
           have q0 : w1.cell? ⟨w.heap.size, 0, none⟩ = some (.int .i64 p.kind) := (hb1.cell 0).trans rfl
           have q1 : w1.cell? ⟨w.heap.size, 1, none⟩ = some (.int .i64 p.n) := (hb1.cell 1).trans rfl
           have q2 : w1.cell? ⟨w.heap.size, 2, none⟩ = some (.slice A1 p.a.length c1) := (hb1.cell 2).trans rfl
           have q3 : w1.cell? ⟨w.heap.size, 3, none⟩ = some (.slice B1 p.b.length d1) := (hb1.cell 3).trans rfl)
        | (go_at_call 10
           refine (hck.out _ k1).mono ?_
           rintro e2 w2 ⟨rfl, hc2⟩
           have hb2' := hb1.chg hc2 (fun h => h)
           have k2 : Chg (fun _ => False) w w2 := k1.trans hc2 (fun _ h _ => h)
           have r0 : w2.cell? ⟨w.heap.size, 0, none⟩ = some (.int .i64 p.kind) := (hb2'.cell 0).trans rfl
           have r1 : w2.cell? ⟨w.heap.size, 1, none⟩ = some (.int .i64 p.n) := (hb2'.cell 1).trans rfl
           have r2 : w2.cell? ⟨w.heap.size, 2, none⟩ = some (.slice A1 p.a.length c1) := (hb2'.cell 2).trans rfl
           have r3 : w2.cell? ⟨w.heap.size, 3, none⟩ = some (.slice B1 p.b.length d1) := (hb2'.cell 3).trans rfl)
        | (go_at_call 11
           refine (hcp.out w2 k2).mono ?_
           intro e3 w3 hc3
           obtain ⟨v3, rfl, hp3, hb3⟩ := hc3
           have hp3' := hp3
           obtain ⟨A3, c3, B3, d3, rfl, _, _⟩ := hp3'
           have k3 : Chg (fun _ => False) w w3 := k2.trans (Chg.of_below (S := fun _ => False) hb3) (fun _ h _ => h)
           have hb3' := hb2'.chg (Chg.of_below (S := fun _ => False) hb3) (fun h => h))
        | (refine wpList_store_prm rfl (.tmp 4) (.tmp 20) rfl w3.heap.size _ _ _ _ _ _ _ _ rfl rfl _ (Blk.new w3 _ _) rfl ?_
           intro w4 hG4 hc4
           have k34 : Chg (fun _ => False) w3 w4 := ((Chg.refl _ _).alloc _).trans hc4 (fun k hk hlt => by omega)
           have k4 : Chg (fun _ => False) w w4 := k3.trans k34 (fun _ h _ => h)
           have hb4' := hb3'.chg k34 (fun h => h)
           have hp4 := Lib.hid (hp3.chg k34 (fun _ _ _ h => h))
           have s0 : w4.cell? ⟨w3.heap.size, 0, none⟩ = some (.int .i64 p.kind) := (hG4.cell 0).trans rfl
           have s1 : w4.cell? ⟨w3.heap.size, 1, none⟩ = some (.int .i64 p.n) := (hG4.cell 1).trans rfl
           have s2 : w4.cell? ⟨w3.heap.size, 2, none⟩ = some (.slice A3 p.a.length c3) := (hG4.cell 2).trans rfl
           have s3 : w4.cell? ⟨w3.heap.size, 3, none⟩ = some (.slice B3 p.b.length d3) := (hG4.cell 3).trans rfl)
        | (go_at_call 16
           refine (hnew.out w4 k4 _ _ hp4.out).mono ?_
           rintro e5 w5 ⟨m1, F1, rfl, hr1, hF1, hc5⟩
           have k5 : Chg (fun _ => False) w w5 := k4.trans hc5 (fun _ h _ => h)
           have hb5' := hb4'.chg hc5 (fun h => h)
           have hG5 := hG4.chg hc5 (fun h => h)
           have hp5 := Lib.hid (hp4.out.chg hc5 (fun _ _ _ h => h))
           have t0 : w5.cell? ⟨w3.heap.size, 0, none⟩ = some (.int .i64 p.kind) := (hG5.cell 0).trans rfl
           have t1 : w5.cell? ⟨w3.heap.size, 1, none⟩ = some (.int .i64 p.n) := (hG5.cell 1).trans rfl
           have t2 : w5.cell? ⟨w3.heap.size, 2, none⟩ = some (.slice A3 p.a.length c3) := (hG5.cell 2).trans rfl
           have t3 : w5.cell? ⟨w3.heap.size, 3, none⟩ = some (.slice B3 p.b.length d3) := (hG5.cell 3).trans rfl
           have u0 : w5.cell? ⟨w.heap.size, 0, none⟩ = some (.int .i64 p.kind) := (hb5'.cell 0).trans rfl
           have u1 : w5.cell? ⟨w.heap.size, 1, none⟩ = some (.int .i64 p.n) := (hb5'.cell 1).trans rfl
           have u2 : w5.cell? ⟨w.heap.size, 2, none⟩ = some (.slice A1 p.a.length c1) := (hb5'.cell 2).trans rfl
           have u3 : w5.cell? ⟨w.heap.size, 3, none⟩ = some (.slice B1 p.b.length d1) := (hb5'.cell 3).trans rfl)
        | (go_at_call 13
           refine (hsm.out _ _ w5 k5 hp5.out).mono ?_
           rintro e6 w6 ⟨rfl, hc6⟩
           have k6 : Chg (fun _ => False) w w6 := k5.trans hc6 (fun _ h _ => h))
        | (go_at_call 15
           refine (haw.out _ k6).mono ?_
           rintro e9 w9 ⟨rfl, hc9⟩))
      go_ret
      exact ⟨rfl, k6.trans hc9 (fun _ h _ => h)⟩
    · have hnew := fun (D : Nat → Prop) (u : Value) (W : World) (hu : PAt W D u p) => new_bad D p hp (by omega) hq u W hu
      have hny := nil_yes
      have hn := want_not hq
      clear hv hE hEE hh hsz hp hq
      generalize refCheck p = c at *
      generalize wantOf 14 p = r at *
      replace hck := Lib.hid hck
      replace hnew := Lib.hid hnew
      rcases hn with ⟨h0, rfl⟩ | ⟨rfl, h1, rfl⟩
      · have h0a : (r == 0) = false := by rw [beq_eq_false_iff_ne]; exact h0
        have h0b : (r != 0) = true := by rw [bne_iff_ne]; exact h0
        have h0c : (r != r) = false := by simp
        replace h0 := Lib.hid h0
        go_enter Try.func4, Try.ntmps4
        go_wp2_with (first
          | (go_at_call 14
             refine (hhv.out _).mono ?_
             rintro e1 w1 ⟨rfl, hc1⟩
             have hb1 := hst.chg hc1 (fun h => h)
             have k1 : Chg (fun _ => False) w w1 := ((Chg.refl _ _).alloc _).trans hc1 (fun _ h _ => h)
             have q0 : w1.cell? ⟨w.heap.size, 0, none⟩ = some (.int .i64 p.kind) := (hb1.cell 0).trans rfl
             have q1 : w1.cell? ⟨w.heap.size, 1, none⟩ = some (.int .i64 p.n) := (hb1.cell 1).trans rfl
             have q2 : w1.cell? ⟨w.heap.size, 2, none⟩ = some (.slice A1 p.a.length c1) := (hb1.cell 2).trans rfl
             have q3 : w1.cell? ⟨w.heap.size, 3, none⟩ = some (.slice B1 p.b.length d1) := (hb1.cell 3).trans rfl)
          | (go_at_call 10
             refine (hck.out _ k1).mono ?_
             rintro e2 w2 ⟨rfl, hc2⟩
             have hb2' := hb1.chg hc2 (fun h => h)
             have k2 : Chg (fun _ => False) w w2 := k1.trans hc2 (fun _ h _ => h)
             have r0 : w2.cell? ⟨w.heap.size, 0, none⟩ = some (.int .i64 p.kind) := (hb2'.cell 0).trans rfl
             have r1 : w2.cell? ⟨w.heap.size, 1, none⟩ = some (.int .i64 p.n) := (hb2'.cell 1).trans rfl
             have r2 : w2.cell? ⟨w.heap.size, 2, none⟩ = some (.slice A1 p.a.length c1) := (hb2'.cell 2).trans rfl
             have r3 : w2.cell? ⟨w.heap.size, 3, none⟩ = some (.slice B1 p.b.length d1) := (hb2'.cell 3).trans rfl)
          | (go_at_call 11
             refine (hcp.out w2 k2).mono ?_
             intro e3 w3 hc3
             obtain ⟨v3, rfl, hp3, hb3⟩ := hc3
             have hp3' := hp3
             obtain ⟨A3, c3, B3, d3, rfl, _, _⟩ := hp3'
             have k3 : Chg (fun _ => False) w w3 := k2.trans (Chg.of_below (S := fun _ => False) hb3) (fun _ h _ => h)
             have hb3' := hb2'.chg (Chg.of_below (S := fun _ => False) hb3) (fun h => h))
          | (refine wpList_store_prm rfl (.tmp 4) (.tmp 20) rfl w3.heap.size _ _ _ _ _ _ _ _ rfl rfl _ (Blk.new w3 _ _) rfl ?_
             intro w4 hG4 hc4
             have k34 : Chg (fun _ => False) w3 w4 := ((Chg.refl _ _).alloc _).trans hc4 (fun k hk hlt => by omega)
             have k4 : Chg (fun _ => False) w w4 := k3.trans k34 (fun _ h _ => h)
             have hb4' := hb3'.chg k34 (fun h => h)
             have hp4 := Lib.hid (hp3.chg k34 (fun _ _ _ h => h))
             have s0 : w4.cell? ⟨w3.heap.size, 0, none⟩ = some (.int .i64 p.kind) := (hG4.cell 0).trans rfl
             have s1 : w4.cell? ⟨w3.heap.size, 1, none⟩ = some (.int .i64 p.n) := (hG4.cell 1).trans rfl
             have s2 : w4.cell? ⟨w3.heap.size, 2, none⟩ = some (.slice A3 p.a.length c3) := (hG4.cell 2).trans rfl
             have s3 : w4.cell? ⟨w3.heap.size, 3, none⟩ = some (.slice B3 p.b.length d3) := (hG4.cell 3).trans rfl)
          | (go_at_call 16
             refine (hnew.out _ _ w4 hp4.out).mono ?_
             rintro e5 w5 ⟨rfl, hc5⟩
             have k5 : Chg (fun _ => False) w w5 := k4.trans hc5 (fun _ h _ => h)
             have hb5' := hb4'.chg hc5 (fun h => h)
             have hG5 := hG4.chg hc5 (fun h => h)
             have hp5 := Lib.hid (hp4.out.chg hc5 (fun _ _ _ h => h))
             have t0 : w5.cell? ⟨w3.heap.size, 0, none⟩ = some (.int .i64 p.kind) := (hG5.cell 0).trans rfl
             have t1 : w5.cell? ⟨w3.heap.size, 1, none⟩ = some (.int .i64 p.n) := (hG5.cell 1).trans rfl
             have t2 : w5.cell? ⟨w3.heap.size, 2, none⟩ = some (.slice A3 p.a.length c3) := (hG5.cell 2).trans rfl
             have t3 : w5.cell? ⟨w3.heap.size, 3, none⟩ = some (.slice B3 p.b.length d3) := (hG5.cell 3).trans rfl
             have u0 : w5.cell? ⟨w.heap.size, 0, none⟩ = some (.int .i64 p.kind) := (hb5'.cell 0).trans rfl
             have u1 : w5.cell? ⟨w.heap.size, 1, none⟩ = some (.int .i64 p.n) := (hb5'.cell 1).trans rfl
             have u2 : w5.cell? ⟨w.heap.size, 2, none⟩ = some (.slice A1 p.a.length c1) := (hb5'.cell 2).trans rfl
             have u3 : w5.cell? ⟨w.heap.size, 3, none⟩ = some (.slice B1 p.b.length d1) := (hb5'.cell 3).trans rfl)
          | (go_at_call 13
             refine (hsm.out _ _ w5 k5 hp5.out).mono ?_
             rintro e6 w6 ⟨rfl, hc6⟩
             have k6 : Chg (fun _ => False) w w6 := k5.trans hc6 (fun _ h _ => h))
          | (go_at_call 15
             refine (haw.out _ k6).mono ?_
             rintro e9 w9 ⟨rfl, hc9⟩))
        go_ret
        exact ⟨rfl, k6.trans hc9 (fun _ h _ => h)⟩
      · have h1a : (p.kind != 14) = true := by rw [bne_iff_ne]; exact h1
        replace h1 := Lib.hid h1
        go_enter Try.func4, Try.ntmps4
        go_wp2_with (first
          | (go_at_call 14
             refine (hhv.out _).mono ?_
             rintro e1 w1 ⟨rfl, hc1⟩
             have hb1 := hst.chg hc1 (fun h => h)
             have k1 : Chg (fun _ => False) w w1 := ((Chg.refl _ _).alloc _).trans hc1 (fun _ h _ => h)
             have q0 : w1.cell? ⟨w.heap.size, 0, none⟩ = some (.int .i64 p.kind) := (hb1.cell 0).trans rfl
             have q1 : w1.cell? ⟨w.heap.size, 1, none⟩ = some (.int .i64 p.n) := (hb1.cell 1).trans rfl
             have q2 : w1.cell? ⟨w.heap.size, 2, none⟩ = some (.slice A1 p.a.length c1) := (hb1.cell 2).trans rfl
             have q3 : w1.cell? ⟨w.heap.size, 3, none⟩ = some (.slice B1 p.b.length d1) := (hb1.cell 3).trans rfl)
          | (go_at_call 10
             refine (hck.out _ k1).mono ?_
             rintro e2 w2 ⟨rfl, hc2⟩
             have hb2' := hb1.chg hc2 (fun h => h)
             have k2 : Chg (fun _ => False) w w2 := k1.trans hc2 (fun _ h _ => h)
             have r0 : w2.cell? ⟨w.heap.size, 0, none⟩ = some (.int .i64 p.kind) := (hb2'.cell 0).trans rfl
             have r1 : w2.cell? ⟨w.heap.size, 1, none⟩ = some (.int .i64 p.n) := (hb2'.cell 1).trans rfl
             have r2 : w2.cell? ⟨w.heap.size, 2, none⟩ = some (.slice A1 p.a.length c1) := (hb2'.cell 2).trans rfl
             have r3 : w2.cell? ⟨w.heap.size, 3, none⟩ = some (.slice B1 p.b.length d1) := (hb2'.cell 3).trans rfl)
          | (go_at_call 11
             refine (hcp.out w2 k2).mono ?_
             intro e3 w3 hc3
             obtain ⟨v3, rfl, hp3, hb3⟩ := hc3
             have hp3' := hp3
             obtain ⟨A3, c3, B3, d3, rfl, _, _⟩ := hp3'
             have k3 : Chg (fun _ => False) w w3 := k2.trans (Chg.of_below (S := fun _ => False) hb3) (fun _ h _ => h)
             have hb3' := hb2'.chg (Chg.of_below (S := fun _ => False) hb3) (fun h => h))
          | (refine wpList_store_prm rfl (.tmp 4) (.tmp 20) rfl w3.heap.size _ _ _ _ _ _ _ _ rfl rfl _ (Blk.new w3 _ _) rfl ?_
             intro w4 hG4 hc4
             have k34 : Chg (fun _ => False) w3 w4 := ((Chg.refl _ _).alloc _).trans hc4 (fun k hk hlt => by omega)
             have k4 : Chg (fun _ => False) w w4 := k3.trans k34 (fun _ h _ => h)
             have hb4' := hb3'.chg k34 (fun h => h)
             have hp4 := Lib.hid (hp3.chg k34 (fun _ _ _ h => h))
             have s0 : w4.cell? ⟨w3.heap.size, 0, none⟩ = some (.int .i64 p.kind) := (hG4.cell 0).trans rfl
             have s1 : w4.cell? ⟨w3.heap.size, 1, none⟩ = some (.int .i64 p.n) := (hG4.cell 1).trans rfl
             have s2 : w4.cell? ⟨w3.heap.size, 2, none⟩ = some (.slice A3 p.a.length c3) := (hG4.cell 2).trans rfl
             have s3 : w4.cell? ⟨w3.heap.size, 3, none⟩ = some (.slice B3 p.b.length d3) := (hG4.cell 3).trans rfl)
          | (go_at_call 16
             refine (hnew.out _ _ w4 hp4.out).mono ?_
             rintro e5 w5 ⟨rfl, hc5⟩
             have k5 : Chg (fun _ => False) w w5 := k4.trans hc5 (fun _ h _ => h)
             have hb5' := hb4'.chg hc5 (fun h => h)
             have hG5 := hG4.chg hc5 (fun h => h)
             have hp5 := Lib.hid (hp4.out.chg hc5 (fun _ _ _ h => h))
             have t0 : w5.cell? ⟨w3.heap.size, 0, none⟩ = some (.int .i64 p.kind) := (hG5.cell 0).trans rfl
             have t1 : w5.cell? ⟨w3.heap.size, 1, none⟩ = some (.int .i64 p.n) := (hG5.cell 1).trans rfl
             have t2 : w5.cell? ⟨w3.heap.size, 2, none⟩ = some (.slice A3 p.a.length c3) := (hG5.cell 2).trans rfl
             have t3 : w5.cell? ⟨w3.heap.size, 3, none⟩ = some (.slice B3 p.b.length d3) := (hG5.cell 3).trans rfl
             have u0 : w5.cell? ⟨w.heap.size, 0, none⟩ = some (.int .i64 p.kind) := (hb5'.cell 0).trans rfl
             have u1 : w5.cell? ⟨w.heap.size, 1, none⟩ = some (.int .i64 p.n) := (hb5'.cell 1).trans rfl
             have u2 : w5.cell? ⟨w.heap.size, 2, none⟩ = some (.slice A1 p.a.length c1) := (hb5'.cell 2).trans rfl
             have u3 : w5.cell? ⟨w.heap.size, 3, none⟩ = some (.slice B1 p.b.length d1) := (hb5'.cell 3).trans rfl)
          | (go_at_call 13
             refine (hsm.out _ _ w5 k5 hp5.out).mono ?_
             rintro e6 w6 ⟨rfl, hc6⟩
             have k6 : Chg (fun _ => False) w w6 := k5.trans hc6 (fun _ h _ => h))
          | (go_at_call 15
             refine (haw.out _ k6).mono ?_
             rintro e9 w9 ⟨rfl, hc9⟩))
        go_ret
        exact ⟨rfl, k6.trans hc9 (fun _ h _ => h)⟩
  · clear hv hE hEE hvv hh
    go_enter Try.func4, Try.ntmps4
    go_wp2_with (first
      | (go_at_call 14
         refine (hhv.out _).mono ?_
         rintro e1 w1 ⟨rfl, hc1⟩
         have k1 : Chg (fun _ => False) w w1 := ((Chg.refl _ _).alloc _).trans hc1 (fun _ h _ => h))
      | (go_at_call 15
         refine (haw.out _ k1).mono ?_
         rintro e9 w9 ⟨rfl, hc9⟩))
    go_ret
    exact ⟨rfl, k1.trans hc9 (fun _ h _ => h)⟩
end Go.Proofs.Ytkgmbomfkdkofaa.Join

/- Arguments, opened: what the values of a law's parameters are. -/
namespace Go.Proofs.Ytkgmbomfkdkofaa
open Go Go.ChangeShapes Go.WideShapes Go.ChangeAt Go.RowKit Go.Deep

/-- Anywhere. -/
abbrev Any' : Nat → Prop := fun _ => True

theorem list_of {α : Type} (f : α → Value) (p : α → Prop) (V : Nat → Value) : ∀ (n : Nat), (∀ i, i < n → ∃ b, V i = f b ∧ p b) → ∃ l : List α, l.length = n ∧ (List.range n).map V = l.map f ∧ ∀ b ∈ l, p b := by
  intro n
  induction n with
  | zero => intro _; exact ⟨[], rfl, rfl, fun _ h => by cases h⟩
  | succ n ih =>
    intro h
    obtain ⟨l, hl, he, hp⟩ := ih (fun i hi => h i (by omega))
    obtain ⟨b, hb, hpb⟩ := h n (by omega)
    refine ⟨l ++ [b], by simp [hl], by rw [List.range_succ, List.map_append, he]; simp [hb], fun x hx => ?_⟩
    rcases List.mem_append.1 hx with hx | hx
    · exact hp x hx
    · simp at hx; subst hx; exact hpb

theorem cell_spot {w : World} {a : Addr} {v : Value} (h : w.cell? a = some v) : a.block < w.heap.size ∧ a.spot = none := by
  unfold World.cell? at h
  split at h
  · rename_i hh
    refine ⟨(Array.getElem?_eq_some_iff.1 hh).1, ?_⟩
    split at h
    · cases h
    · rename_i hs; simpa using hs
  · cases h

section
variable {H : Type} {enc : TypeId × Value → H} {w : World} {spare : Nat → Bool} {held : Bool} {fuel : Nat}

theorem open_rd {P : Program} {t e : TypeId} {v : Value} {x : DataW H × List MemPlace} (ht : P.underlying t = some (.slice e)) (hc : P.cellsOf e = 1) (h : DataW.trod enc P w 0 spare held fuel t [v] = some x) :
    ∃ (A : Option Addr) (n c : Nat) (V : Nat → Value), v = .slice A n c ∧ n ≤ c ∧ c ≤ maxLen ∧ Rd w Any' 1 A n ((List.range n).map V) ∧ ∀ i, i < n → ∃ k y, DataW.trod enc P w 0 spare held k e [V i] = some y := by
  rcases open_slice1 ht hc h with ⟨h0, _⟩ | ⟨a, len, cap, m, n, V, D, Pl, h0, _, hl, hm, hmm, _, hV⟩
  · simp at h0
    subst h0
    exact ⟨none, 0, 0, fun _ => .nilFunc, rfl, Nat.le_refl _, Nat.zero_le _, Rd.nil _ _ _ _, fun i hi => by omega⟩
  · simp at h0
    subst h0
    have hlm : len ≤ m := by rw [hmm]; split <;> omega
    refine ⟨some a, len, cap, V, rfl, hl, hm, ⟨by simp, fun hn => ?_⟩, fun i hi => ⟨n, _, (hV i (by omega)).2⟩⟩
    have h1 := cell_spot (hV 0 (by omega)).1
    obtain ⟨b, o, sp⟩ := a
    have hs : sp = none := by simpa [Addr.add] using h1.2
    subst hs
    refine ⟨b, o, rfl, by simpa [Addr.add] using h1.1, trivial, fun j u hu => ?_⟩
    have hj : j < len := by
      have := (List.getElem?_eq_some_iff.1 hu).1
      simpa using this
    simp [List.getElem?_map, List.getElem?_range hj] at hu
    subst hu
    have := (hV j (by omega)).1
    rw [add_flat] at this
    exact this

theorem open_bs {v : Value} {x : DataW H × List MemPlace} (h : DataW.trod enc Try.prog w 0 spare held fuel 22 [v] = some x) :
    ∃ (A : Option Addr) (c : Nat) (bs : Bs), v = .slice A bs.length c ∧ bs.length ≤ c ∧ c ≤ maxLen ∧ Rd w Any' 1 A bs.length (u8s bs) := by
  obtain ⟨A, n, c, V, rfl, h1, h2, h3, h4⟩ := open_rd Try.underlying22 (by kernel_rfl) h
  obtain ⟨l, hl, he, _⟩ := list_of (fun x : UInt8 => Value.int .u8 x.toNat) (fun _ => True) V n (fun i hi => by
    obtain ⟨k, y, hy⟩ := h4 i hi
    obtain ⟨z, hz, _, hw⟩ := DataW.trod_int Try.underlying5 hy
    simp at hz
    have hb := bounds_u8 hw
    refine ⟨UInt8.ofNat z.toNat, ?_, trivial⟩
    rw [hz]
    congr 1
    have : (UInt8.ofNat z.toNat).toNat = z.toNat := by rw [UInt8.toNat_ofNat']; omega
    rw [this]; omega)
  rw [he] at h3
  subst hl
  exact ⟨A, c, l, rfl, h1, h2, h3⟩

theorem open_is {v : Value} {x : DataW H × List MemPlace} (h : DataW.trod enc Try.prog w 0 spare held fuel 37 [v] = some x) :
    ∃ (A : Option Addr) (c : Nat) (l : List Int), v = .slice A l.length c ∧ l.length ≤ c ∧ c ≤ maxLen ∧ Rd w Any' 1 A l.length (i64s l) := by
  obtain ⟨A, n, c, V, rfl, h1, h2, h3, h4⟩ := open_rd Try.underlying37 (by kernel_rfl) h
  obtain ⟨l, hl, he, _⟩ := list_of (fun x : Int => Value.int .i64 x) (fun _ => True) V n (fun i hi => by
    obtain ⟨k, y, hy⟩ := h4 i hi
    obtain ⟨z, hz, _, hw⟩ := DataW.trod_int Try.underlying3 hy
    simp at hz
    exact ⟨z, hz, trivial⟩)
  rw [he] at h3
  subst hl
  exact ⟨A, c, l, rfl, h1, h2, h3⟩

theorem cells_bs : Try.prog.cellsOf 22 = 1 := by kernel_rfl
theorem cells_bool : Try.prog.cellsOf 4 = 1 := by kernel_rfl
theorem cells_fault : Try.prog.cellsOf 62 = 3 := by kernel_rfl
theorem cells_errno : Try.prog.cellsOf 27 = 1 := by kernel_rfl
theorem cells_prm : Try.prog.cellsOf 24 = 4 := by kernel_rfl
theorem cells_int : Try.prog.cellsOf 3 = 1 := by kernel_rfl

theorem flat5_inv (its : List (Strm × Value)) (j : Nat) (u : Value) (h : (its.flatMap strmC)[j]? = some u) : ∃ (m : Nat) (hm : m < its.length) (i : Nat), i < 5 ∧ j = m * 5 + i ∧ (strmC its[m])[i]? = some u := by
  have hl : (its.flatMap strmC).length = its.length * 5 := by
    clear h
    induction its with
    | nil => rfl
    | cons t r ih => rw [List.flatMap_cons, List.length_append, ih, List.length_cons]; show 5 + _ = _; omega
  have hj := (List.getElem?_eq_some_iff.1 h).1
  have hm : j / 5 < its.length := by omega
  have e : j = j / 5 * 5 + j % 5 := by omega
  refine ⟨j / 5, hm, j % 5, by omega, e, ?_⟩
  rw [e, flat5 its _ hm _ (by omega)] at h
  exact h

theorem list5 {l : List Value} (h : l.length = 5) : ∃ a b c d e, l = [a, b, c, d, e] := by
  match l, h with
  | [a, b, c, d, e], _ => exact ⟨a, b, c, d, e, rfl⟩

/-- One stream's cells. -/
theorem open_strm {cs : List Value} {x : DataW H × List MemPlace} (h : DataW.trod enc Try.prog w 0 spare held fuel 64 cs = some x) :
    ∃ (t : Strm × Value), cs = strmC t ∧ BsAt w Any' t.2 t.1.bs ∧ CapOk t.2 ∧ t.1.bs.length ≤ maxLen := by
  obtain ⟨y0, y1, y2, n, _, hl, h0, h1, h2⟩ := trod_struct3 Try.underlying64 h
  have hl5 : cs.length = 5 := hl.trans (by kernel_rfl)
  obtain ⟨a, b, c, d, e, rfl⟩ := list5 hl5
  dsimp only at h0 h1 h2
  rw [cells_bs] at h0
  rw [cells_bool] at h1
  rw [cells_fault] at h2
  dsimp only [List.drop, List.take] at h0 h1 h2
  obtain ⟨A, cp, bs, rfl, hb1, hb2, hr⟩ := open_bs h0
  obtain ⟨z, hz, _⟩ := DataW.trod_bool Try.underlying4 h1
  simp at hz
  subst hz
  obtain ⟨z0, z1, z2, n2, _, _, g0, g1, g2⟩ := trod_struct3 Try.underlying62 h2
  dsimp only at g0 g1 g2
  rw [cells_errno] at g0
  rw [cells_int] at g1
  rw [cells_int] at g2
  dsimp only [List.drop, List.take] at g0 g1 g2
  obtain ⟨c', hc, _⟩ := DataW.trod_int Try.underlying27 g0
  obtain ⟨d', hd, _⟩ := DataW.trod_int Try.underlying3 g1
  obtain ⟨e', he, _⟩ := DataW.trod_int Try.underlying3 g2
  simp at hc hd he
  subst hc hd he
  have hle : bs.length ≤ maxLen := Nat.le_trans hb1 hb2
  exact ⟨(⟨bs, z, c', d', e'⟩, .slice A bs.length cp), rfl, ⟨A, cp, rfl, hr⟩, fun A' n' c' e => by cases e; exact hb1, hle⟩

theorem open_strms {v : Value} {x : DataW H × List MemPlace} (h : DataW.trod enc Try.prog w 0 spare held fuel 36 [v] = some x) :
    ∃ (A : Option Addr) (c : Nat) (l : List Strm), v = .slice A l.length c ∧ l.length ≤ c ∧ c ≤ maxLen ∧ StrmsAt w Any' (.slice A l.length c) l ∧ ∀ s ∈ l, s.bs.length ≤ maxLen := by
  rcases open_slice Try.underlying36 h with ⟨h0, _⟩ | ⟨a, len, cap, m, n, D, Pl, h0, _, hl, hm, hmm, _, hx⟩
  · simp at h0
    subst h0
    exact ⟨none, 0, [], rfl, Nat.le_refl _, Nat.zero_le _, ⟨none, 0, [], rfl, rfl, Rd.nil _ _ _ _, fun _ h => by cases h⟩, fun _ h => by cases h⟩
  · simp at h0
    subst h0
    have hlm : len ≤ m := by rw [hmm]; split <;> omega
    have hc5 : Try.prog.cellsOf 64 = 5 := by kernel_rfl
    rw [hc5] at hx
    have key : ∀ i, i < len → ∃ t : Strm × Value, (BsAt w Any' t.2 t.1.bs ∧ CapOk t.2 ∧ t.1.bs.length ≤ maxLen) ∧ ∀ k u, (strmC t)[k]? = some u → w.cell? ((a.add (i * 5)).add k) = some u := fun i hi => by
      obtain ⟨cs', h1, h2⟩ := hx i (by omega)
      obtain ⟨t, rfl, hb, hcp, hln⟩ := open_strm h2
      obtain ⟨_, hlen, hcell⟩ := World.cells?_some h1
      refine ⟨t, ⟨hb, hcp, hln⟩, fun k u hu => ?_⟩
      have hk : k < 5 := (List.getElem?_eq_some_iff.1 hu).1
      rw [hcell k hk]; exact hu
    have mk : ∀ n, n ≤ len → ∃ its : List (Strm × Value), its.length = n ∧ (∀ t ∈ its, BsAt w Any' t.2 t.1.bs ∧ CapOk t.2 ∧ t.1.bs.length ≤ maxLen) ∧ ∀ i (hi : i < its.length) k u, (strmC its[i])[k]? = some u → w.cell? ((a.add (i * 5)).add k) = some u := by
      intro n
      induction n with
      | zero => intro _; exact ⟨[], rfl, fun _ h => (by cases h), fun i hi => (by simp at hi)⟩
      | succ n ih =>
        intro hn
        obtain ⟨its, hl1, hp, hc⟩ := ih (by omega)
        obtain ⟨t, hpt, hct⟩ := key n (by omega)
        refine ⟨its ++ [t], by simp [hl1], fun y hy => ?_, fun i hi k u hu => ?_⟩
        · rcases List.mem_append.1 hy with hy | hy
          · exact hp y hy
          · simp at hy; subst hy; exact hpt
        · by_cases hin : i < its.length
          · rw [List.getElem_append_left hin] at hu
            exact hc i hin k u hu
          · have : i = n := by simp at hi; omega
            subst this
            rw [List.getElem_append_right (by omega)] at hu
            simp [hl1] at hu
            exact hct k u hu
    obtain ⟨its, hil, hip, hic⟩ := mk len (Nat.le_refl _)
    have hln : (its.map (fun t => t.1)).length = len := by simp [hil]
    refine ⟨some a, cap, its.map (fun t => t.1), by rw [hln], by rw [hln]; exact hl, hm, ⟨some a, cap, its, rfl, rfl, ⟨?_, fun hn => ?_⟩, fun t ht => ⟨(hip t ht).1, (hip t ht).2.1⟩⟩, fun s hs => ?_⟩
    · rw [hln, ← hil]
      clear hip hic hil hln
      induction its with
      | nil => rfl
      | cons t r ih => rw [List.flatMap_cons, List.length_append, ih, List.length_cons]; show 5 + _ = _; omega
    · rw [hln] at hn
      have h1 := cell_spot (hic 0 (by omega) 0 _ rfl)
      obtain ⟨b, o, sp⟩ := a
      have hs : sp = none := by simpa [Addr.add] using h1.2
      subst hs
      refine ⟨b, o, rfl, by simpa [Addr.add] using h1.1, trivial, fun j u hu => ?_⟩
      obtain ⟨k, hk, i, hi5, rfl, hu2⟩ := flat5_inv its j u hu
      have := hic k hk i u hu2
      rw [add_flat, add_flat, Nat.add_assoc] at this
      exact this
    · obtain ⟨t, ht, rfl⟩ := List.mem_map.1 hs
      exact (hip t ht).2.2

set_option maxRecDepth 100000 in
/-- A stage's parameters. -/
theorem open_prm {r : Reach} {b0 : Nat} {v : Value} {d : DataW H} {ps : List MemPlace} (hv : Value.okWide Try.prog w r b0 24 v) (h : DataW.Trod enc Try.prog w 0 spare held 24 v d ps) :
    ∃ p : Prm, PAt w Any' v p ∧ -9223372036854775808 ≤ p.n ∧ p.n ≤ 9223372036854775807 ∧ p.a.length ≤ maxLen ∧ p.b.length ≤ maxLen := by
  obtain ⟨cs, rfl, hsz⟩ := okWide_struct Try.underlying24 hv
  have hsz : cs.size = 4 := hsz.trans cells_prm
  obtain ⟨c0, c1, c2, c3, rfl⟩ := Go.Joins.array4 hsz
  obtain ⟨fuel, h⟩ := h
  have ec : (Value.agg #[c0, c1, c2, c3]).cells.toList = [c0, c1, c2, c3] := rfl
  rw [ec] at h
  obtain ⟨y0, y1, y2, y3, n, _, _, h0, h1, h2, h3⟩ := Go.Joins.trod_struct4 Try.underlying24 h
  dsimp only at h0 h1 h2 h3
  rw [cells_int] at h0
  rw [cells_int] at h1
  rw [cells_bs] at h2
  rw [cells_bs] at h3
  dsimp only [List.drop, List.take, List.toArray] at h0 h1 h2 h3
  obtain ⟨k, hk, _⟩ := DataW.trod_int Try.underlying3 h0
  obtain ⟨m, hm, _, hw⟩ := DataW.trod_int Try.underlying3 h1
  simp at hk hm
  subst hk hm
  obtain ⟨A, ca, a, rfl, ha1, ha2, hA⟩ := open_bs h2
  obtain ⟨B, cb, b, rfl, hb1, hb2, hB⟩ := open_bs h3
  have hn := bounds_i64 hw
  exact ⟨⟨k, m, a, b⟩, ⟨A, ca, B, cb, rfl, hA, hB⟩, hn.1, hn.2, Nat.le_trans ha1 ha2, Nat.le_trans hb1 hb2⟩

/-- A slice's value is its one cell. -/
theorem slice_cells {P : Program} {r : Reach} {b0 : Nat} {t e : TypeId} {v : Value} (ht : P.underlying t = some (.slice e)) (hv : Value.okWide P w r b0 t v) : v.cells.toList = [v] := by
  simp only [Value.okWide, ht, Cell.okWide, Cell.ok] at hv
  cases v <;> first | rfl | (simp at hv)
end

/-- Arguments read on as they did. -/
theorem trodAll_stays {H : Type} {enc : TypeId × Value → H} {P : Program} (hl : laidOutB P = true) {W W' : World} {sp' : Nat → Bool} : ∀ {ts : List TypeId} {vs : List Value} {ds : List (DataW H)} {ps : List MemPlace},
    (ts.all fun t => P.readableRec t && decide (t < P.types.size)) = true → DataW.TrodAll enc P W 0 (fun _ => true) true ts vs ds ps → (∀ p ∈ ps, W.sameAt W' p) → (∀ p ∈ ps, sp' p.block = true) → DataW.TrodAll enc P W' 0 sp' true ts vs ds ps := by
  intro ts
  induction ts with
  | nil =>
    intro vs ds ps _ h _ _
    obtain ⟨rfl, rfl, rfl⟩ := trodAll_nil h
    exact rfl
  | cons t ts ih =>
    intro vs ds ps ht h hs hsp
    obtain ⟨v, vs1, d, ds1, a, b, rfl, rfl, rfl, h1, h2⟩ := trodAll_cons h
    simp only [List.all_cons, Bool.and_eq_true, decide_eq_true_eq] at ht
    exact ⟨a, b, Go.WideElems.Trod_stays hl ht.1.1 ht.1.2 h1 (fun p hp => hs p (by simp [hp])) (fun p hp => hsp p (by simp [hp])), ih ht.2 h2 (fun p hp => hs p (by simp [hp])) (fun p hp => hsp p (by simp [hp])), rfl⟩

/-- What a law's row asks behind the call, where below the heap's old size all is as it was. -/
theorem post_of_below {H : Type} {enc : TypeId × Value → H} {P : Program} {f : Func} {s : ChangeSpec} {apart fresh handsOn again : Bool} {W W' : World} {args : Array Value} {v : Value} {ds : List (DataW H)} {before : List MemPlace}
    (hl : laidOutB P = true) (hW : DataW.Whole enc P f.params.toList [] apart W args.toList ds [] before) (hsv : s.vars = []) (hA : DataW.TrodAll enc P W 0 (fun _ => true) true f.params.toList args.toList ds before)
    (ht : (f.params.toList.all fun t => P.readableRec t && decide (t < P.types.size)) = true)
    (hres : ∀ (b : Nat) (sp : Nat → Bool) (hd : Bool), DataW.TrodAll enc P W' b sp hd f.resultTypes.toList (v.resultList f.resultTypes.size) (s.fn H (ds ++ [])).results [])
    (hargs : (s.fn H (ds ++ [])).args = ds) (hvars : (s.fn H (ds ++ [])).vars = []) (hb : Below W.heap.size W W')
    (hok : ∀ (j : Nat) (t : TypeId) (r : Value), f.resultTypes[j]? = some t → (v.resultList f.resultTypes.size)[j]? = some r → Value.okWide P W' .any 0 t r) :
    s.post enc P f apart fresh handsOn again W args v W' := by
  have hlt : ∀ p ∈ before, p.block < W.heap.size := fun p hp => hW.lt p hp
  have hold : ∀ p ∈ before, (fun b => decide (b < W.heap.size)) p.block = true := fun p hp => by simpa using hlt p hp
  have harg : ∀ sp : Nat → Bool, (∀ p ∈ before, sp p.block = true) → DataW.TrodAll enc P W' 0 sp true f.params.toList args.toList (s.fn H (ds ++ [])).args before := fun sp hsp => by
    rw [hargs]
    exact trodAll_stays hl ht hA (fun p hp => hb.same (hlt p hp)) hsp
  have hvar : ∀ sp : Nat → Bool, DataW.TrodVars enc P W' sp s.vars (s.fn H (ds ++ [])).vars [] := fun sp => by
    rw [hvars, hsv]; exact rfl
  refine ⟨ds, [], before, [], before, [], by rw [hsv]; exact hW, hres _ _ _, harg _ hold, hvar _, World.keptBut_mono (fun p hp => ⟨hp, by simpa using hp⟩) (hb.frame _), fun _ => ?_⟩
  obtain ⟨_, _, _, _, _, hz, hn⟩ := hW
  refine ⟨hok, _, _, ([] ++ before) ++ [], ⟨[] ++ before, [], trodAll_append (harg _ (fun _ _ => rfl)) (hres _ _ _), hvar _, rfl, ?_, ?_⟩, ?_⟩
  · intro b off hp
    have hp' : MemPlace.cell b off ∈ before := by simpa using hp
    rw [hb.frozen (p := ⟨b, off, none⟩) (hlt _ hp')]
    exact hz b off hp'
  · intro ha
    simpa using hn ha
  · intro p hp _
    simpa using hp
end Go.Proofs.Ytkgmbomfkdkofaa

/- JoinMakes: which parameters are taken: the function returns true for every input, and its arguments read as before. No conditions. -/
namespace Go.Proofs.Ytkgmbomfkdkofaa.JoinMakes
open Go Go.ChangeShapes Go.WideShapes Go.ChangeAt Go.RowKit

theorem own : ownKnob Try.prog.godebug = none := by kernel_rfl

set_option maxRecDepth 100000 in
theorem contract (H : Type) (enc : TypeId × Value → H) (W : World) (base : Nat) (args : Array Value) (ds gs : List (DataW H)) (before : List MemPlace)
    (hval : ∀ (j : Nat) t v, Try.f4.params[j]? = some t → args[j]? = some v → Value.okWide Try.prog W .any base t v)
    (hW : DataW.Whole enc Try.prog Try.f4.params.toList Rows.joinMakesSpec.vars false W args.toList ds gs before) :
    Calls Try.prog 4 args W fun e W' => ∃ v, e = .returned v ∧ Rows.joinMakesSpec.post enc Try.prog Try.f4 false true false false W args v W' := by
  have hW' := hW
  obtain ⟨p, q, hA0, hV, rfl, hfz, hnd⟩ := hW
  have hA : DataW.TrodAll enc Try.prog W 0 (fun _ => true) true Try.f4.params.toList args.toList ds p := hA0
  have hA9 := hA
  rw [Try.params4] at hA hval
  obtain ⟨v0, vs0, d0, ds0, p0, q0, hargs, rfl, rfl, h0, tt0⟩ := trodAll_cons hA
  obtain ⟨rfl, rfl, rfl⟩ := trodAll_nil tt0
  obtain rfl : args = #[v0] := by cases args; simp_all
  obtain ⟨rfl, rfl⟩ := trodVars_none hV
  have hW9 := hW'
  rw [List.append_nil] at hW9
  obtain ⟨P0, hp0, na0, nb0, la0, lb0⟩ := open_prm (hval 0 24 v0 rfl rfl) h0
  have hE : Join.E W.heap.size W := trivial
  refine (Join.makes_law P0 v0 W na0 nb0 la0 lb0 hp0 hE).mono fun e W' ⟨he, hc⟩ => ?_
  subst he
  exact ⟨_, rfl, post_of_below (by kernel_rfl) hW9 rfl hA9 (by kernel_rfl) (fun _ _ _ => trodAll_cons_mk (shut_bool Try.underlying4 _) trodAll_mk0) rfl rfl (hc.below (Nat.le_refl _) (fun _ h => h.elim)) (ok_one (by kernel_rfl) rfl (okWide_bool_mk Try.underlying4 _))⟩

set_option maxRecDepth 100000 in
theorem lifted (os : Os) (started : os.Started) (H : Type) (enc : TypeId × Value → H) :
    ReturnsInHanded {} Try.checked os 4 .any (Rows.joinMakesSpec.pre6 enc Try.prog Try.f4 Rows.joinMakesRow.domain false) (Rows.joinMakesSpec.post enc Try.prog Try.f4 false true false false) := by
  refine returnsInHanded_of_change (C := Try.checked) (s := Rows.joinMakesSpec) own started (by kernel_rfl) Try.func4
    (ChangeSpec.witness6 (enc := enc) (C := Try.checked) (s := Rows.joinMakesSpec) false ⟨#[], #[.agg #[.int .i64 0, .int .i64 0, .slice none 0 0, .slice none 0 0]], []⟩ 8 (by kernel_rfl) (by kernel_rfl) (by kernel_rfl) (by kernel_rfl)) ?_
  intro W base args ds gs before hval hW _ _
  exact contract H enc W base args ds gs before hval hW

end Go.Proofs.Ytkgmbomfkdkofaa.JoinMakes
namespace Go.Proofs.Ytkgmbomfkdkofaa
open Go Go.ChangeShapes Go.WideShapes Go.ChangeAt Go.RowKit
theorem joinMakes_said : Rows.JoinMakesSaid :=
  OpenClaim.holds_of_wide 4 Try.f4 rfl rfl rfl rfl rfl rfl rfl ⟨rfl, rfl, rfl, rfl, rfl⟩ rfl rfl rfl rfl rfl (by kernel_rfl) Try.func4 (by kernel_rfl)
    (of_decide_eq_true (by kernel_rfl)) (by unfold Func.isWrapper; first | (rw [if_pos (by decide +kernel)]; kernel_rfl) | (rw [if_neg (by decide +kernel)]; exact ⟨rfl, rfl⟩))
    (fun os started H enc _ => JoinMakes.lifted os started H enc)
end Go.Proofs.Ytkgmbomfkdkofaa
