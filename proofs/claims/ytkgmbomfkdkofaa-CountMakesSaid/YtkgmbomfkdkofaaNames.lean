/- The contracts of slices.Contains and slices.Compact at bytes (the shelf's, laid at this program). -/
import Derived.Test.YtkgmbomfkdkofaaStrm
import Derived.Shelf.SlicesE.Compact
import Derived.Shelf.SlicesE.Index
import Derived.Test.YtkgmbomfkdkofaaClone
import Derived.Test.YtkgmbomfkdkofaaSortH
import Derived.Outline
namespace Go.Proofs.Ytkgmbomfkdkofaa
open Go Go.Shelf Go.RowKit
def slren : Go.Shelf.Ren := ⟨fun | 29 => 50 | 31 => 46 | 43 => 49 | n => n, fun | 0 => 0 | 3 => 3 | 4 => 4 | 22 => 22 | 23 => 5 | n => n, fun | n => n⟩
theorem lay43 : SlLaysE.n43 Try.prog slren := {
  mixed := by kernel_rfl
  f43 := ⟨"slices.Compact[[]byte,byte]", rfl, Try.func49.trans (congrArg some (by kernel_rfl))⟩
  t0 := Try.underlying0
  a0 := Try.isAgg0
  z0 := Try.sizeOf0
  v0 := Try.zeroValue0
  t3 := Try.underlying3
  a3 := Try.isAgg3
  z3 := Try.sizeOf3
  v3 := Try.zeroValue3
  t4 := Try.underlying4
  a4 := Try.isAgg4
  z4 := Try.sizeOf4
  v4 := Try.zeroValue4
  t22 := Try.underlying22
  a22 := Try.isAgg22
  z22 := Try.sizeOf22
  v22 := Try.zeroValue22
  a23 := Try.isAgg5
  z23 := Try.sizeOf5 }
theorem lay31 : SlLaysE.n31 Try.prog slren := {
  mixed := by kernel_rfl
  f29 := ⟨"slices.Index[[]byte,byte]", rfl, Try.func50.trans (congrArg some (by kernel_rfl))⟩
  f31 := ⟨"slices.Contains[[]byte,byte]", rfl, Try.func46.trans (congrArg some (by kernel_rfl))⟩
  t0 := Try.underlying0
  a0 := Try.isAgg0
  z0 := Try.sizeOf0
  v0 := Try.zeroValue0
  t3 := Try.underlying3
  a3 := Try.isAgg3
  z3 := Try.sizeOf3
  v3 := Try.zeroValue3
  t4 := Try.underlying4
  a4 := Try.isAgg4
  z4 := Try.sizeOf4
  v4 := Try.zeroValue4
  t22 := Try.underlying22
  a22 := Try.isAgg22
  z22 := Try.sizeOf22
  v22 := Try.zeroValue22
  a23 := Try.isAgg5
  z23 := Try.sizeOf5 }

theorem compact_raw (blk off cap : Nat) (d : Array Int) (w : World) (hH : Sort.Holds (Value.int .u8) w blk off d) (hsz : d.size ≤ 9223372036854775807) (hcap : d.size ≤ cap) :
    Calls Try.prog 49 #[.slice (some ⟨blk, off, none⟩) d.size cap] w fun e w' => e = .returned (.slice (some ⟨blk, off, none⟩) (Lib.compactUpTo d d.size).length cap) ∧ ∃ q, w' = Sort.putRow (Value.int .u8) (Sort.ahead w q) blk off (Lib.compactUpTo d d.size ++ List.replicate (d.size - (Lib.compactUpTo d d.size).length) 0).toArray :=
  AnyE.slices_Compact lay43 (Value.int .u8) (fun _ => rfl) (EqlAt.intD _ _ .u8) (NeqAt.intD _ _ .u8) 0 Try.zeroValue5 blk off cap d w hH hsz hcap

theorem contains_raw (b off n c : Nat) (zs : List Int) (x : Int) (w : World) (hz : n ≤ zs.length) (hbig : n ≤ 9223372036854775807) (hc : ∀ j, j < zs.length → w.cell? ⟨b, off + j, none⟩ = some (.int .u8 zs[j]!)) :
    Calls Try.prog 46 #[.slice (some ⟨b, off, none⟩) n c, .int .u8 x] w fun e w' => e = .returned (.bool ((zs.take n).any fun y => decide (x = y))) ∧ w' = w :=
  AnyE.slices_Contains lay31 (Value.int .u8) (fun x y => decide (x = y)) (EqlAt.intD _ _ .u8) b off n c zs x w hz hbig hc
theorem contains_none (a : Option Addr) (c : Nat) (x : Value) (w : World) :
    Calls Try.prog 46 #[.slice a 0 c, x] w fun e w' => e = .returned (.bool false) ∧ w' = w := AnyE.slices_Contains_empty lay31 a c x w
end Go.Proofs.Ytkgmbomfkdkofaa

/- slices.Clone at bytes in memory of its own; slices.Contains and slices.Compact at bytes. -/
namespace Go.Proofs.Ytkgmbomfkdkofaa
open Go Go.RowKit Go.Sort

section
variable {P : Program} (w : World)
theorem run_append_own (t ty e : TypeId) (i : TypeInfo) (z : Value) (size bytes : Nat) (ht : P.underlying t = some (.slice e)) (hi : P.info? e = some i) (hz : i.zero = some z)
    (hsize : i.size = size) (hby : i.bytes = bytes) (hzs : z.cells.size = size) (hsz : 0 < size)
    (ad : Addr) (D : Nat → Prop) (A : Option Addr) (m c : Nat) (news : List Value) (hm : 0 < m) (hr : Rd w D size A m news) (h1 : ∀ u ∈ news, u.oneCell' = true)
    (h63 : m ≤ maxLen) (hbytes : m * bytes ≤ 140737488355328) :
    ∃ v' w', (Builtin.append_ #[t, t] ty #[.slice (some ad) 0 0, .slice A m c]).run P w = .ok v' w' ∧ w'.ownsRow w.heap.size e size v' m news ∧ Below w.heap.size w w' := by
  obtain ⟨v', w', hrun, hown, hg, hv⟩ := run_append_rd (P := P) w w.heap.size t ty e i z size bytes ht hi hz hsize hby hzs hsz (.slice none 0 0) 0 [] (World.ownsRow_nil w _ _ _) D A m c news hr h1 (by omega) (by rw [Nat.zero_add]; exact hbytes) (Nat.le_refl _)
  rw [Nat.zero_add, List.nil_append] at hown
  exact ⟨v', w', (run_append_fresh_nil w t ty e i ht hi ad A m c hm h63 (by rw [hby]; exact hbytes)).trans hrun, hown, (Below.refl _ _).grown hg (Nat.le_refl _) (fun k hk => by simp [Value.ownBlock] at hk)⟩

theorem wp_append_own {o : Oper} {a : Act} {K : Act → World → Prop} {Q : Exit → Act → World → Prop} (s x : Operand) (t : TypeId)
    (ho : o.op = .call { callee := .builtin .append, args := #[s, x], argTypes := #[t, t] })
    (e : TypeId) (i : TypeInfo) (z : Value) (size bytes : Nat) (ht : P.underlying t = some (.slice e)) (hi : P.info? e = some i) (hz : i.zero = some z)
    (hsize : i.size = size) (hby : i.bytes = bytes) (hzs : z.cells.size = size) (hsz : 0 < size)
    (ad : Addr) (hs : a.eval s = .slice (some ad) 0 0) (D : Nat → Prop) (A : Option Addr) (m c : Nat) (news : List Value) (hm : 0 < m) (hx : a.eval x = .slice A m c) (hr : Rd w D size A m news) (h1 : ∀ u ∈ news, u.oneCell' = true)
    (h63 : m ≤ maxLen) (hbytes : m * bytes ≤ 140737488355328)
    (h : ∀ v' w', w'.ownsRow w.heap.size e size v' m news → Below w.heap.size w w' → K (a.put o.dst v') w') : o.wp P a w K Q := by
  obtain ⟨v', w', hrun, h2, h3⟩ := run_append_own (P := P) w t o.type e i z size bytes ht hi hz hsize hby hzs hsz ad D A m c news hm hr h1 h63 hbytes
  unfold Oper.wp execOp
  simp only [ho, resolve, invoke, builtin, Sem.run_bind, Sem.run_pure, Result.andThen_ok, List.map_toArray, List.map_cons, List.map_nil, hs, hx, hrun]
  exact h v' w' h2 h3

theorem wpList_append_own {ops : Array Oper} {rest : List Oper} {o : Oper} {a : Act} {Q : Exit → Act → World → Prop} (hgd : o.guard = none) (s x : Operand) (t : TypeId)
    (ho : o.op = .call { callee := .builtin .append, args := #[s, x], argTypes := #[t, t] })
    (e : TypeId) (i : TypeInfo) (z : Value) (size bytes : Nat) (ht : P.underlying t = some (.slice e)) (hi : P.info? e = some i) (hz : i.zero = some z)
    (hsize : i.size = size) (hby : i.bytes = bytes) (hzs : z.cells.size = size) (hsz : 0 < size)
    (ad : Addr) (hs : a.eval s = .slice (some ad) 0 0) (D : Nat → Prop) (A : Option Addr) (m c : Nat) (news : List Value) (hm : 0 < m) (hx : a.eval x = .slice A m c) (hr : Rd w D size A m news) (h1 : ∀ u ∈ news, u.oneCell' = true)
    (h63 : m ≤ maxLen) (hbytes : m * bytes ≤ 140737488355328)
    (h : ∀ v' w', w'.ownsRow w.heap.size e size v' m news → Below w.heap.size w w' → wpList P ops Q rest (a.put o.dst v') w') : wpList P ops Q (o :: rest) a w :=
  wpList_plain hgd fun _ hK => wp_append_own w s x t ho e i z size bytes ht hi hz hsize hby hzs hsz ad hs D A m c news hm hx hr h1 h63 hbytes fun v' w' h2 h3 => hK _ _ (h v' w' h2 h3)
end

/-- A row of bytes of one's own. -/
def OwnPost (w : World) (bs : Bs) (e : Ending) (w' : World) : Prop :=
  ∃ g cap, e = .returned (.slice (some ⟨g, 0, none⟩) bs.length cap) ∧ w.heap.size ≤ g ∧ g < w'.heap.size ∧ bs.length ≤ cap ∧ Holds e8 w' g 0 (nums bs) ∧ Below w.heap.size w w'

theorem own_holds {w : World} {base : Nat} {v : Value} {bs : Bs} (h0 : 0 < bs.length) (h : w.ownsRow base 5 1 v bs.length (u8s bs)) :
    ∃ g cap, v = .slice (some ⟨g, 0, none⟩) bs.length cap ∧ base ≤ g ∧ g < w.heap.size ∧ bs.length ≤ cap ∧ Holds e8 w g 0 (nums bs) := by
  rcases h.2 with ⟨_, h1⟩ | ⟨g, cap, cur, rfl, hb, hg, hc, _, hs, ht⟩
  · omega
  · refine ⟨g, cap, rfl, hb, (Array.getElem?_eq_some_iff.1 hg).1, hc, fun j hj => ?_⟩
    have hj' : j < bs.length := by rw [nums_size] at hj; exact hj
    have e1 : cur[j]? = some (.int .u8 ((bs[j]).toNat : Int)) := by
      have : (cur.toList.take (bs.length * 1))[j]? = (u8s bs)[j]? := by rw [ht]
      rw [List.getElem?_take_of_lt (by omega)] at this
      simp [u8s, List.getElem?_eq_getElem hj'] at this
      exact this
    refine ⟨?_, ?_⟩
    · rw [Nat.zero_add, cell_of_row _ _ j _ _ (0, 0) hg, e1]
      rw [getElem!_pos (nums bs) j hj]
      simp [nums, e8]
    · unfold World.frozen?
      simp [hg]

set_option maxRecDepth 100000 in
theorem clone8 (D : Nat → Prop) (A : Option Addr) (c : Nat) (bs : Bs) (w : World) (hr : Rd w D 1 A bs.length (u8s bs)) (h0 : 0 < bs.length) (hl : bs.length ≤ 100000) :
    Calls Try.prog 47 #[.slice A bs.length c] w (OwnPost w bs) := by
  obtain ⟨i0, hi0, hz0, hz1, hz2⟩ := info_parts info_u8
  obtain ⟨g, o, rfl, hg, hD, hc⟩ := hr.2 h0
  have qT : ∀ (w : World) (a : Option Addr) (n c n' c' : Nat), (binOp .eql 22 (.slice a n c) (.slice none n' c')).run Try.prog w = .ok (.bool a.isNone) w := fun w a n c n' c' => Lib.run_eql_slice_nil w _ _ a n c n' c' Try.underlying22
  have hr' := hr.chg ((Chg.refl (fun _ => False) w).alloc (.cells #[] 5)) (fun _ _ _ h => h)
  go_enter Try.func47, Try.ntmps47
  go_wp2_with (first
    | (at_builtin
       refine wpList_append_own _ (by rfl) (.tmp 5) (.tmp 6) 22 (by rfl) 5 i0 _ 1 1 Try.underlying22 hi0 hz0 hz1 hz2 (by rfl) (by omega) _ (by rfl) D _ bs.length c (u8s bs) h0 (by rfl) hr' (u8s_one _) (by simp only [maxLen]; omega) (by omega) ?_
       intro v' w' hown hb2))
  go_ret
  obtain ⟨g2, cap, rfl, h1, h2, h3, h4⟩ := own_holds h0 hown
  exact ⟨g2, cap, rfl, by simp at h1; omega, h2, h3, h4, ((Below.refl _ _).alloc (Nat.le_refl _) _).trans (hb2.mono (by simp))⟩

theorem chg_putRow8 (w : World) (blk off q : Nat) (d : Array Int) : Chg (fun k => k = blk) w (putRow e8 (Go.Sort.ahead w q) blk off d) := by
  refine ⟨rfl, rfl, rfl, by simp [putRow, mapBlock, Go.Sort.ahead], fun k hk hn => ?_⟩
  simp only [putRow, mapBlock, Go.Sort.ahead, Array.getElem?_modify]
  rw [if_neg (fun e => hn e.symm)]

theorem compact8 (blk off cap n : Nat) (d : Array Int) (w : World) (hn : d.size = n) (hH : Holds e8 w blk off d) (hsz : n < 1000000) (hcap : n ≤ cap) :
    Calls Try.prog 49 #[.slice (some ⟨blk, off, none⟩) n cap] w fun e w' => e = .returned (.slice (some ⟨blk, off, none⟩) (Lib.compactUpTo d d.size).length cap) ∧ Chg (fun k => k = blk) w w' := by
  subst hn
  refine (compact_raw blk off cap d w hH (by omega) hcap).mono ?_
  rintro e w' ⟨rfl, q, rfl⟩
  exact ⟨rfl, chg_putRow8 _ _ _ _ _⟩

theorem contains8 (D : Nat → Prop) (A : Option Addr) (c : Nat) (bs : Bs) (x : UInt8) (w : World) (hr : Rd w D 1 A bs.length (u8s bs)) (hl : bs.length ≤ 1000000) :
    Calls Try.prog 46 #[.slice A bs.length c, .int .u8 x.toNat] w fun e w' => e = .returned (.bool (decide (x ∈ bs))) ∧ w' = w := by
  rcases Nat.eq_zero_or_pos bs.length with h0 | h0
  · have hb : bs = [] := List.eq_nil_of_length_eq_zero h0
    subst hb
    exact contains_none A c _ w
  · obtain ⟨g, o, rfl, hg, hD, hc⟩ := hr.2 h0
    refine (contains_raw g o bs.length c (bs.map fun x => (x.toNat : Int)) x.toNat w (by simp) (by omega) (fun j hj => ?_)).mono ?_
    · have hj' : j < bs.length := by simpa using hj
      rw [hc j (.int .u8 (bs[j]).toNat) (by simp [u8s, List.getElem?_eq_getElem hj'])]
      rw [getElem!_pos (bs.map fun x => (x.toNat : Int)) j hj]
      simp
    · rintro e w' ⟨rfl, rfl⟩
      refine ⟨?_, rfl⟩
      congr 2
      rw [List.take_of_length_le (by simp)]
      rw [Bool.eq_iff_iff]
      simp only [List.any_eq_true, decide_eq_true_eq, List.mem_map]
      constructor
      · rintro ⟨y, ⟨z, hz, rfl⟩, h⟩
        have : x = z := UInt8.toNat_inj.1 (by omega)
        rw [this]; exact hz
      · intro h
        exact ⟨_, ⟨x, h, rfl⟩, rfl⟩
end Go.Proofs.Ytkgmbomfkdkofaa
