/- JoinGrows: with more of its inputs more comes out: the function returns true for every input, and its arguments read as before. No conditions. -/
import Derived.Test.YtamhebjejgcbjaaBss
import Derived.Deep.RegionHeld3
import Derived.Deep.DrawnRows
import Derived.BigQuiet
import Derived.Outline
import Derived.Test.YtamhebjejgcbjaaSame
import Derived.Test.YtamhebjejgcbjaaReady
import Derived.Test.YtamhebjejgcbjaaJoinAwake
import Derived.Deep.RegionLaw
import Derived.Deep.QuietTactic
import Derived.BigRegion
import Derived.Test.YtamhebjejgcbjaaStrm
import Derived.ProofKit
import Derived.OpenShut
import Derived.Deep.Slices
import Derived.Deep.Strs
import Derived.Lib.SmallJoins
import Derived.Carry
import Derived.Test.YtamhebjejgcbjaaRows
import Derived.WalkKit
/- penstockref04.Copy: streams in memory of their own. -/
namespace Go.Proofs.Ytamhebjejgcbjaa
open Go Go.RowKit

theorem own_apart {w : World} {b1 b2 : Nat} {e1 e2 : TypeId} {s1 s2 n1 n2 : Nat} {v1 v2 : Value} {x1 x2 : List Value} (h1 : w.ownsRow b1 e1 s1 v1 n1 x1) (h2 : w.ownsRow b2 e2 s2 v2 n2 x2) (he : e1 ≠ e2) {k : Nat} (hk : v1.ownBlock = some k) : v2.ownBlock ≠ some k := by
  intro hk2
  rcases h1.2 with ⟨rfl, _⟩ | ⟨g, cap, cur, rfl, _, hh, _⟩
  · simp [Value.ownBlock] at hk
  · rcases h2.2 with ⟨rfl, _⟩ | ⟨g', cap', cur', rfl, _, hh', _⟩
    · simp [Value.ownBlock] at hk2
    · simp [Value.ownBlock] at hk hk2
      subst hk
      subst hk2
      rw [hh] at hh'
      simp only [Option.some.injEq, Obj.cells.injEq] at hh'
      exact he hh'.2.1

/-- Streams in memory of their own, each one's bytes apart. -/
structure LAt (w : World) (B : Nat) (v : Value) (its : List (Strm × Value)) : Prop where
  row : w.ownsRow B 58 5 v its.length (its.flatMap strmC)
  byt : ∀ t ∈ its, w.ownsRow B 5 1 t.2 t.1.bs.length (u8s t.1.bs)
  apart : ∀ (i j : Nat) (a b : Strm × Value), its[i]? = some a → its[j]? = some b → i ≠ j → ∀ k, a.2.ownBlock = some k → b.2.ownBlock ≠ some k

theorem ty_ne : 5 ≠ 58 := by decide

theorem LAt.snoc {w w1 w2 : World} {B : Nat} {u v2 vb : Value} {its : List (Strm × Value)} {s : Strm} (h : LAt w B u its) (h1 : Chg (fun _ => False) w w1)
    (hb : w1.ownsRow B 5 1 vb s.bs.length (u8s s.bs)) (hvb : ∀ k, vb.ownBlock = some k → w.heap.size ≤ k) (hg : w1.grownBy w2 u.ownBlock)
    (hrow : w2.ownsRow B 58 5 v2 (its.length + 1) (its.flatMap strmC ++ strmC (s, vb))) : LAt w2 B v2 (its ++ [(s, vb)]) := by
  have hr1 := ownsRow_chg h.row h1 (fun _ _ h => h)
  have hc2 : Chg (fun j => u.ownBlock = some j) w1 w2 := (Chg.refl _ _).grown hg (fun k e => .inl e)
  refine ⟨by simpa using hrow, fun t ht => ?_, fun i j a b hi hj hne k hk hk2 => ?_⟩
  · rcases List.mem_append.1 ht with ht | ht
    · have hb1 := ownsRow_chg (h.byt t ht) h1 (fun _ _ h => h)
      exact ownsRow_chg hb1 hc2 (fun j hj e => own_apart hb1 hr1 ty_ne hj e)
    · simp only [List.mem_singleton] at ht
      subst ht
      exact ownsRow_chg hb hc2 (fun j hj e => own_apart hb hr1 ty_ne hj e)
  · have hold : ∀ {i : Nat} {a : Strm × Value}, (its ++ [(s, vb)])[i]? = some a → (i < its.length ∧ its[i]? = some a) ∨ (i = its.length ∧ a = (s, vb)) := fun {i a} hi => by
      rcases Nat.lt_or_ge i its.length with hl | hl
      · rw [List.getElem?_append_left hl] at hi
        exact .inl ⟨hl, hi⟩
      · rw [List.getElem?_append_right hl] at hi
        have hz : i - its.length = 0 := by
          have := (List.getElem?_eq_some_iff.1 hi).1
          simpa using this
        rw [hz] at hi
        simp only [List.getElem?_cons_zero, Option.some.injEq] at hi
        exact .inr ⟨by omega, hi.symm⟩
    rcases hold hi with ⟨_, ha⟩ | ⟨rfl, rfl⟩ <;> rcases hold hj with ⟨_, hb'⟩ | ⟨rfl, rfl⟩
    · exact h.apart i j a b ha hb' hne k hk hk2
    · have := ((h.byt a (List.mem_of_getElem? ha)).lt k hk).2
      have := hvb k hk2
      omega
    · have := ((h.byt b (List.mem_of_getElem? hb')).lt k hk2).2
      have := hvb k hk
      omega
    · exact hne rfl

theorem LAt.strms {w : World} {B : Nat} {v : Value} {its : List (Strm × Value)} {l : List Strm} (h : LAt w B v its) (hl : its.map (fun t => t.1) = l) : ∃ A c, v = .slice A l.length c ∧ StrmsAt w (fun k => B ≤ k) (.slice A l.length c) l := by
  obtain ⟨A, c, rfl, hr⟩ := own_rd h.row
  have e : its.length = l.length := by rw [← hl]; simp
  rw [e] at hr ⊢
  refine ⟨A, c, rfl, A, c, its, rfl, hl.symm, hr, fun t ht => ?_⟩
  have hb := h.byt t ht
  obtain ⟨A2, c2, e2, hr2⟩ := own_rd hb
  refine ⟨⟨A2, c2, e2, hr2⟩, fun A3 n3 c3 e3 => ?_⟩
  rcases hb.2 with ⟨e4, h0⟩ | ⟨g, cap, cur, e4, _, _, hnc, _⟩
  · rw [e4] at e3; cases e3; exact Nat.le_refl _
  · rw [e4] at e3; cases e3; exact hnc

def CopyLPost (w : World) (l : List Strm) (e : Ending) (w' : World) : Prop := ∃ v its, e = .returned v ∧ its.map (fun t => t.1) = l ∧ LAt w' w.heap.size v its ∧ Chg (fun _ => False) w w'

set_option maxHeartbeats 4000000 in
set_option maxRecDepth 100000 in
theorem copy_any (D : Nat → Prop) (l : List Strm) (A : Option Addr) (c : Nat) (w : World) (h : StrmsAt w D (.slice A l.length c) l) (hll : l.length ≤ 100) (hl : ∀ s ∈ l, s.bs.length ≤ 1000000) :
    Calls Try.prog 31 #[.slice A l.length c] w (CopyLPost w l) := by
  obtain ⟨i0, hi0, iz0, iz1, iz2⟩ := info_parts info_strm
  obtain ⟨j0, hj0, jz0, jz1, jz2⟩ := info_parts info_u8
  go_enter Try.func31, Try.ntmps31
  go_wp2
  go_loopw [4, 3] (fun i v wr => ∃ (k : Nat) (its : List (Strm × Value)), k ≤ l.length ∧ i = .int .i64 k ∧ its.length = k ∧ its.map (fun t => t.1) = l.take k ∧ LAt wr w.heap.size v its ∧ Chg (fun _ => False) w wr) (fun i _ _ => l.length - (intOf i).toNat)
  case atStart => exact ⟨0, [], by omega, rfl, rfl, rfl, ⟨by simpa using World.ownsRow_nil _ _ _ _, by simp, by simp⟩, Chg.refl _ _⟩
  case round =>
    obtain ⟨k, its, hk, rfl, hlen, hmap, hL, hch⟩ := hrel
    by_cases hlt : k < l.length
    · have hlt' : (k : Int) < (l.length : Int) := by omega
      have hk0 : (0 : Int) ≤ (k : Int) := by omega
      obtain ⟨z0, g2, o2, A2, c2, rfl, hg2, hD2, q0, q1, q2, q3, q4, hr2, hc2⟩ := (h.chg hch (fun _ _ _ h => h)).at_ hlt
      have hsl := hl _ (List.getElem_mem hlt)
      have hmap2 : l.take (k + 1) = l.take k ++ [l[k]] := List.take_succ_eq_append_getElem hlt
      generalize l[k] = s at *
      have hs2 := hch.size
      have hst : Blk (wr.alloc (.cells #[.slice A2 s.bs.length c2, .bool s.ended, .int .i64 s.code, .int .i64 s.stage, .int .i64 s.id] 58)) wr.heap.size 58 #[.slice A2 s.bs.length c2, .bool s.ended, .int .i64 s.code, .int .i64 s.stage, .int .i64 s.id] := Blk.new _ _ _
      have hst2 := hst.alloc (.cells #[] 5)
      have hch2 : Chg (fun _ => False) wr ((wr.alloc (.cells #[.slice A2 s.bs.length c2, .bool s.ended, .int .i64 s.code, .int .i64 s.stage, .int .i64 s.id] 58)).alloc (.cells #[] 5)) := ((Chg.refl _ _).alloc _).alloc _
      have hsz2 : ((wr.alloc (.cells #[.slice A2 s.bs.length c2, .bool s.ended, .int .i64 s.code, .int .i64 s.stage, .int .i64 s.id] 58)).alloc (.cells #[] 5)).heap.size = wr.heap.size + 2 := by simp
      have hown0 : ((wr.alloc (.cells #[.slice A2 s.bs.length c2, .bool s.ended, .int .i64 s.code, .int .i64 s.stage, .int .i64 s.id] 58)).alloc (.cells #[] 5)).ownsRow w.heap.size 5 1 (.slice (some ⟨wr.heap.size + 1, 0, none⟩) 0 0) 0 [] :=
        ⟨rfl, .inr ⟨wr.heap.size + 1, 0, #[], rfl, by omega, by
          have := Blk.new (wr.alloc (.cells #[.slice A2 s.bs.length c2, .bool s.ended, .int .i64 s.code, .int .i64 s.stage, .int .i64 s.id] 58)) 5 #[]
          simp only [World.size_alloc] at this
          exact this, Nat.le_refl _, by simp [maxLen], rfl, rfl⟩⟩
      have hr3 := (hr2.mono (D' := fun _ => True) (fun _ _ _ => trivial)).chg hch2 (fun _ _ _ h => h)
      replace hmap2 := Lib.hid hmap2
      replace hmap := Lib.hid hmap
      replace hlen := Lib.hid hlen
      replace hown0 := Lib.hid hown0
      replace hsz2 := Lib.hid hsz2
      have tn := Lib.hid trivial
      clear hr2 h hl
      go_wp2_with (first
        | (clear tn
           at_builtin
           refine wpList_append_rd _ rfl (.tmp 16) (.tmp 18) 22 rfl w.heap.size 5 j0 _ 1 1 Try.underlying22 hj0 jz0 jz1 jz2 rfl (by omega) (.slice (some ⟨wr.heap.size + 1, 0, none⟩) 0 0) 0 [] rfl hown0.out (fun _ => True) A2 s.bs.length c2 (u8s s.bs) rfl hr3 (u8s_one _) (by simp only [maxLen]; omega) (by omega) (by simp; omega) ?_
           intro vb wb hownb hgb hvb
           have hbb : Blk wb wr.heap.size 58 #[.slice A2 s.bs.length c2, .bool s.ended, .int .i64 s.code, .int .i64 s.stage, .int .i64 s.id] := hst2.grown hgb (by simp [Value.ownBlock])
           have hszb := hgb.size
           have hcb : Chg (fun _ => False) wr wb := hch2.grown hgb (fun k e => by simp [Value.ownBlock] at e; exact .inr (by omega))
           rw [Nat.zero_add, List.nil_append] at hownb
           obtain ⟨Ab, cb, rfl, hrb⟩ := own_rd hownb
           have k1 := (hbb.cell 1).trans rfl
           have k2 := (hbb.cell 2).trans rfl
           have k3 := (hbb.cell 3).trans rfl
           have k4 := (hbb.cell 4).trans rfl
           have kf := hbb.frozen 0
           have k0 := (hbb.cell 0).trans rfl)
        | (at_builtin
           have hwc : Chg (fun _ => False) wr (wb.setCell ⟨wr.heap.size, 0, none⟩ (.slice Ab s.bs.length cb)) := hcb.setCell (.inr (Nat.le_refl _)) _
           have hwd : Chg (fun _ => False) wr ((wb.setCell ⟨wr.heap.size, 0, none⟩ (.slice Ab s.bs.length cb)).alloc (.cells #[.slice Ab s.bs.length cb, .bool s.ended, .int .i64 s.code, .int .i64 s.stage, .int .i64 s.id] 58)) := hwc.alloc _
           have hbw : Chg (fun j => j = wr.heap.size) wb ((wb.setCell ⟨wr.heap.size, 0, none⟩ (.slice Ab s.bs.length cb)).alloc (.cells #[.slice Ab s.bs.length cb, .bool s.ended, .int .i64 s.code, .int .i64 s.stage, .int .i64 s.id] 58)) := ((Chg.refl (fun j => j = wr.heap.size) _).setCell (p := ⟨wr.heap.size, 0, none⟩) (.inl rfl) _).alloc _
           have hvn : ∀ j, (Value.slice Ab s.bs.length cb).ownBlock = some j → wr.heap.size + 1 ≤ j := fun j e => by
             rcases hvb with hv | hv
             · rw [hv] at e; simp [Value.ownBlock] at e; omega
             · rw [hv, hsz2.out] at e; simp at e; omega
           have hownb2 := ownsRow_chg hownb hbw (fun j hj e => by have := hvn j hj; omega)
           have hnb := Blk.new (wb.setCell ⟨wr.heap.size, 0, none⟩ (.slice Ab s.bs.length cb)) 58 #[.slice Ab s.bs.length cb, .bool s.ended, .int .i64 s.code, .int .i64 s.stage, .int .i64 s.id]
           rw [World.size_setCell] at hnb
           refine wpList_append_own_at _ rfl (.tmp 21) (.tmp 23) 36 rfl w.heap.size 58 i0 _ 5 56 Try.underlying36 hi0 iz0 iz1 iz2 rfl (by omega) u3 its.length (its.flatMap strmC) rfl (ownsRow_chg hL.row hwd (fun _ _ h => h)) ⟨wb.heap.size, 0, none⟩ 1 1 [.slice Ab s.bs.length cb, .bool s.ended, .int .i64 s.code, .int .i64 s.stage, .int .i64 s.id] rfl rfl (World.news_of_block (cs := #[.slice Ab s.bs.length cb, .bool s.ended, .int .i64 s.code, .int .i64 s.stage, .int .i64 s.id]) (t := 58) (fr := (0, 0)) hnb) (by simp [Value.oneCell']) (by have := hlen.out; simp only [maxLen]; omega) (by have := hlen.out; omega) (by have := hwd.size; omega) ?_
           intro v2 w2 hown2 hg2' hv2' hat2))
      go_roundw
      case rel =>
        have hcx : Chg (fun j => u3.ownBlock = some j) wr w2 := Chg.trans (S := fun j => u3.ownBlock = some j) (hwd.mono (fun _ h _ => h.elim)) ((Chg.refl (fun j => u3.ownBlock = some j) _).grown hg2' (fun j e => .inl e)) (fun _ h _ => h)
        exact ⟨k + 1, its ++ [(s, .slice Ab s.bs.length cb)], by omega, by go_num, by simp [hlen.out], by rw [hmap2.out, List.map_append, hmap.out]; rfl, hL.snoc (s := s) (vb := .slice Ab s.bs.length cb) hwd hownb2 (fun j hj => by have := hvn j hj; omega) hg2' hown2, hch.trans hcx (fun y hy hlt => by have := (hL.row.lt y hy).1; omega)⟩
      case measure => simp [intOf]; omega
    · have hlt' : ¬ (k : Int) < (l.length : Int) := by omega
      have hkn : k = l.length := by omega
      subst hkn
      rw [List.take_of_length_le (Nat.le_refl _)] at hmap
      replace hmap := Lib.hid hmap
      replace hlen := Lib.hid hlen
      go_wp2
      go_ret
      exact ⟨_, its, rfl, hmap.out, hL, hch⟩
end Go.Proofs.Ytamhebjejgcbjaa

/- Streams in memory of their own that are made longer. -/
namespace Go.Proofs.Ytamhebjejgcbjaa
open Go Go.RowKit

/-- What the laws make of the i-th input. -/
def growS (more : List Bs) (ends : List Bool) (i : Nat) (s : Strm) : Strm :=
  if s.ended = true ∨ s.code ≠ 0 then s else ⟨s.bs ++ more.getD i [], ends.getD i false, s.code, s.stage, s.id⟩
def mix (more : List Bs) (ends : List Bool) (ins : List Strm) (k : Nat) : List Strm := ins.mapIdx fun j s => if j < k then growS more ends j s else s

theorem grow_one (more : List Bs) (ends : List Bool) (i : Nat) (s : Strm) : Grow s (growS more ends i s) := by
  unfold growS
  split
  · exact ⟨fun _ => rfl, List.prefix_refl _⟩
  · next h => exact ⟨fun he => absurd (.inl he) h, List.prefix_append _ _⟩
theorem mix_len (more : List Bs) (ends : List Bool) (ins : List Strm) (k : Nat) : (mix more ends ins k).length = ins.length := by simp [mix]
theorem mix_zero (more : List Bs) (ends : List Bool) (ins : List Strm) : mix more ends ins 0 = ins := by
  unfold mix
  apply List.ext_getElem?
  intro i
  simp
theorem mix_at (more : List Bs) (ends : List Bool) (ins : List Strm) (k : Nat) (hk : k < ins.length) : (mix more ends ins k)[k]? = some ins[k] := by
  simp [mix, hk]
theorem mix_succ (more : List Bs) (ends : List Bool) (ins : List Strm) (k : Nat) (hk : k < ins.length) : mix more ends ins (k + 1) = (mix more ends ins k).set k (growS more ends k ins[k]) := by
  apply List.ext_getElem?
  intro i
  rw [List.getElem?_set]
  by_cases hi : k = i
  · subst hi
    simp [mix, hk]
  · rw [if_neg hi]
    unfold mix
    rw [List.getElem?_mapIdx, List.getElem?_mapIdx]
    rcases ins[i]? with _ | s
    · rfl
    · simp only [Option.map_some]
      congr 1
      by_cases h : i < k
      · rw [if_pos h, if_pos (by omega)]
      · rw [if_neg h, if_neg (by omega)]
theorem mix_grow (more : List Bs) (ends : List Bool) (ins : List Strm) (n : Nat) (hn : ins.length ≤ n) : ∀ q ∈ ins.zip (mix more ends ins n), Grow q.1 q.2 := by
  intro q hq
  obtain ⟨i, hi, e⟩ := List.mem_iff_getElem.1 hq
  simp only [List.length_zip, mix_len, Nat.min_self] at hi
  subst e
  simp only [List.getElem_zip, mix, List.getElem_mapIdx]
  rw [if_pos (by omega)]
  exact grow_one _ _ _ _
theorem mix_bs (more : List Bs) (ends : List Bool) (ins : List Strm) (k m : Nat) (hl : ∀ s ∈ ins, s.bs.length ≤ m) (hm : ∀ i, i < k → i < ins.length → ∀ b, more[i]? = some b → (ins[i]?.all fun s => s.ended || s.code != 0) = false → b.length ≤ 1000) : ∀ s ∈ mix more ends ins k, s.bs.length ≤ m + 1000 := by
  intro s hs
  obtain ⟨i, hi, e⟩ := List.mem_iff_getElem.1 hs
  rw [mix_len] at hi
  subst e
  simp only [mix, List.getElem_mapIdx]
  have hb := hl _ (List.getElem_mem hi)
  split
  · next h =>
    unfold growS
    split
    · omega
    · next h2 =>
      have h3 := hm i h hi
      rw [List.getElem?_eq_getElem hi] at h3
      simp only [List.length_append]
      rcases hmi : more[i]? with _ | b
      · rw [List.getD_eq_getElem?_getD, hmi]; simp; omega
      · have := h3 b hmi (by
          simp only [Option.all_some, Bool.or_eq_false_iff]
          refine ⟨?_, ?_⟩
          · cases hh : (ins[i]).ended
            · rfl
            · exact absurd (.inl hh) h2
          · simp only [bne_eq_false_iff_eq]
            exact Classical.byContradiction fun hc => h2 (.inr hc))
        rw [List.getD_eq_getElem?_getD, hmi]; simp; omega
  · omega

theorem flat_set (its : List (Strm × Value)) : ∀ (k i : Nat) (t t' : Strm × Value) (u : Value), its[k]? = some t → i < 5 → strmC t' = (strmC t).set i u → (its.flatMap strmC).set (k * 5 + i) u = (its.set k t').flatMap strmC := by
  induction its with
  | nil => intro k i t t' u h; simp at h
  | cons a r ih =>
    intro k i t t' u h hi he
    rcases k with _ | k
    · simp only [List.getElem?_cons_zero, Option.some.injEq] at h
      subst h
      rw [List.flatMap_cons, Nat.zero_mul, Nat.zero_add, List.set_append_left _ _ (by simpa [strmC] using hi), List.set_cons_zero, List.flatMap_cons, he]
    · simp only [List.getElem?_cons_succ] at h
      have h5 : (strmC a).length = 5 := rfl
      rw [List.flatMap_cons, List.set_append_right _ _ (by rw [h5]; omega), List.set_cons_succ, List.flatMap_cons, h5, show (k + 1) * 5 + i - 5 = k * 5 + i by omega, ih k i t t' u h hi he]

theorem own_set {w : World} {B g n c size i : Nat} {T : TypeId} {xs : List Value} {u : Value} (h : w.ownsRow B T size (.slice (some ⟨g, 0, none⟩) n c) n xs) (_ : i < n * size) : (w.setCell ⟨g, i, none⟩ u).ownsRow B T size (.slice (some ⟨g, 0, none⟩) n c) n (xs.set i u) := by
  refine ⟨by rw [List.length_set]; exact h.1, ?_⟩
  rcases h.2 with ⟨e, _⟩ | ⟨g', cap, cur, hv, hg, hh, hnc, hcap, hcs, hxs⟩
  · cases e
  · cases hv
    refine .inr ⟨g, c, cur.setIfInBounds i u, rfl, hg, ?_, hnc, hcap, by simpa using hcs, ?_⟩
    · have hb : Blk w g T cur := hh
      exact hb.set i u
    · rw [Array.toList_setIfInBounds, List.take_set, hxs]

theorem LAt.blk {w : World} {B : Nat} {A : Option Addr} {n c : Nat} {its : List (Strm × Value)} (h : LAt w B (.slice A n c) its) {k : Nat} (hk : k < its.length) :
    ∃ G, A = some ⟨G, 0, none⟩ ∧ n = its.length ∧ B ≤ G ∧ G < w.heap.size ∧ (∀ i, w.frozen? ⟨G, i, none⟩ = false) ∧ ∀ i, i < 5 → w.cell? ⟨G, k * 5 + i, none⟩ = (strmC its[k])[i]? := by
  rcases h.row.2 with ⟨e, h0⟩ | ⟨g, cap, cur, hv, hg, hh, hnc, hcap, hcs, hxs⟩
  · omega
  · cases hv
    have hb : Blk w g 58 cur := hh
    refine ⟨g, rfl, rfl, hg, hb.lt, fun i => hb.frozen i, fun i hi => ?_⟩
    rw [hb.cell, ← flat5 its k hk i hi, ← hxs, List.getElem?_take, if_pos (by omega)]
    simp

theorem mix_skip (more : List Bs) (ends : List Bool) (ins : List Strm) (k : Nat) (hk : k < ins.length) (h : growS more ends k ins[k] = ins[k]) : mix more ends ins (k + 1) = mix more ends ins k := by
  rw [mix_succ _ _ _ _ hk, h]
  apply List.ext_getElem?
  intro i
  rw [List.getElem?_set]
  by_cases e : k = i
  · subst e
    rw [if_pos rfl, if_pos (by rw [mix_len]; exact hk), mix_at _ _ _ _ hk]
  · rw [if_neg e]
theorem growS_ended (more : List Bs) (ends : List Bool) (k : Nat) (s : Strm) (h : s.ended = true ∨ s.code ≠ 0) : growS more ends k s = s := if_pos h
theorem growS_more (more : List Bs) (ends : List Bool) (k : Nat) (bs m : Bs) (e : Bool) (st id : Int) (hm : more.getD k [] = m) (he : ends.getD k false = e) : growS more ends k ⟨bs, false, 0, st, id⟩ = ⟨bs ++ m, e, 0, st, id⟩ := by
  unfold growS
  rw [if_neg (by simp), hm, he]

def CopyLPost2 (w : World) (l : List Strm) (e : Ending) (w' : World) : Prop := ∃ A c its, e = .returned (.slice A l.length c) ∧ its.map (fun t => t.1) = l ∧ LAt w' w.heap.size (.slice A l.length c) its ∧ Chg (fun _ => False) w w'
theorem copy_any2 (D : Nat → Prop) (l : List Strm) (A : Option Addr) (c : Nat) (w : World) (h : StrmsAt w D (.slice A l.length c) l) (hll : l.length ≤ 100) (hl : ∀ s ∈ l, s.bs.length ≤ 1000000) :
    Calls Try.prog 31 #[.slice A l.length c] w (CopyLPost2 w l) := by
  refine (copy_any D l A c w h hll hl).mono ?_
  rintro e w' ⟨v, its, rfl, hm, hL, hc⟩
  obtain ⟨A2, c2, rfl, _⟩ := own_rd hL.row
  have hn : its.length = l.length := by rw [← hm]; simp
  rw [hn] at hL ⊢
  exact ⟨A2, c2, its, rfl, hm, hL, hc⟩

/-- One stream is made longer. -/
theorem LAt.upd {w w1 w2 : World} {B G n c k : Nat} {its : List (Strm × Value)} {s s' : Strm} {v v' : Value} (h : LAt w B (.slice (some ⟨G, 0, none⟩) n c) its) (hk : its[k]? = some (s, v))
    (hc : Chg (fun j => v.ownBlock = some j) w w1) (hb : w1.ownsRow B 5 1 v' s'.bs.length (u8s s'.bs)) (hv' : ∀ j, v'.ownBlock = some j → v.ownBlock = some j ∨ w.heap.size ≤ j)
    (hrow : w2.ownsRow B 58 5 (.slice (some ⟨G, 0, none⟩) n c) n ((its.set k (s', v')).flatMap strmC)) (hc2 : Chg (fun j => j = G) w1 w2) : LAt w2 B (.slice (some ⟨G, 0, none⟩) n c) (its.set k (s', v')) := by
  have hkl : k < its.length := (List.getElem?_eq_some_iff.1 hk).1
  have hnl : n = its.length := by
    rcases h.row.2 with ⟨e, h0⟩ | ⟨g, cap, cur, hv, hg, hh, hnc, hcap, hcs, hxs⟩
    · cases e
    · cases hv; rfl
  have hmem : (s, v) ∈ its := List.mem_of_getElem? hk
  have hr1 := ownsRow_chg h.row hc (fun j hj e => own_apart (h.byt _ hmem) h.row ty_ne e hj)
  have hold : ∀ (i : Nat) (a : Strm × Value), (its.set k (s', v'))[i]? = some a → (i = k ∧ a = (s', v')) ∨ (i ≠ k ∧ its[i]? = some a) := fun i a hi => by
    rw [List.getElem?_set] at hi
    by_cases e : k = i
    · rw [if_pos e, if_pos hkl] at hi
      exact .inl ⟨e.symm, (Option.some.inj hi).symm⟩
    · rw [if_neg e] at hi
      exact .inr ⟨fun h => e h.symm, hi⟩
  refine ⟨by rw [List.length_set, ← hnl]; exact hrow, fun t ht => ?_, fun i j a b hi hj hne x hx hx2 => ?_⟩
  · obtain ⟨i, hi⟩ := List.getElem?_of_mem ht
    rcases hold i t hi with ⟨_, rfl⟩ | ⟨hne, hi'⟩
    · exact ownsRow_chg hb hc2 (fun j hj e => own_apart hb hr1 ty_ne hj (by rw [e]; rfl))
    · have hb0 := h.byt t (List.mem_of_getElem? hi')
      have hb1 := ownsRow_chg hb0 hc (fun j hj e => h.apart i k t (s, v) hi' hk hne j hj e)
      exact ownsRow_chg hb1 hc2 (fun j hj e => own_apart hb1 hr1 ty_ne hj (by rw [e]; rfl))
  · rcases hold i a hi with ⟨rfl, rfl⟩ | ⟨hne1, hi'⟩ <;> rcases hold j b hj with ⟨rfl, rfl⟩ | ⟨hne2, hj'⟩
    · exact hne rfl
    · rcases hv' x hx with e | e
      · exact h.apart i j (s, v) b hk hj' hne x e hx2
      · have := ((h.byt b (List.mem_of_getElem? hj')).lt x hx2).2
        omega
    · rcases hv' x hx2 with e | e
      · exact h.apart i j a (s, v) hi' hk hne x hx e
      · have := ((h.byt a (List.mem_of_getElem? hi')).lt x hx).2
        omega
    · exact h.apart i j a b hi' hj' hne x hx hx2

theorem own_frozen {w : World} {B G n c size : Nat} {T : TypeId} {xs : List Value} (h : w.ownsRow B T size (.slice (some ⟨G, 0, none⟩) n c) n xs) (i : Nat) : w.frozen? ⟨G, i, none⟩ = false := by
  rcases h.2 with ⟨e, _⟩ | ⟨g, cap, cur, hv, _, hh, _⟩
  · cases e
  · cases hv
    have hb : Blk w G T cur := hh
    exact hb.frozen i

theorem LAt.n_eq {w : World} {B G n c : Nat} {its : List (Strm × Value)} (h : LAt w B (.slice (some ⟨G, 0, none⟩) n c) its) : n = its.length := by
  rcases h.row.2 with ⟨e, h0⟩ | ⟨g, cap, cur, hv, hg, hh, hnc, hcap, hcs, hxs⟩
  · cases e
  · cases hv; rfl

theorem LAt.longer {wr w1 : World} {B G n c k cv : Nat} {its : List (Strm × Value)} {bs m : Bs} {st id : Int} {Av : Option Addr} {v' : Value} (h : LAt wr B (.slice (some ⟨G, 0, none⟩) n c) its)
    (hk : its[k]? = some (⟨bs, false, 0, st, id⟩, .slice Av bs.length cv)) (hc : Chg (fun j => (Value.slice Av bs.length cv).ownBlock = some j) wr w1)
    (hown : w1.ownsRow B 5 1 v' (bs.length + m.length) (u8s bs ++ u8s m)) (hv1 : v'.ownBlock = (Value.slice Av bs.length cv).ownBlock ∨ v'.ownBlock = some wr.heap.size) (e : Bool) :
    LAt ((w1.setCell ⟨G, k * 5, none⟩ v').setCell ⟨G, k * 5 + 1, none⟩ (.bool e)) B (.slice (some ⟨G, 0, none⟩) n c) (its.set k (⟨bs ++ m, e, 0, st, id⟩, v')) := by
  have hkl : k < its.length := (List.getElem?_eq_some_iff.1 hk).1
  have hnl := h.n_eq
  have hrow := ownsRow_chg h.row hc (fun j hj e => own_apart (h.byt _ (List.mem_of_getElem? hk)) h.row ty_ne e hj)
  have hn2 : ∀ xs, w1.ownsRow B 58 5 (.slice (some ⟨G, 0, none⟩) n c) its.length xs → w1.ownsRow B 58 5 (.slice (some ⟨G, 0, none⟩) n c) n xs := fun xs h => by rw [← hnl] at h; exact h
  have h1 := own_set (i := k * 5) (u := v') (hn2 _ hrow) (by omega)
  have h2 := own_set (i := k * 5 + 1) (u := .bool e) h1 (by omega)
  have f1 := flat_set its k 0 _ (⟨bs ++ m, false, 0, st, id⟩, v') v' hk (by omega) rfl
  have f2 := flat_set (its.set k (⟨bs ++ m, false, 0, st, id⟩, v')) k 1 (⟨bs ++ m, false, 0, st, id⟩, v') (⟨bs ++ m, e, 0, st, id⟩, v') (.bool e) (by rw [List.getElem?_set, if_pos rfl, if_pos hkl]) (by omega) rfl
  rw [Nat.add_zero] at f1
  rw [f1, f2, List.set_set] at h2
  refine h.upd hk hc ?_ ?_ h2 (((Chg.refl (fun j => j = G) w1).setCell (p := ⟨G, k * 5, none⟩) (.inl rfl) _).setCell (p := ⟨G, k * 5 + 1, none⟩) (.inl rfl) _)
  · have : (bs ++ m).length = bs.length + m.length := by simp
    rw [this]
    simpa [u8s] using hown
  · intro j hj
    rcases hv1 with e | e
    · exact .inl (e ▸ hj)
    · rw [e] at hj
      cases hj
      exact .inr (Nat.le_refl _)

theorem LAt.told {wr : World} {B G n c k cv : Nat} {its : List (Strm × Value)} {bs : Bs} {st id : Int} {Av : Option Addr} (h : LAt wr B (.slice (some ⟨G, 0, none⟩) n c) its)
    (hk : its[k]? = some (⟨bs, false, 0, st, id⟩, .slice Av bs.length cv)) (e : Bool) :
    LAt (wr.setCell ⟨G, k * 5 + 1, none⟩ (.bool e)) B (.slice (some ⟨G, 0, none⟩) n c) (its.set k (⟨bs, e, 0, st, id⟩, .slice Av bs.length cv)) := by
  have hkl : k < its.length := (List.getElem?_eq_some_iff.1 hk).1
  have hnl := h.n_eq
  have hrow := h.row
  rw [← hnl] at hrow
  have h2 := own_set (i := k * 5 + 1) (u := .bool e) hrow (by omega)
  have f2 := flat_set its k 1 _ (⟨bs, e, 0, st, id⟩, .slice Av bs.length cv) (.bool e) hk (by omega) rfl
  rw [f2] at h2
  exact h.upd hk (Chg.refl _ _) (h.byt _ (List.mem_of_getElem? hk)) (fun j hj => .inl hj) h2 ((Chg.refl (fun j => j = G) wr).setCell (p := ⟨G, k * 5 + 1, none⟩) (.inl rfl) _)

theorem begins_pre (a b : Bs) (h : a <+: b) (w : World) :
    Calls Try.prog 32 #[strv a, strv b] w fun e w' => e = .returned (.bool true) ∧ w' = w := by
  have hl := h.length_le
  have hsa : (⟨a.toArray⟩ : ByteArray).size = a.length := by simp [ByteArray.size]
  have hsb : (⟨b.toArray⟩ : ByteArray).size = b.length := by simp [ByteArray.size]
  have hex : (⟨b.toArray⟩ : ByteArray).extract 0 a.length = ⟨a.toArray⟩ := by
    obtain ⟨r, rfl⟩ := h
    apply ByteArray.ext
    simp
  have hl1 : (a.length : Int) ≤ (b.length : Int) := by omega
  have hl2 : decide (a.length ≤ b.length) = true := decide_eq_true (by omega)
  go_enter Try.func32, Try.ntmps32
  go_wp2
  go_ret
  exact ⟨rfl, rfl⟩

theorem drive_ready_m {M : Mach} {E : World → Prop} {B : Nat} {v : Value} {s : M.σ} {F : Nat → Prop} {w : World} (h : Ready M E B v s F w) (ins : List Strm) (cuts : List Int) (den : Den) (bound : Int) (hd : DEnd M den bound (drive M s ins cuts)) (n : Nat) (hn : ins.length = n)
    (A C : Option Addr) (ca cc : Nat) (D : Nat → Prop) (hins : StrmsAt w D (.slice A n ca) ins) (hcuts : Rd w D 1 C cuts.length (i64s cuts)) (hD : ∀ k, D k → ¬ F k) (hcl : cuts.length ≤ 100000) (hbl : ∀ x ∈ ins, x.bs.length ≤ 1000000) :
    Calls Try.prog 28 #[v, .slice A n ca, .slice C cuts.length cc] w (DrivenPost M E B v den bound F w) := by
  subst hn
  exact drive_ready h ins cuts den bound hd A C ca cc D hins hcuts hD hcl hbl
end Go.Proofs.Ytamhebjejgcbjaa

/- JoinGrows. -/
namespace Go.Proofs.Ytamhebjejgcbjaa.Join
open Go Go.RowKit

set_option maxHeartbeats 4000000 in
set_option maxRecDepth 100000 in
theorem grows_law (p : Prm) (ins : List Strm) (more : List Bs) (ends : List Bool) (a : List Int) (v : Value) (A Am An Aa : Option Addr) (ci cm cn ca : Nat) (w : World)
    (hn0 : -9223372036854775808 ≤ p.n) (hn1 : p.n ≤ 9223372036854775807) (hla : p.a.length ≤ maxLen) (hlb : p.b.length ≤ maxLen) (hv : PAt w (fun _ => True) v p)
    (hil : ins.length ≤ maxLen) (hins : StrmsAt w (fun _ => True) (.slice A ins.length ci) ins) (hbl : ∀ s ∈ ins, s.bs.length ≤ maxLen)
    (_ : more.length ≤ maxLen) (hm : BssAt w (fun _ => True) (.slice Am more.length cm) more) (_ : ∀ b ∈ more, b.length ≤ maxLen)
    (_ : ends.length ≤ maxLen) (he : Rd w (fun _ => True) 1 An ends.length (ends.map Value.bool))
    (hal : a.length ≤ maxLen) (ha : Rd w (fun _ => True) 1 Aa a.length (i64s a)) (hE : E w.heap.size w) :
    Calls Try.prog 16 #[v, .slice A ins.length ci, .slice Am more.length cm, .slice An ends.length cn, .slice Aa a.length ca] w (TruePost w) := by
  have hEE : ∀ W, Chg (fun _ => False) w W → E w.heap.size W := fun W hW => E_on (hW.below (Nat.le_refl _) (fun _ h => h.elim)) hE
  have haw := fun (W : World) (hW : Chg (fun _ => False) w W) => awake_any w.heap.size W hW.size (hEE W hW)
  have hvv := fun (W : World) (hW : Chg (fun _ => False) w W) => hv.chg hW (fun _ _ _ h => h)
  have hv0 := hv
  obtain ⟨A1, c1, B1, d1, rfl, _, _⟩ := hv0
  have hhv := fun (W : World) (hW : Chg (fun _ => False) w W) (C : Option Addr) (cc : Nat) (hr : Rd W (fun _ => True) 1 C 1 [.slice Aa a.length ca]) =>
    heavy_any (fun _ => True) p.kind p.n A1 B1 p.a.length c1 p.b.length d1 A C ci cc ins [(Aa, a.length, ca)] W hla hlb hil (hins.chg hW (fun _ _ _ h => h)) hbl hr (by simp) (by
      intro c hc
      simp at hc
      subst hc
      exact hal)
  have hst : Blk (w.alloc (.cells #[.int .i64 p.kind, .int .i64 p.n, .slice A1 p.a.length c1, .slice B1 p.b.length d1] 24)) w.heap.size 24 #[.int .i64 p.kind, .int .i64 p.n, .slice A1 p.a.length c1, .slice B1 p.b.length d1] := Blk.new _ _ _
  generalize hh : heavyB p.a.length p.b.length ins [(Aa, a.length, ca)] = hβ at *
  replace haw := Lib.hid haw
  replace hhv := Lib.hid hhv
  cases hβ
  · have hsz := heavyB_false hh
    have hp : p.Fine := ⟨hn0, hn1, by omega, by omega⟩
    have hfit := fun (W : World) (hW : Chg (fun _ => False) w W) => fit_any (fun _ => True) p hp _ W (hvv W hW) A ins.length ci
    generalize hf : fitB p ins.length = fβ at *
    have hmore : (8 < (more.length : Int)) ∨ ¬ (8 < (more.length : Int)) := Classical.em _
    cases fβ
    · replace hfit := Lib.hid hfit
      clear hv hins hbl ha hE hEE hvv hh hf hsz hp hm he hmore
      go_enter Try.func16, Try.ntmps16
      go_wp2_with (first
        | (go_at_call 37
           refine (hhv.out _ (((Chg.refl _ _).alloc _).alloc _) _ _ (row_new _ 1 rfl (by simp))).mono ?_
           rintro e1 w1 ⟨rfl, hc1⟩
           have hb1 := (hst.alloc _).chg hc1 (fun h => h)
           have q0 : w1.cell? ⟨w.heap.size, 0, none⟩ = some (.int .i64 p.kind) := (hb1.cell 0).trans rfl
           have q1 : w1.cell? ⟨w.heap.size, 1, none⟩ = some (.int .i64 p.n) := (hb1.cell 1).trans rfl
           have q2 : w1.cell? ⟨w.heap.size, 2, none⟩ = some (.slice A1 p.a.length c1) := (hb1.cell 2).trans rfl
           have q3 : w1.cell? ⟨w.heap.size, 3, none⟩ = some (.slice B1 p.b.length d1) := (hb1.cell 3).trans rfl
           have k1 : Chg (fun _ => False) w w1 := (((Chg.refl _ _).alloc _).alloc _).trans hc1 (fun _ h _ => h))
        | (go_at_call 40
           refine (hfit.out _ k1).mono ?_
           rintro e2 w2 ⟨rfl, hc2⟩
           have k2 : Chg (fun _ => False) w w2 := k1.trans hc2 (fun _ h _ => h))
        | (go_at_call 38
           refine (haw.out _ k2).mono ?_
           rintro e9 w9 ⟨rfl, hc9⟩))
      go_ret
      exact ⟨rfl, k2.trans hc9 (fun _ h _ => h)⟩
    · rcases hmore with hm8 | hm8
      · replace hfit := Lib.hid hfit
        clear hv hins hbl ha hE hEE hvv hh hf hsz hp hm he
        go_enter Try.func16, Try.ntmps16
        go_wp2_with (first
          | (go_at_call 37
             refine (hhv.out _ (((Chg.refl _ _).alloc _).alloc _) _ _ (row_new _ 1 rfl (by simp))).mono ?_
             rintro e1 w1 ⟨rfl, hc1⟩
             have hb1 := (hst.alloc _).chg hc1 (fun h => h)
             have q0 : w1.cell? ⟨w.heap.size, 0, none⟩ = some (.int .i64 p.kind) := (hb1.cell 0).trans rfl
             have q1 : w1.cell? ⟨w.heap.size, 1, none⟩ = some (.int .i64 p.n) := (hb1.cell 1).trans rfl
             have q2 : w1.cell? ⟨w.heap.size, 2, none⟩ = some (.slice A1 p.a.length c1) := (hb1.cell 2).trans rfl
             have q3 : w1.cell? ⟨w.heap.size, 3, none⟩ = some (.slice B1 p.b.length d1) := (hb1.cell 3).trans rfl
             have k1 : Chg (fun _ => False) w w1 := (((Chg.refl _ _).alloc _).alloc _).trans hc1 (fun _ h _ => h))
          | (go_at_call 40
             refine (hfit.out _ k1).mono ?_
             rintro e2 w2 ⟨rfl, hc2⟩
             have k2 : Chg (fun _ => False) w w2 := k1.trans hc2 (fun _ h _ => h))
          | (go_at_call 38
             refine (haw.out _ k2).mono ?_
             rintro e9 w9 ⟨rfl, hc9⟩))
        go_ret
        exact ⟨rfl, k2.trans hc9 (fun _ h _ => h)⟩
      · have hI := fitB_true hf
        have hi8 : ins.length ≤ 8 := hsz.2.2.1
        have hb2 : ∀ s ∈ ins, s.bs.length ≤ 2000 := hsz.2.2.2.1
        have hI2 : fitI p (mix more ends ins ins.length) := ⟨hI.1, by rw [mix_len]; exact hI.2⟩
        have hd1 := drive_ok p ins hI (fun s hs => by have := hb2 s hs; omega) a
        have hd2 := fun (hl : ∀ s ∈ mix more ends ins ins.length, s.bs.length ≤ 3000) => drive_ok p (mix more ends ins ins.length) hI2 (fun s hs => by have := hl s hs; omega) a
        have hgo := grow_ok p ins (mix more ends ins ins.length) hI (mix_len _ _ _ _).symm (mix_grow _ _ _ _ (Nat.le_refl _))
        have hnew := fun (W : World) (hW : Chg (fun _ => False) w W) => new_any (fun _ => True) p hI.1 _ W (hvv W hW) w.heap.size hW.size (hEE W hW)
        have hil2 := fun (W : World) (hW : Chg (fun _ => False) w W) => (hins.mono (D' := fun k => k < w.heap.size) (fun k _ hk => hk)).chg hW (fun _ _ _ h => h)
        have ha2 := fun (W : World) (hW : Chg (fun _ => False) w W) => (ha.mono (D' := fun k => k < w.heap.size) (fun k _ hk => hk)).chg hW (fun _ _ _ h => h)
        have hm2 := fun (W : World) (hW : Chg (fun _ => False) w W) => hm.chg hW (fun _ _ _ h => h)
        have he2 := fun (W : World) (hW : Chg (fun _ => False) w W) => he.chg hW (fun _ _ _ h => h)
        have hcp := fun (W : World) (hW : Chg (fun _ => False) w W) => copy_any2 (fun _ => True) ins A ci W (hins.chg hW (fun _ _ _ h => h)) (by omega) (fun s hs => by have := hb2 s hs; omega)
        have hcla : a.length ≤ 100000 := by have := hsz.2.2.2.2 (Aa, a.length, ca) (by simp); dsimp only at this; omega
        have hnil := nil_no
        obtain ⟨j0, hj0, jz0, jz1, jz2⟩ := info_parts info_u8
        replace hfit := Lib.hid hfit
        replace hd1 := Lib.hid hd1
        replace hd2 := Lib.hid hd2
        replace hgo := Lib.hid hgo
        replace hnew := Lib.hid hnew
        replace hil2 := Lib.hid hil2
        replace ha2 := Lib.hid ha2
        replace hm2 := Lib.hid hm2
        replace he2 := Lib.hid he2
        replace hcp := Lib.hid hcp
        replace hcla := Lib.hid hcla
        replace hb2 := Lib.hid hb2
        replace hj0 := Lib.hid hj0
        replace jz0 := Lib.hid jz0
        replace jz1 := Lib.hid jz1
        replace jz2 := Lib.hid jz2
        clear hv hins hbl ha hE hEE hvv hh hf hsz hp hm he hI hI2
        go_enter Try.func16, Try.ntmps16
        go_wp2_with (first
          | (go_at_call 37
             refine (hhv.out _ (((Chg.refl _ _).alloc _).alloc _) _ _ (row_new _ 1 rfl (by simp))).mono ?_
             rintro e1 w1 ⟨rfl, hc1⟩
             have hb1 := (hst.alloc _).chg hc1 (fun h => h)
             have q0 : w1.cell? ⟨w.heap.size, 0, none⟩ = some (.int .i64 p.kind) := (hb1.cell 0).trans rfl
             have q1 : w1.cell? ⟨w.heap.size, 1, none⟩ = some (.int .i64 p.n) := (hb1.cell 1).trans rfl
             have q2 : w1.cell? ⟨w.heap.size, 2, none⟩ = some (.slice A1 p.a.length c1) := (hb1.cell 2).trans rfl
             have q3 : w1.cell? ⟨w.heap.size, 3, none⟩ = some (.slice B1 p.b.length d1) := (hb1.cell 3).trans rfl
             have k1 : Chg (fun _ => False) w w1 := (((Chg.refl _ _).alloc _).alloc _).trans hc1 (fun _ h _ => h))
          | (go_at_call 40
             refine (hfit.out _ k1).mono ?_
             rintro e2 w2 ⟨rfl, hc2⟩
             have hb2' := hb1.chg hc2 (fun h => h)
             have k2 : Chg (fun _ => False) w w2 := k1.trans hc2 (fun _ h _ => h)
             clear q0 q1 q2 q3)
          | (go_at_call 31
             refine (hcp.out w2 k2).mono ?_
             intro e3 w3 hc3
             obtain ⟨A3, c3, its3, rfl, hmap3, hL3, hch3⟩ := hc3
             replace hmap3 := Lib.hid hmap3))
        go_loopw [12] (fun i wr => ∃ (k : Nat) (its : List (Strm × Value)), k ≤ ins.length ∧ i = .int .i64 k ∧ Hid (its.map (fun t => t.1) = mix more ends ins k) ∧ LAt wr w2.heap.size (.slice A3 ins.length c3) its ∧ Hid (∀ s ∈ mix more ends ins k, s.bs.length ≤ 3000) ∧ Chg (fun _ => False) w2 wr) (fun i _ => ins.length - (intOf i).toNat)
        case atStart => exact ⟨0, its3, by omega, rfl, Lib.hid (by rw [hmap3.out, mix_zero]), hL3, Lib.hid (by rw [mix_zero]; intro s hs; have := hb2.out s hs; omega), hch3⟩
        case round =>
          clear hL3 hch3 hmap3
          obtain ⟨k, its, hk, rfl, hmap, hL, hbd, hch⟩ := hrel
          by_cases hlt : k < ins.length
          · have hlt' : (k : Int) < (ins.length : Int) := by omega
            have hk0 : (0 : Int) ≤ (k : Int) := by omega
            have hkl : k < its.length := by
              have := congrArg List.length hmap.out
              rw [List.length_map, mix_len] at this
              omega
            have hse : its[k].1 = ins[k] := by
              have := congrArg (fun l : List Strm => l[k]?) hmap.out
              simp only [List.getElem?_map, List.getElem?_eq_getElem hkl, Option.map_some, mix_at _ _ _ _ hlt, Option.some.injEq] at this
              exact this
            obtain ⟨G, rfl, hnl, hBG, hGl, hfz, hcl⟩ := hL.blk hkl
            replace hnl := Lib.hid hnl
            have hby := hL.byt _ (List.getElem_mem hkl)
            obtain ⟨Av, cv, hve, hrv⟩ := own_rd hby
            have hik : its[k]? = some its[k] := List.getElem?_eq_getElem hkl
            have hsb := hb2.out _ (List.getElem_mem hlt)
            rw [← hse] at hsb
            generalize its[k] = t at *
            obtain ⟨⟨bs, en, code, st, id⟩, vv⟩ := t
            dsimp only at hse hve hsb hrv hby
            subst hve
            have c0 : wr.cell? ⟨G, k * 5, none⟩ = some (.slice Av bs.length cv) := (hcl 0 (by omega)).trans rfl
            have c1 : wr.cell? ⟨G, k * 5 + 1, none⟩ = some (.bool en) := (hcl 1 (by omega)).trans rfl
            have c2 : wr.cell? ⟨G, k * 5 + 2, none⟩ = some (.int .i64 code) := (hcl 2 (by omega)).trans rfl
            replace hse := Lib.hid hse
            replace hik := Lib.hid hik
            clear hcl
            cases en
            · by_cases hc0 : code = 0
              · subst hc0
                have kr : Chg (fun _ => False) w wr := k2.trans hch (fun _ h _ => h)
                have hs2w := k2.size
                have hfin : ∀ (m' : Bs) (e : Bool), more.getD k [] = m' → ends.getD k false = e → m'.length ≤ 1000 → (∀ v', (its.set k (⟨bs ++ m', e, 0, st, id⟩, v')).map (fun t => t.1) = mix more ends ins (k + 1)) ∧ ∀ s ∈ mix more ends ins (k + 1), s.bs.length ≤ 3000 := fun m' e h1 h2 h3 => by
                  rw [mix_succ _ _ _ _ hlt, ← hse.out, growS_more _ _ _ _ m' e _ _ h1 h2]
                  refine ⟨fun v' => by rw [List.map_set, hmap.out], fun s hs => ?_⟩
                  rcases List.mem_or_eq_of_mem_set hs with h | rfl
                  · exact hbd.out s h
                  · simp only [List.length_append]; omega
                replace hfin := Lib.hid hfin
                rcases Nat.lt_or_ge k more.length with hmk | hmk
                · obtain ⟨A5, c5, itm, hveq, hli, hri, hbi⟩ := hm2.out wr kr
                  cases hveq
                  have hki : k < itm.length := by
                    have := congrArg List.length hli
                    rw [List.length_map] at this
                    omega
                  obtain ⟨g5, o5, u, rfl, hg5, _, hu, hcell⟩ := hri.at_ hmk
                  rw [List.getElem?_map, List.getElem?_eq_getElem hki] at hu
                  simp only [Option.map_some, Option.some.injEq] at hu
                  subst hu
                  obtain ⟨⟨A6, c6, hv6, hr6⟩, _⟩ := hbi _ (List.getElem_mem hki)
                  have hmg : more.getD k [] = itm[k].1 := by
                    rw [List.getD_eq_getElem?_getD, hli, List.getElem?_map, List.getElem?_eq_getElem hki]
                    rfl
                  generalize itm[k] = t6 at *
                  obtain ⟨m, v6⟩ := t6
                  dsimp only at hv6 hr6 hmg hcell
                  subst hv6
                  have hmk' : (k : Int) < (more.length : Int) := by omega
                  replace hli := Lib.hid hli
                  replace hmg := Lib.hid hmg
                  clear hri hbi
                  by_cases hbig : (1000 : Int) < (m.length : Int)
                  · go_wp2_with (first
                      | (go_at_call 38
                         refine (haw.out _ kr).mono ?_
                         rintro e9 w9 ⟨rfl, hc9⟩))
                    go_ret
                    exact ⟨rfl, kr.trans hc9 (fun _ h _ => h)⟩
                  · have hmo : m.length ≤ 1000 := by omega
                    go_wp2
                    have hGv : (Value.slice Av bs.length cv).ownBlock ≠ some G := fun e => own_apart hby hL.row ty_ne e rfl
                    go_region_law ((refine step_append_rd _ (by rfl) (.tmp 76) (.tmp 80) 22 (by rfl) w2.heap.size 5 j0 _ 1 1 Try.underlying22 hj0.out jz0.out jz1.out jz2.out (by rfl) (by omega) (.slice Av bs.length cv) bs.length (u8s bs) (by rfl) (by exact hby) (fun _ => True) A6 m.length c6 (u8s m) (by rfl) (by exact hr6) (u8s_one _) (by simp only [maxLen]; omega) (by omega) (by have := hch.size; simp; omega) ?_; intro v1 w1x hown1 hg1 hv1; obtain ⟨Aw, cw, rfl, _⟩ := own_rd hown1; have hcx : Chg (fun j => (Value.slice Av bs.length cv).ownBlock = some j) wr w1x := ((Chg.refl (fun j => (Value.slice Av bs.length cv).ownBlock = some j) wr).drew).grown hg1 (fun j e => .inl e); have hrow1 := ownsRow_chg hL.row hcx (fun j hj e => own_apart hby hL.row ty_ne e hj); have kf := fun i => own_frozen (hnl.out ▸ hrow1) i; have kc := (hcx.cell (p := ⟨G, k * 5, none⟩) hGl hGv).trans c0; have kc1 := (hcx.cell (p := ⟨G, k * 5 + 1, none⟩) hGl hGv).trans c1))
                    all_goals
                      have hLL := fun e => hL.longer hik.out hcx hown1 hv1 e
                      have hsC : Chg (fun _ => False) w2 (w1x.setCell ⟨G, k * 5, none⟩ (.slice Aw (bs.length + m.length) cw)) := (hch.trans hcx (fun j hj _ => by have := (hby.lt j hj).1; omega)).setCell (p := ⟨G, k * 5, none⟩) (.inr hBG) _
                      have kc2 : (w1x.setCell ⟨G, k * 5, none⟩ (.slice Aw (bs.length + m.length) cw)).cell? ⟨G, k * 5 + 1, none⟩ = some (.bool false) := (World.cell?_setCell_other _ _ _ _ (by intro h; injection h; omega)).trans kc1
                      have kf2 : ∀ i, (w1x.setCell ⟨G, k * 5, none⟩ (.slice Aw (bs.length + m.length) cw)).frozen? ⟨G, i, none⟩ = false := fun i => own_frozen (own_set (i := k * 5) (hnl.out ▸ hrow1) (by have := hnl.out; omega)) i
                      have kwy : Chg (fun _ => False) w (w1x.setCell ⟨G, k * 5, none⟩ (.slice Aw (bs.length + m.length) cw)) := k2.trans hsC (fun _ h _ => h)
                      replace hLL := Lib.hid hLL
                      generalize w1x.setCell ⟨G, k * 5, none⟩ (.slice Aw (bs.length + m.length) cw) = wy at *
                      clear hcx hown1 hg1 hv1 hrow1 kf kc kc1 hL c0 c1 c2 hfz hch kr hby hcell hr6
                      rcases Nat.lt_or_ge k ends.length with hek | hek
                      · obtain ⟨g7, o7, e7, rfl, hg7, _, hu7, hcell7⟩ := (he2.out wy kwy).at_ hek
                        rw [List.getElem?_map, List.getElem?_eq_getElem hek] at hu7
                        simp only [Option.map_some, Option.some.injEq] at hu7
                        subst hu7
                        have heg : ends.getD k false = ends[k] := by rw [List.getD_eq_getElem?_getD, List.getElem?_eq_getElem hek]; rfl
                        generalize ends[k] = e at *
                        have hek' : (k : Int) < (ends.length : Int) := by omega
                        replace hfin := Lib.hid (hfin.out m e hmg.out heg hmo)
                        replace heg := Lib.hid heg
                        go_wp2
                        go_roundw
                        case rel => exact ⟨k + 1, its.set k (⟨bs ++ m, e, 0, st, id⟩, .slice Aw (bs.length + m.length) cw), by omega, by go_num, Lib.hid (hfin.out.1 _), hLL.out e, Lib.hid hfin.out.2, hsC.setCell (p := ⟨G, k * 5 + 1, none⟩) (.inr hBG) _⟩
                        case measure => simp [intOf]; omega
                      · have heg : ends.getD k false = false := by rw [List.getD_eq_getElem?_getD, List.getElem?_eq_none hek]; rfl
                        have hek' : ¬ (k : Int) < (ends.length : Int) := by omega
                        replace hfin := Lib.hid (hfin.out m false hmg.out heg hmo)
                        replace heg := Lib.hid heg
                        go_wp2
                        go_roundw
                        case rel => exact ⟨k + 1, its.set k (⟨bs ++ m, false, 0, st, id⟩, .slice Aw (bs.length + m.length) cw), by omega, by go_num, Lib.hid (hfin.out.1 _), hLL.out false, Lib.hid hfin.out.2, hsC.setCell (p := ⟨G, k * 5 + 1, none⟩) (.inr hBG) _⟩
                        case measure => simp [intOf]; omega
                · have hmk' : ¬ (k : Int) < (more.length : Int) := by omega
                  have hmg : more.getD k [] = [] := by rw [List.getD_eq_getElem?_getD, List.getElem?_eq_none hmk]; rfl
                  have hLL := Lib.hid (fun e => hL.told hik.out e)
                  have kf2 := hfz
                  clear hL hby
                  rcases Nat.lt_or_ge k ends.length with hek | hek
                  · obtain ⟨g7, o7, e7, rfl, hg7, _, hu7, hcell7⟩ := (he2.out wr kr).at_ hek
                    rw [List.getElem?_map, List.getElem?_eq_getElem hek] at hu7
                    simp only [Option.map_some, Option.some.injEq] at hu7
                    subst hu7
                    have heg : ends.getD k false = ends[k] := by rw [List.getD_eq_getElem?_getD, List.getElem?_eq_getElem hek]; rfl
                    generalize ends[k] = e at *
                    have hek' : (k : Int) < (ends.length : Int) := by omega
                    replace hfin := Lib.hid (hfin.out [] e hmg heg (by simp))
                    rw [List.append_nil] at hfin
                    replace heg := Lib.hid heg
                    replace hmg := Lib.hid hmg
                    go_wp2
                    go_roundw
                    case rel => exact ⟨k + 1, its.set k (⟨bs, e, 0, st, id⟩, .slice Av bs.length cv), by omega, by go_num, Lib.hid (hfin.out.1 _), hLL.out e, Lib.hid hfin.out.2, hch.setCell (p := ⟨G, k * 5 + 1, none⟩) (.inr hBG) _⟩
                    case measure => simp [intOf]; omega
                  · have heg : ends.getD k false = false := by rw [List.getD_eq_getElem?_getD, List.getElem?_eq_none hek]; rfl
                    have hek' : ¬ (k : Int) < (ends.length : Int) := by omega
                    replace hfin := Lib.hid (hfin.out [] false hmg heg (by simp))
                    rw [List.append_nil] at hfin
                    replace heg := Lib.hid heg
                    replace hmg := Lib.hid hmg
                    go_wp2
                    go_roundw
                    case rel => exact ⟨k + 1, its.set k (⟨bs, false, 0, st, id⟩, .slice Av bs.length cv), by omega, by go_num, Lib.hid (hfin.out.1 _), hLL.out false, Lib.hid hfin.out.2, hch.setCell (p := ⟨G, k * 5 + 1, none⟩) (.inr hBG) _⟩
                    case measure => simp [intOf]; omega
              · have hcb : (code == 0) = false := by simpa using hc0
                have hsk := Lib.hid (mix_skip more ends ins k hlt (by rw [← hse.out]; exact growS_ended _ _ _ _ (.inr hc0)))
                go_wp2
                go_roundw
                case rel => exact ⟨k + 1, its, by omega, by go_num, Lib.hid (by rw [hsk.out]; exact hmap.out), hL, Lib.hid (by rw [hsk.out]; exact hbd.out), hch⟩
                case measure => simp [intOf]; omega
            · have hsk := Lib.hid (mix_skip more ends ins k hlt (by rw [← hse.out]; exact growS_ended _ _ _ _ (.inl rfl)))
              go_wp2
              go_roundw
              case rel => exact ⟨k + 1, its, by omega, by go_num, Lib.hid (by rw [hsk.out]; exact hmap.out), hL, Lib.hid (by rw [hsk.out]; exact hbd.out), hch⟩
              case measure => simp [intOf]; omega
          · have hlt' : ¬ (k : Int) < (ins.length : Int) := by omega
            have hkn : k = ins.length := by omega
            subst hkn
            have kr : Chg (fun _ => False) w wr := k2.trans hch (fun _ h _ => h)
            have hbr := hb2'.chg hch (fun h => h)
            have s0 : wr.cell? ⟨w.heap.size, 0, none⟩ = some (.int .i64 p.kind) := (hbr.cell 0).trans rfl
            have s1 : wr.cell? ⟨w.heap.size, 1, none⟩ = some (.int .i64 p.n) := (hbr.cell 1).trans rfl
            have s2 : wr.cell? ⟨w.heap.size, 2, none⟩ = some (.slice A1 p.a.length c1) := (hbr.cell 2).trans rfl
            have s3 : wr.cell? ⟨w.heap.size, 3, none⟩ = some (.slice B1 p.b.length d1) := (hbr.cell 3).trans rfl
            obtain ⟨A4, c4, hve, hst4⟩ := hL.strms hmap.out
            rw [mix_len] at hve hst4
            cases hve
            have hlong := fun (W : World) (hW : Chg (fun _ => False) wr W) => (hst4.mono (D' := fun k => k < wr.heap.size) (fun k _ hk => hk)).chg hW (fun _ _ _ h => h)
            have hst4' := hst4
            have haL := fun (W : World) (hW : Chg (fun _ => False) wr W) => (ha2.out W (kr.trans hW (fun _ h _ => h))).mono (D' := fun k => k < wr.heap.size) (fun k hk _ => by have := kr.size; omega)
            have hlb3 := Lib.hid (fun x (hx : x ∈ mix more ends ins ins.length) => show x.bs.length ≤ 1000000 by have := hbd.out x hx; omega)
            have hib3 := Lib.hid (fun x (hx : x ∈ ins) => show x.bs.length ≤ 1000000 by have := hb2.out x hx; omega)
            have hd2' := Lib.hid (hd2.out hbd.out)
            have hml := Lib.hid (mix_len more ends ins ins.length)
            replace hlong := Lib.hid hlong
            replace haL := Lib.hid haL
            generalize hlg : mix more ends ins ins.length = long at *
            have tn := Lib.hid trivial
            have td := Lib.hid trivial
            clear hL hmap hbd hst4 hst4' hd2 hm2 he2 hfit hhv hcp
            go_wp2_with (first
              | (go_at_call 39
                 clear tn
                 refine (hnew.out wr kr).mono ?_
                 rintro e3 w3 ⟨m1, F1, rfl, hr1, hF1, hc3⟩
                 have hb3' := hbr.chg hc3 (fun h => h)
                 have s0 : w3.cell? ⟨w.heap.size, 0, none⟩ = some (.int .i64 p.kind) := (hb3'.cell 0).trans rfl
                 have s1 : w3.cell? ⟨w.heap.size, 1, none⟩ = some (.int .i64 p.n) := (hb3'.cell 1).trans rfl
                 have s2 : w3.cell? ⟨w.heap.size, 2, none⟩ = some (.slice A1 p.a.length c1) := (hb3'.cell 2).trans rfl
                 have s3 : w3.cell? ⟨w.heap.size, 3, none⟩ = some (.slice B1 p.b.length d1) := (hb3'.cell 3).trans rfl
                 have l3 : Chg (fun _ => False) wr w3 := hc3
                 have k3 : Chg (fun _ => False) w w3 := kr.trans hc3 (fun _ h _ => h))
              | (go_at_call 39
                 refine (hnew.out w3 k3).mono ?_
                 rintro e4 w4 ⟨m2, F2, rfl, hr2, hF2, hc4⟩
                 have l4 : Chg (fun _ => False) wr w4 := l3.trans hc4 (fun _ h _ => h)
                 have k4 : Chg (fun _ => False) w w4 := k3.trans hc4 (fun _ h _ => h))
              | (go_at_call 28
                 clear td
                 refine (drive_ready (hr1.chg hc4 (fun _ _ h => h) (fun _ h => h.elim)) ins a _ _ hd1.out _ _ _ _ (fun k => k < w.heap.size) (hil2.out w4 k4) (ha2.out w4 k4) ?_ hcla.out hib3.out).mono ?_
                 rotate_left 1
                 rintro e5 w5 ⟨dd1, F3, rfl, hh1, hh01, hc5, hr3, hF3⟩
                 have hF1w : ∀ k, F1 k → wr.heap.size ≤ k := fun k hk => (hF1 k hk)
                 have l5 : Chg (fun _ => False) wr w5 := l4.trans hc5 (fun k hk hlt => by have := hF1w k hk; omega)
                 have k5 : Chg (fun _ => False) w w5 := kr.trans l5 (fun _ h _ => h))
              | (go_at_call 28
                 refine (drive_ready_m (hr2.chg hc5 (fun k hk hk1 => by have := hF2 k hk; have := (hr1.inside.2.1 k hk1).2; omega) (fun k hk => by have := hF1w k hk; have := kr.size; omega)) long a _ _ hd2'.out ins.length hml.out _ _ _ _ (fun k => k < wr.heap.size) (hlong.out w5 l5) (haL.out w5 l5) ?_ hcla.out hlb3.out).mono ?_
                 rotate_left 1
                 rintro e6 w6 ⟨dd2, F4, rfl, hh2, hh02, hc6, hr4, hF4⟩
                 have hF2w : ∀ k, F2 k → w.heap.size ≤ k := fun k hk => by have := hF2 k hk; have := k3.size; omega
                 have k6 : Chg (fun _ => False) w w6 := k5.trans hc6 (fun k hk hlt => by have := hF2w k hk; omega)
                 clear hr1 hr2 hr3 hr4 hh1 hh01 hh2 hh02)
              | (refine wpList_store_got rfl (.tmp 17) (.tmp 125) rfl w6.heap.size _ _ _ _ _ _ rfl rfl _ ((Blk.new w6 _ _).alloc _) rfl ?_
                 intro w7 hG7 hc7
                 have k7 : Chg (fun _ => False) w w7 := ((k6.alloc _).alloc _).trans hc7 (fun k hk hlt => by have := k6.size; omega))
              | (refine wpList_store_got rfl (.tmp 18) (.tmp 129) rfl (w6.heap.size + 1) _ _ _ _ _ _ rfl rfl _ ((blk_new' _ _ (by simp)).chg hc7 (fun h => by omega)) rfl ?_
                 intro w8 hG8 hc8
                 have k8 : Chg (fun _ => False) w w8 := k7.trans hc8 (fun k hk hlt => by have := k6.size; omega)
                 have hG7' := hG7.chg hc8 (fun h => by omega)))
            · have hgo' := hgo.out
              have kk := k8
              generalize hgg : w6.heap.size = gg at *
              clear hd1 hd2' hgo
              generalize den p ins = dg at *
              generalize den p long = dh at *
              have G1 := hG7'
              have G2 := hG8
              clear hG7 hG7' hG8 s0 s1 s2 s3 l3 l4 l5 k3 k4 k5 k6 k7 hc3 hc4 hc5 hc6 hc7 hc8 hF1w hF2w
              go_loopw [19] (fun i wq => ∃ q : Nat, q ≤ 4 ∧ i = .int .i64 q ∧ Chg (fun _ => False) w8 wq) (fun i _ => 4 - (intOf i).toNat)
              case atStart => exact ⟨0, by omega, rfl, Chg.refl _ _⟩
              case round =>
                obtain ⟨q, hq, rfl, hcq⟩ := hrel
                by_cases hq4 : q < 4
                · have hq4' : (q : Int) < 4 := by omega
                  have hq0 : (0 : Int) ≤ (q : Int) := by omega
                  have hgq := hgo'.1 q hq4
                  by_cases hn : dg.need = -1
                  · have hS : ∀ W, Chg (fun _ => False) w8 W → W.cell? ⟨gg, q, none⟩ = some (strv (dg.outs q)) ∧ W.cell? ⟨gg + 1, q, none⟩ = some (strv (dg.outs q)) ∧ W.cell? ⟨gg, 4, none⟩ = some (.int .i64 (-1)) ∧ Chg (fun _ => False) w8 W := fun W hW =>
                      ⟨((G1.chg hW (fun h => h)).cell q).trans (out_at _ _ _ _ _ _ q hq4), ((G2.chg hW (fun h => h)).cell q).trans (by rw [hgq.2 hn]; exact out_at _ _ _ _ _ _ q hq4), ((G1.chg hW (fun h => h)).cell 4).trans (by rw [← hn]; rfl), hW⟩
                    obtain ⟨u0, u1, u2, _⟩ := hS wr hcq
                    clear hS
                    generalize dg.outs q = ox at *
                    clear hgq G1 G2 hgo'
                    replace hn := Lib.hid hn
                    go_wp2
                    go_quiet ((go_at_call 32; exact Calls.quiet_of_same (begins_pre ox ox (List.prefix_refl _) _)))
                    go_wp2
                    go_roundw
                    case rel => exact ⟨q + 1, by omega, by go_num, hcq.drewN _⟩
                    case measure => simp [intOf]; omega
                  · have hnb : (dg.need == -1) = false := by simpa using hn
                    have hnd : decide (dg.need = -1) = false := by simpa using hn
                    have hS : ∀ W, Chg (fun _ => False) w8 W → W.cell? ⟨gg, q, none⟩ = some (strv (dg.outs q)) ∧ W.cell? ⟨gg + 1, q, none⟩ = some (strv (dh.outs q)) ∧ W.cell? ⟨gg, 4, none⟩ = some (.int .i64 dg.need) ∧ Chg (fun _ => False) w8 W := fun W hW =>
                      ⟨((G1.chg hW (fun h => h)).cell q).trans (out_at _ _ _ _ _ _ q hq4), ((G2.chg hW (fun h => h)).cell q).trans (out_at _ _ _ _ _ _ q hq4), ((G1.chg hW (fun h => h)).cell 4).trans rfl, hW⟩
                    obtain ⟨u0, u1, u2, _⟩ := hS wr hcq
                    clear hS
                    have hpre := hgq.1
                    generalize dg.outs q = ox at *
                    generalize dh.outs q = oy at *
                    replace hpre := Lib.hid hpre
                    clear hgq G1 G2 hgo'
                    go_wp2
                    go_quiet ((go_at_call 32; exact Calls.quiet_of_same (begins_pre ox oy hpre.out _)))
                    go_wp2
                    go_roundw
                    case rel => exact ⟨q + 1, by omega, by go_num, hcq.drewN _⟩
                    case measure => simp [intOf]; omega
                · have hq4' : ¬ (q : Int) < 4 := by omega
                  have B1q := G1.chg hcq (fun h => h)
                  have B2q := G2.chg hcq (fun h => h)
                  have kq : Chg (fun _ => False) w wr := kk.trans hcq (fun _ h _ => h)
                  have n0 : wr.cell? ⟨gg, 4, none⟩ = some (.int .i64 dg.need) := (B1q.cell 4).trans rfl
                  have n1 : wr.cell? ⟨gg, 5, none⟩ = some (.int .i64 dg.err) := (B1q.cell 5).trans rfl
                  have m0 : wr.cell? ⟨gg + 1, 4, none⟩ = some (.int .i64 dh.need) := (B2q.cell 4).trans rfl
                  have m1 : wr.cell? ⟨gg + 1, 5, none⟩ = some (.int .i64 dh.err) := (B2q.cell 5).trans rfl
                  by_cases hn : dg.need = -1
                  · have h2 := hgo'.2 hn
                    rw [hn] at n0
                    rw [h2.1] at m0
                    rw [h2.2] at m1
                    clear h2 hgo' G1 G2 B1q B2q hn
                    go_wp2_with (first
                      | (go_at_call 38
                         refine (haw.out _ kq).mono ?_
                         rintro e9 w9 ⟨rfl, hc9⟩))
                    go_ret
                    exact ⟨rfl, kq.trans hc9 (fun _ h _ => h)⟩
                  · have hnb : (dg.need == -1) = false := by simpa using hn
                    clear hgo' G1 G2 B1q B2q
                    go_wp2_with (first
                      | (go_at_call 38
                         refine (haw.out _ kq).mono ?_
                         rintro e9 w9 ⟨rfl, hc9⟩))
                    go_ret
                    exact ⟨rfl, kq.trans hc9 (fun _ h _ => h)⟩
            · exact fun k hk hF => by have := hF2 k hF; have := l3.size; omega
            · exact fun k hk hF => by have := hF1 k hF; have := kr.size; omega
  · clear hv hins hbl ha hE hEE hvv hh hm he
    go_enter Try.func16, Try.ntmps16
    go_wp2_with (first
      | (go_at_call 37
         refine (hhv.out _ (((Chg.refl _ _).alloc _).alloc _) _ _ (row_new _ 1 rfl (by simp))).mono ?_
         rintro e1 w1 ⟨rfl, hc1⟩
         have k1 : Chg (fun _ => False) w w1 := (((Chg.refl _ _).alloc _).alloc _).trans hc1 (fun _ h _ => h))
      | (go_at_call 38
         refine (haw.out _ k1).mono ?_
         rintro e9 w9 ⟨rfl, hc9⟩))
    go_ret
    exact ⟨rfl, k1.trans hc9 (fun _ h _ => h)⟩
end Go.Proofs.Ytamhebjejgcbjaa.Join

/- Arguments, opened: what the values of a law's parameters are. -/
namespace Go.Proofs.Ytamhebjejgcbjaa
open Go Go.ChangeShapes Go.WideShapes Go.ChangeAt Go.RowKit Go.Deep

/-- Anywhere. -/
abbrev Any' : Nat → Prop := fun _ => True

theorem list_of {α : Type} (f : α → Value) (p : α → Prop) (V : Nat → Value) : ∀ (n : Nat), (∀ i, i < n → ∃ b, V i = f b ∧ p b) → ∃ l : List α, l.length = n ∧ (List.range n).map V = l.map f ∧ ∀ b ∈ l, p b := by
  intro n
  induction n with
  | zero => intro _; exact ⟨[], rfl, rfl, fun _ h => by cases h⟩
  | succ n ih =>
    intro h
    obtain ⟨l, hl, he, hp⟩ := ih (fun i hi => h i (by omega))
    obtain ⟨b, hb, hpb⟩ := h n (by omega)
    refine ⟨l ++ [b], by simp [hl], by rw [List.range_succ, List.map_append, he]; simp [hb], fun x hx => ?_⟩
    rcases List.mem_append.1 hx with hx | hx
    · exact hp x hx
    · simp at hx; subst hx; exact hpb

theorem cell_spot {w : World} {a : Addr} {v : Value} (h : w.cell? a = some v) : a.block < w.heap.size ∧ a.spot = none := by
  unfold World.cell? at h
  split at h
  · rename_i hh
    refine ⟨(Array.getElem?_eq_some_iff.1 hh).1, ?_⟩
    split at h
    · cases h
    · rename_i hs; simpa using hs
  · cases h

section
variable {H : Type} {enc : TypeId × Value → H} {w : World} {spare : Nat → Bool} {held : Bool} {fuel : Nat}

theorem open_rd {P : Program} {t e : TypeId} {v : Value} {x : DataW H × List MemPlace} (ht : P.underlying t = some (.slice e)) (hc : P.cellsOf e = 1) (h : DataW.trod enc P w 0 spare held fuel t [v] = some x) :
    ∃ (A : Option Addr) (n c : Nat) (V : Nat → Value), v = .slice A n c ∧ n ≤ c ∧ c ≤ maxLen ∧ Rd w Any' 1 A n ((List.range n).map V) ∧ ∀ i, i < n → ∃ k y, DataW.trod enc P w 0 spare held k e [V i] = some y := by
  rcases open_slice1 ht hc h with ⟨h0, _⟩ | ⟨a, len, cap, m, n, V, D, Pl, h0, _, hl, hm, hmm, _, hV⟩
  · simp at h0
    subst h0
    exact ⟨none, 0, 0, fun _ => .nilFunc, rfl, Nat.le_refl _, Nat.zero_le _, Rd.nil _ _ _ _, fun i hi => by omega⟩
  · simp at h0
    subst h0
    have hlm : len ≤ m := by rw [hmm]; split <;> omega
    refine ⟨some a, len, cap, V, rfl, hl, hm, ⟨by simp, fun hn => ?_⟩, fun i hi => ⟨n, _, (hV i (by omega)).2⟩⟩
    have h1 := cell_spot (hV 0 (by omega)).1
    obtain ⟨b, o, sp⟩ := a
    have hs : sp = none := by simpa [Addr.add] using h1.2
    subst hs
    refine ⟨b, o, rfl, by simpa [Addr.add] using h1.1, trivial, fun j u hu => ?_⟩
    have hj : j < len := by
      have := (List.getElem?_eq_some_iff.1 hu).1
      simpa using this
    simp [List.getElem?_map, List.getElem?_range hj] at hu
    subst hu
    have := (hV j (by omega)).1
    rw [add_flat] at this
    exact this

theorem open_bs {v : Value} {x : DataW H × List MemPlace} (h : DataW.trod enc Try.prog w 0 spare held fuel 22 [v] = some x) :
    ∃ (A : Option Addr) (c : Nat) (bs : Bs), v = .slice A bs.length c ∧ bs.length ≤ c ∧ c ≤ maxLen ∧ Rd w Any' 1 A bs.length (u8s bs) := by
  obtain ⟨A, n, c, V, rfl, h1, h2, h3, h4⟩ := open_rd Try.underlying22 (by kernel_rfl) h
  obtain ⟨l, hl, he, _⟩ := list_of (fun x : UInt8 => Value.int .u8 x.toNat) (fun _ => True) V n (fun i hi => by
    obtain ⟨k, y, hy⟩ := h4 i hi
    obtain ⟨z, hz, _, hw⟩ := DataW.trod_int Try.underlying5 hy
    simp at hz
    have hb := bounds_u8 hw
    refine ⟨UInt8.ofNat z.toNat, ?_, trivial⟩
    rw [hz]
    congr 1
    have : (UInt8.ofNat z.toNat).toNat = z.toNat := by rw [UInt8.toNat_ofNat']; omega
    rw [this]; omega)
  rw [he] at h3
  subst hl
  exact ⟨A, c, l, rfl, h1, h2, h3⟩

theorem open_is {v : Value} {x : DataW H × List MemPlace} (h : DataW.trod enc Try.prog w 0 spare held fuel 37 [v] = some x) :
    ∃ (A : Option Addr) (c : Nat) (l : List Int), v = .slice A l.length c ∧ l.length ≤ c ∧ c ≤ maxLen ∧ Rd w Any' 1 A l.length (i64s l) := by
  obtain ⟨A, n, c, V, rfl, h1, h2, h3, h4⟩ := open_rd Try.underlying37 (by kernel_rfl) h
  obtain ⟨l, hl, he, _⟩ := list_of (fun x : Int => Value.int .i64 x) (fun _ => True) V n (fun i hi => by
    obtain ⟨k, y, hy⟩ := h4 i hi
    obtain ⟨z, hz, _, hw⟩ := DataW.trod_int Try.underlying3 hy
    simp at hz
    exact ⟨z, hz, trivial⟩)
  rw [he] at h3
  subst hl
  exact ⟨A, c, l, rfl, h1, h2, h3⟩

theorem cells_bs : Try.prog.cellsOf 22 = 1 := by kernel_rfl
theorem cells_bool : Try.prog.cellsOf 4 = 1 := by kernel_rfl
theorem cells_fault : Try.prog.cellsOf 56 = 3 := by kernel_rfl
theorem cells_errno : Try.prog.cellsOf 27 = 1 := by kernel_rfl
theorem cells_prm : Try.prog.cellsOf 24 = 4 := by kernel_rfl
theorem cells_int : Try.prog.cellsOf 3 = 1 := by kernel_rfl

theorem flat5_inv (its : List (Strm × Value)) (j : Nat) (u : Value) (h : (its.flatMap strmC)[j]? = some u) : ∃ (m : Nat) (hm : m < its.length) (i : Nat), i < 5 ∧ j = m * 5 + i ∧ (strmC its[m])[i]? = some u := by
  have hl : (its.flatMap strmC).length = its.length * 5 := by
    clear h
    induction its with
    | nil => rfl
    | cons t r ih => rw [List.flatMap_cons, List.length_append, ih, List.length_cons]; show 5 + _ = _; omega
  have hj := (List.getElem?_eq_some_iff.1 h).1
  have hm : j / 5 < its.length := by omega
  have e : j = j / 5 * 5 + j % 5 := by omega
  refine ⟨j / 5, hm, j % 5, by omega, e, ?_⟩
  rw [e, flat5 its _ hm _ (by omega)] at h
  exact h

theorem list5 {l : List Value} (h : l.length = 5) : ∃ a b c d e, l = [a, b, c, d, e] := by
  match l, h with
  | [a, b, c, d, e], _ => exact ⟨a, b, c, d, e, rfl⟩

/-- One stream's cells. -/
theorem open_strm {cs : List Value} {x : DataW H × List MemPlace} (h : DataW.trod enc Try.prog w 0 spare held fuel 58 cs = some x) :
    ∃ (t : Strm × Value), cs = strmC t ∧ BsAt w Any' t.2 t.1.bs ∧ CapOk t.2 ∧ t.1.bs.length ≤ maxLen := by
  obtain ⟨y0, y1, y2, n, _, hl, h0, h1, h2⟩ := trod_struct3 Try.underlying58 h
  have hl5 : cs.length = 5 := hl.trans (by kernel_rfl)
  obtain ⟨a, b, c, d, e, rfl⟩ := list5 hl5
  dsimp only at h0 h1 h2
  rw [cells_bs] at h0
  rw [cells_bool] at h1
  rw [cells_fault] at h2
  dsimp only [List.drop, List.take] at h0 h1 h2
  obtain ⟨A, cp, bs, rfl, hb1, hb2, hr⟩ := open_bs h0
  obtain ⟨z, hz, _⟩ := DataW.trod_bool Try.underlying4 h1
  simp at hz
  subst hz
  obtain ⟨z0, z1, z2, n2, _, _, g0, g1, g2⟩ := trod_struct3 Try.underlying56 h2
  dsimp only at g0 g1 g2
  rw [cells_errno] at g0
  rw [cells_int] at g1
  rw [cells_int] at g2
  dsimp only [List.drop, List.take] at g0 g1 g2
  obtain ⟨c', hc, _⟩ := DataW.trod_int Try.underlying27 g0
  obtain ⟨d', hd, _⟩ := DataW.trod_int Try.underlying3 g1
  obtain ⟨e', he, _⟩ := DataW.trod_int Try.underlying3 g2
  simp at hc hd he
  subst hc hd he
  have hle : bs.length ≤ maxLen := Nat.le_trans hb1 hb2
  exact ⟨(⟨bs, z, c', d', e'⟩, .slice A bs.length cp), rfl, ⟨A, cp, rfl, hr⟩, fun A' n' c' e => by cases e; exact hb1, hle⟩

theorem open_strms {v : Value} {x : DataW H × List MemPlace} (h : DataW.trod enc Try.prog w 0 spare held fuel 36 [v] = some x) :
    ∃ (A : Option Addr) (c : Nat) (l : List Strm), v = .slice A l.length c ∧ l.length ≤ c ∧ c ≤ maxLen ∧ StrmsAt w Any' (.slice A l.length c) l ∧ ∀ s ∈ l, s.bs.length ≤ maxLen := by
  rcases open_slice Try.underlying36 h with ⟨h0, _⟩ | ⟨a, len, cap, m, n, D, Pl, h0, _, hl, hm, hmm, _, hx⟩
  · simp at h0
    subst h0
    exact ⟨none, 0, [], rfl, Nat.le_refl _, Nat.zero_le _, ⟨none, 0, [], rfl, rfl, Rd.nil _ _ _ _, fun _ h => by cases h⟩, fun _ h => by cases h⟩
  · simp at h0
    subst h0
    have hlm : len ≤ m := by rw [hmm]; split <;> omega
    have hc5 : Try.prog.cellsOf 58 = 5 := by kernel_rfl
    rw [hc5] at hx
    have key : ∀ i, i < len → ∃ t : Strm × Value, (BsAt w Any' t.2 t.1.bs ∧ CapOk t.2 ∧ t.1.bs.length ≤ maxLen) ∧ ∀ k u, (strmC t)[k]? = some u → w.cell? ((a.add (i * 5)).add k) = some u := fun i hi => by
      obtain ⟨cs', h1, h2⟩ := hx i (by omega)
      obtain ⟨t, rfl, hb, hcp, hln⟩ := open_strm h2
      obtain ⟨_, hlen, hcell⟩ := World.cells?_some h1
      refine ⟨t, ⟨hb, hcp, hln⟩, fun k u hu => ?_⟩
      have hk : k < 5 := (List.getElem?_eq_some_iff.1 hu).1
      rw [hcell k hk]; exact hu
    have mk : ∀ n, n ≤ len → ∃ its : List (Strm × Value), its.length = n ∧ (∀ t ∈ its, BsAt w Any' t.2 t.1.bs ∧ CapOk t.2 ∧ t.1.bs.length ≤ maxLen) ∧ ∀ i (hi : i < its.length) k u, (strmC its[i])[k]? = some u → w.cell? ((a.add (i * 5)).add k) = some u := by
      intro n
      induction n with
      | zero => intro _; exact ⟨[], rfl, fun _ h => (by cases h), fun i hi => (by simp at hi)⟩
      | succ n ih =>
        intro hn
        obtain ⟨its, hl1, hp, hc⟩ := ih (by omega)
        obtain ⟨t, hpt, hct⟩ := key n (by omega)
        refine ⟨its ++ [t], by simp [hl1], fun y hy => ?_, fun i hi k u hu => ?_⟩
        · rcases List.mem_append.1 hy with hy | hy
          · exact hp y hy
          · simp at hy; subst hy; exact hpt
        · by_cases hin : i < its.length
          · rw [List.getElem_append_left hin] at hu
            exact hc i hin k u hu
          · have : i = n := by simp at hi; omega
            subst this
            rw [List.getElem_append_right (by omega)] at hu
            simp [hl1] at hu
            exact hct k u hu
    obtain ⟨its, hil, hip, hic⟩ := mk len (Nat.le_refl _)
    have hln : (its.map (fun t => t.1)).length = len := by simp [hil]
    refine ⟨some a, cap, its.map (fun t => t.1), by rw [hln], by rw [hln]; exact hl, hm, ⟨some a, cap, its, rfl, rfl, ⟨?_, fun hn => ?_⟩, fun t ht => ⟨(hip t ht).1, (hip t ht).2.1⟩⟩, fun s hs => ?_⟩
    · rw [hln, ← hil]
      clear hip hic hil hln
      induction its with
      | nil => rfl
      | cons t r ih => rw [List.flatMap_cons, List.length_append, ih, List.length_cons]; show 5 + _ = _; omega
    · rw [hln] at hn
      have h1 := cell_spot (hic 0 (by omega) 0 _ rfl)
      obtain ⟨b, o, sp⟩ := a
      have hs : sp = none := by simpa [Addr.add] using h1.2
      subst hs
      refine ⟨b, o, rfl, by simpa [Addr.add] using h1.1, trivial, fun j u hu => ?_⟩
      obtain ⟨k, hk, i, hi5, rfl, hu2⟩ := flat5_inv its j u hu
      have := hic k hk i u hu2
      rw [add_flat, add_flat, Nat.add_assoc] at this
      exact this
    · obtain ⟨t, ht, rfl⟩ := List.mem_map.1 hs
      exact (hip t ht).2.2

set_option maxRecDepth 100000 in
/-- A stage's parameters. -/
theorem open_prm {r : Reach} {b0 : Nat} {v : Value} {d : DataW H} {ps : List MemPlace} (hv : Value.okWide Try.prog w r b0 24 v) (h : DataW.Trod enc Try.prog w 0 spare held 24 v d ps) :
    ∃ p : Prm, PAt w Any' v p ∧ -9223372036854775808 ≤ p.n ∧ p.n ≤ 9223372036854775807 ∧ p.a.length ≤ maxLen ∧ p.b.length ≤ maxLen := by
  obtain ⟨cs, rfl, hsz⟩ := okWide_struct Try.underlying24 hv
  have hsz : cs.size = 4 := hsz.trans cells_prm
  obtain ⟨c0, c1, c2, c3, rfl⟩ := Go.Joins.array4 hsz
  obtain ⟨fuel, h⟩ := h
  have ec : (Value.agg #[c0, c1, c2, c3]).cells.toList = [c0, c1, c2, c3] := rfl
  rw [ec] at h
  obtain ⟨y0, y1, y2, y3, n, _, _, h0, h1, h2, h3⟩ := Go.Joins.trod_struct4 Try.underlying24 h
  dsimp only at h0 h1 h2 h3
  rw [cells_int] at h0
  rw [cells_int] at h1
  rw [cells_bs] at h2
  rw [cells_bs] at h3
  dsimp only [List.drop, List.take, List.toArray] at h0 h1 h2 h3
  obtain ⟨k, hk, _⟩ := DataW.trod_int Try.underlying3 h0
  obtain ⟨m, hm, _, hw⟩ := DataW.trod_int Try.underlying3 h1
  simp at hk hm
  subst hk hm
  obtain ⟨A, ca, a, rfl, ha1, ha2, hA⟩ := open_bs h2
  obtain ⟨B, cb, b, rfl, hb1, hb2, hB⟩ := open_bs h3
  have hn := bounds_i64 hw
  exact ⟨⟨k, m, a, b⟩, ⟨A, ca, B, cb, rfl, hA, hB⟩, hn.1, hn.2, Nat.le_trans ha1 ha2, Nat.le_trans hb1 hb2⟩

/-- A slice's value is its one cell. -/
theorem slice_cells {P : Program} {r : Reach} {b0 : Nat} {t e : TypeId} {v : Value} (ht : P.underlying t = some (.slice e)) (hv : Value.okWide P w r b0 t v) : v.cells.toList = [v] := by
  simp only [Value.okWide, ht, Cell.okWide, Cell.ok] at hv
  cases v <;> first | rfl | (simp at hv)
end

/-- Arguments read on as they did. -/
theorem trodAll_stays {H : Type} {enc : TypeId × Value → H} {P : Program} (hl : laidOutB P = true) {W W' : World} {sp' : Nat → Bool} : ∀ {ts : List TypeId} {vs : List Value} {ds : List (DataW H)} {ps : List MemPlace},
    (ts.all fun t => P.readableRec t && decide (t < P.types.size)) = true → DataW.TrodAll enc P W 0 (fun _ => true) true ts vs ds ps → (∀ p ∈ ps, W.sameAt W' p) → (∀ p ∈ ps, sp' p.block = true) → DataW.TrodAll enc P W' 0 sp' true ts vs ds ps := by
  intro ts
  induction ts with
  | nil =>
    intro vs ds ps _ h _ _
    obtain ⟨rfl, rfl, rfl⟩ := trodAll_nil h
    exact rfl
  | cons t ts ih =>
    intro vs ds ps ht h hs hsp
    obtain ⟨v, vs1, d, ds1, a, b, rfl, rfl, rfl, h1, h2⟩ := trodAll_cons h
    simp only [List.all_cons, Bool.and_eq_true, decide_eq_true_eq] at ht
    exact ⟨a, b, Go.WideElems.Trod_stays hl ht.1.1 ht.1.2 h1 (fun p hp => hs p (by simp [hp])) (fun p hp => hsp p (by simp [hp])), ih ht.2 h2 (fun p hp => hs p (by simp [hp])) (fun p hp => hsp p (by simp [hp])), rfl⟩

/-- What a law's row asks behind the call, where below the heap's old size all is as it was. -/
theorem post_of_below {H : Type} {enc : TypeId × Value → H} {P : Program} {f : Func} {s : ChangeSpec} {apart fresh handsOn again : Bool} {W W' : World} {args : Array Value} {v : Value} {ds : List (DataW H)} {before : List MemPlace}
    (hl : laidOutB P = true) (hW : DataW.Whole enc P f.params.toList [] apart W args.toList ds [] before) (hsv : s.vars = []) (hA : DataW.TrodAll enc P W 0 (fun _ => true) true f.params.toList args.toList ds before)
    (ht : (f.params.toList.all fun t => P.readableRec t && decide (t < P.types.size)) = true)
    (hres : ∀ (b : Nat) (sp : Nat → Bool) (hd : Bool), DataW.TrodAll enc P W' b sp hd f.resultTypes.toList (v.resultList f.resultTypes.size) (s.fn H (ds ++ [])).results [])
    (hargs : (s.fn H (ds ++ [])).args = ds) (hvars : (s.fn H (ds ++ [])).vars = []) (hb : Below W.heap.size W W')
    (hok : ∀ (j : Nat) (t : TypeId) (r : Value), f.resultTypes[j]? = some t → (v.resultList f.resultTypes.size)[j]? = some r → Value.okWide P W' .any 0 t r) :
    s.post enc P f apart fresh handsOn again W args v W' := by
  have hlt : ∀ p ∈ before, p.block < W.heap.size := fun p hp => hW.lt p hp
  have hold : ∀ p ∈ before, (fun b => decide (b < W.heap.size)) p.block = true := fun p hp => by simpa using hlt p hp
  have harg : ∀ sp : Nat → Bool, (∀ p ∈ before, sp p.block = true) → DataW.TrodAll enc P W' 0 sp true f.params.toList args.toList (s.fn H (ds ++ [])).args before := fun sp hsp => by
    rw [hargs]
    exact trodAll_stays hl ht hA (fun p hp => hb.same (hlt p hp)) hsp
  have hvar : ∀ sp : Nat → Bool, DataW.TrodVars enc P W' sp s.vars (s.fn H (ds ++ [])).vars [] := fun sp => by
    rw [hvars, hsv]; exact rfl
  refine ⟨ds, [], before, [], before, [], by rw [hsv]; exact hW, hres _ _ _, harg _ hold, hvar _, World.keptBut_mono (fun p hp => ⟨hp, by simpa using hp⟩) (hb.frame _), fun _ => ?_⟩
  obtain ⟨_, _, _, _, _, hz, hn⟩ := hW
  refine ⟨hok, _, _, ([] ++ before) ++ [], ⟨[] ++ before, [], trodAll_append (harg _ (fun _ _ => rfl)) (hres _ _ _), hvar _, rfl, ?_, ?_⟩, ?_⟩
  · intro b off hp
    have hp' : MemPlace.cell b off ∈ before := by simpa using hp
    rw [hb.frozen (p := ⟨b, off, none⟩) (hlt _ hp')]
    exact hz b off hp'
  · intro ha
    simpa using hn ha
  · intro p hp _
    simpa using hp
end Go.Proofs.Ytamhebjejgcbjaa

/- Arguments, opened: slices of bytes, bools. -/
namespace Go.Proofs.Ytamhebjejgcbjaa
open Go Go.ChangeShapes Go.WideShapes Go.ChangeAt Go.RowKit Go.Deep
section
variable {H : Type} {enc : TypeId × Value → H} {w : World} {spare : Nat → Bool} {held : Bool} {fuel : Nat}

theorem open_bss {v : Value} {x : DataW H × List MemPlace} (h : DataW.trod enc Try.prog w 0 spare held fuel 45 [v] = some x) :
    ∃ (A : Option Addr) (c : Nat) (l : List Bs), v = .slice A l.length c ∧ l.length ≤ c ∧ c ≤ maxLen ∧ BssAt w (fun _ => True) (.slice A l.length c) l ∧ ∀ b ∈ l, b.length ≤ maxLen := by
  obtain ⟨A, n, c, V, rfl, h1, h2, h3, h4⟩ := open_rd Try.underlying45 (by kernel_rfl) h
  obtain ⟨its, hl, he, hp⟩ := list_of (fun t : Bs × Value => t.2) (fun t => (BsAt w (fun _ => True) t.2 t.1 ∧ CapOk t.2) ∧ t.1.length ≤ maxLen) V n (fun i hi => by
    obtain ⟨k, y, hy⟩ := h4 i hi
    obtain ⟨A2, c2, bs, hv, g1, g2, g3⟩ := open_bs hy
    refine ⟨(bs, V i), rfl, ⟨⟨A2, c2, hv, g3⟩, fun A' n' c' e => ?_⟩, Nat.le_trans g1 g2⟩
    dsimp only at e
    rw [hv] at e
    cases e
    exact g1)
  rw [he] at h3
  have hlen : (its.map fun t => t.1).length = n := by simp [hl]
  exact ⟨A, c, its.map (fun t => t.1), by rw [hlen], by rw [hlen]; exact h1, h2, ⟨A, c, its, rfl, rfl, by rw [hlen]; exact h3, fun t ht => (hp t ht).1⟩, fun b hb => by
    obtain ⟨t, ht, rfl⟩ := List.mem_map.1 hb
    exact (hp t ht).2⟩

theorem open_bools {v : Value} {x : DataW H × List MemPlace} (h : DataW.trod enc Try.prog w 0 spare held fuel 53 [v] = some x) :
    ∃ (A : Option Addr) (c : Nat) (l : List Bool), v = .slice A l.length c ∧ l.length ≤ c ∧ c ≤ maxLen ∧ Rd w (fun _ => True) 1 A l.length (l.map Value.bool) := by
  obtain ⟨A, n, c, V, rfl, h1, h2, h3, h4⟩ := open_rd Try.underlying53 (by kernel_rfl) h
  obtain ⟨l, hl, he, _⟩ := list_of (fun x : Bool => Value.bool x) (fun _ => True) V n (fun i hi => by
    obtain ⟨k, y, hy⟩ := h4 i hi
    obtain ⟨z, hz, _⟩ := DataW.trod_bool Try.underlying4 hy
    simp at hz
    exact ⟨z, hz, trivial⟩)
  rw [he] at h3
  subst hl
  exact ⟨A, c, l, rfl, h1, h2, h3⟩
end
end Go.Proofs.Ytamhebjejgcbjaa

/- JoinGrows: with more of its inputs more comes out: the function returns true for every input, and its arguments read as before. No conditions. -/
namespace Go.Proofs.Ytamhebjejgcbjaa.JoinGrows
open Go Go.ChangeShapes Go.WideShapes Go.ChangeAt Go.RowKit

theorem own : ownKnob Try.prog.godebug = none := by kernel_rfl

set_option maxRecDepth 100000 in
theorem contract (H : Type) (enc : TypeId × Value → H) (W : World) (base : Nat) (args : Array Value) (ds gs : List (DataW H)) (before : List MemPlace)
    (hval : ∀ (j : Nat) t v, Try.f16.params[j]? = some t → args[j]? = some v → Value.okWide Try.prog W .any base t v)
    (hW : DataW.Whole enc Try.prog Try.f16.params.toList Rows.joinGrowsSpec.vars false W args.toList ds gs before) :
    Calls Try.prog 16 args W fun e W' => ∃ v, e = .returned v ∧ Rows.joinGrowsSpec.post enc Try.prog Try.f16 false true false false W args v W' := by
  have hW' := hW
  obtain ⟨p, q, hA0, hV, rfl, hfz, hnd⟩ := hW
  have hA : DataW.TrodAll enc Try.prog W 0 (fun _ => true) true Try.f16.params.toList args.toList ds p := hA0
  have hA9 := hA
  rw [Try.params16] at hA hval
  obtain ⟨v0, vs0, d0, ds0, p0, q0, hargs, rfl, rfl, h0, tt0⟩ := trodAll_cons hA
  obtain ⟨v1, vs1, d1, ds1, p1, q1, rfl, rfl, rfl, h1, tt1⟩ := trodAll_cons tt0
  obtain ⟨v2, vs2, d2, ds2, p2, q2, rfl, rfl, rfl, h2, tt2⟩ := trodAll_cons tt1
  obtain ⟨v3, vs3, d3, ds3, p3, q3, rfl, rfl, rfl, h3, tt3⟩ := trodAll_cons tt2
  obtain ⟨v4, vs4, d4, ds4, p4, q4, rfl, rfl, rfl, h4, tt4⟩ := trodAll_cons tt3
  obtain ⟨rfl, rfl, rfl⟩ := trodAll_nil tt4
  obtain rfl : args = #[v0, v1, v2, v3, v4] := by cases args; simp_all
  obtain ⟨rfl, rfl⟩ := trodVars_none hV
  have hW9 := hW'
  rw [List.append_nil] at hW9
  obtain ⟨P0, hp0, na0, nb0, la0, lb0⟩ := open_prm (hval 0 24 v0 rfl rfl) h0
  have e1 := slice_cells Try.underlying36 (hval 1 36 v1 rfl rfl)
  obtain ⟨f1, h1⟩ := h1
  rw [e1] at h1
  obtain ⟨A1, c1, l1, rfl, lc1, lm1, r1, b1⟩ := open_strms h1
  have e2 := slice_cells Try.underlying45 (hval 2 45 v2 rfl rfl)
  obtain ⟨f2, h2⟩ := h2
  rw [e2] at h2
  obtain ⟨A2, c2, l2, rfl, lc2, lm2, r2, b2⟩ := open_bss h2
  have e3 := slice_cells Try.underlying53 (hval 3 53 v3 rfl rfl)
  obtain ⟨f3, h3⟩ := h3
  rw [e3] at h3
  obtain ⟨A3, c3, l3, rfl, lc3, lm3, r3⟩ := open_bools h3
  have e4 := slice_cells Try.underlying37 (hval 4 37 v4 rfl rfl)
  obtain ⟨f4, h4⟩ := h4
  rw [e4] at h4
  obtain ⟨A4, c4, l4, rfl, lc4, lm4, r4⟩ := open_is h4
  have hE : Join.E W.heap.size W := trivial
  refine (Join.grows_law P0 l1 l2 l3 l4 v0 A1 A2 A3 A4 c1 c2 c3 c4 W na0 nb0 la0 lb0 hp0 (Nat.le_trans lc1 lm1) r1 b1 (Nat.le_trans lc2 lm2) r2 b2 (Nat.le_trans lc3 lm3) r3 (Nat.le_trans lc4 lm4) r4 hE).mono fun e W' ⟨he, hc⟩ => ?_
  subst he
  exact ⟨_, rfl, post_of_below (by kernel_rfl) hW9 rfl hA9 (by kernel_rfl) (fun _ _ _ => trodAll_cons_mk (shut_bool Try.underlying4 _) trodAll_mk0) rfl rfl (hc.below (Nat.le_refl _) (fun _ h => h.elim)) (ok_one (by kernel_rfl) rfl (okWide_bool_mk Try.underlying4 _))⟩

set_option maxRecDepth 100000 in
theorem lifted (os : Os) (started : os.Started) (H : Type) (enc : TypeId × Value → H) :
    ReturnsInHanded {} Try.checked os 16 .any (Rows.joinGrowsSpec.pre6 enc Try.prog Try.f16 Rows.joinGrowsRow.domain false) (Rows.joinGrowsSpec.post enc Try.prog Try.f16 false true false false) := by
  refine returnsInHanded_of_change (C := Try.checked) (s := Rows.joinGrowsSpec) own started (by kernel_rfl) Try.func16
    (ChangeSpec.witness6 (enc := enc) (C := Try.checked) (s := Rows.joinGrowsSpec) false ⟨#[], #[.agg #[.int .i64 0, .int .i64 0, .slice none 0 0, .slice none 0 0], .slice none 0 0, .slice none 0 0, .slice none 0 0, .slice none 0 0], []⟩ 8 (by kernel_rfl) (by kernel_rfl) (by kernel_rfl) (by kernel_rfl)) ?_
  intro W base args ds gs before hval hW _ _
  exact contract H enc W base args ds gs before hval hW

end Go.Proofs.Ytamhebjejgcbjaa.JoinGrows
namespace Go.Proofs.Ytamhebjejgcbjaa
open Go Go.ChangeShapes Go.WideShapes Go.ChangeAt Go.RowKit
theorem joinGrows_said : Rows.JoinGrowsSaid :=
  OpenClaim.holds_of_wide 16 Try.f16 rfl rfl rfl rfl rfl rfl rfl ⟨rfl, rfl, rfl, rfl, rfl⟩ rfl rfl rfl rfl rfl (by kernel_rfl) Try.func16 (by kernel_rfl)
    (of_decide_eq_true (by kernel_rfl)) (by unfold Func.isWrapper; first | (rw [if_pos (by decide +kernel)]; kernel_rfl) | (rw [if_neg (by decide +kernel)]; exact ⟨rfl, rfl⟩))
    (fun os started H enc _ => JoinGrows.lifted os started H enc)
end Go.Proofs.Ytamhebjejgcbjaa
