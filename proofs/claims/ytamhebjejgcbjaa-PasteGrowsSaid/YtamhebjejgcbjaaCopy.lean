/- penstockref04.Copy: streams in memory of their own. -/
import Derived.Test.YtamhebjejgcbjaaBss
import Derived.Deep.RegionHeld3
import Derived.Deep.DrawnRows
import Derived.BigQuiet
import Derived.Outline
namespace Go.Proofs.Ytamhebjejgcbjaa
open Go Go.RowKit

theorem own_apart {w : World} {b1 b2 : Nat} {e1 e2 : TypeId} {s1 s2 n1 n2 : Nat} {v1 v2 : Value} {x1 x2 : List Value} (h1 : w.ownsRow b1 e1 s1 v1 n1 x1) (h2 : w.ownsRow b2 e2 s2 v2 n2 x2) (he : e1 ≠ e2) {k : Nat} (hk : v1.ownBlock = some k) : v2.ownBlock ≠ some k := by
  intro hk2
  rcases h1.2 with ⟨rfl, _⟩ | ⟨g, cap, cur, rfl, _, hh, _⟩
  · simp [Value.ownBlock] at hk
  · rcases h2.2 with ⟨rfl, _⟩ | ⟨g', cap', cur', rfl, _, hh', _⟩
    · simp [Value.ownBlock] at hk2
    · simp [Value.ownBlock] at hk hk2
      subst hk
      subst hk2
      rw [hh] at hh'
      simp only [Option.some.injEq, Obj.cells.injEq] at hh'
      exact he hh'.2.1

/-- Streams in memory of their own, each one's bytes apart. -/
structure LAt (w : World) (B : Nat) (v : Value) (its : List (Strm × Value)) : Prop where
  row : w.ownsRow B 58 5 v its.length (its.flatMap strmC)
  byt : ∀ t ∈ its, w.ownsRow B 5 1 t.2 t.1.bs.length (u8s t.1.bs)
  apart : ∀ (i j : Nat) (a b : Strm × Value), its[i]? = some a → its[j]? = some b → i ≠ j → ∀ k, a.2.ownBlock = some k → b.2.ownBlock ≠ some k

theorem ty_ne : 5 ≠ 58 := by decide

theorem LAt.snoc {w w1 w2 : World} {B : Nat} {u v2 vb : Value} {its : List (Strm × Value)} {s : Strm} (h : LAt w B u its) (h1 : Chg (fun _ => False) w w1)
    (hb : w1.ownsRow B 5 1 vb s.bs.length (u8s s.bs)) (hvb : ∀ k, vb.ownBlock = some k → w.heap.size ≤ k) (hg : w1.grownBy w2 u.ownBlock)
    (hrow : w2.ownsRow B 58 5 v2 (its.length + 1) (its.flatMap strmC ++ strmC (s, vb))) : LAt w2 B v2 (its ++ [(s, vb)]) := by
  have hr1 := ownsRow_chg h.row h1 (fun _ _ h => h)
  have hc2 : Chg (fun j => u.ownBlock = some j) w1 w2 := (Chg.refl _ _).grown hg (fun k e => .inl e)
  refine ⟨by simpa using hrow, fun t ht => ?_, fun i j a b hi hj hne k hk hk2 => ?_⟩
  · rcases List.mem_append.1 ht with ht | ht
    · have hb1 := ownsRow_chg (h.byt t ht) h1 (fun _ _ h => h)
      exact ownsRow_chg hb1 hc2 (fun j hj e => own_apart hb1 hr1 ty_ne hj e)
    · simp only [List.mem_singleton] at ht
      subst ht
      exact ownsRow_chg hb hc2 (fun j hj e => own_apart hb hr1 ty_ne hj e)
  · have hold : ∀ {i : Nat} {a : Strm × Value}, (its ++ [(s, vb)])[i]? = some a → (i < its.length ∧ its[i]? = some a) ∨ (i = its.length ∧ a = (s, vb)) := fun {i a} hi => by
      rcases Nat.lt_or_ge i its.length with hl | hl
      · rw [List.getElem?_append_left hl] at hi
        exact .inl ⟨hl, hi⟩
      · rw [List.getElem?_append_right hl] at hi
        have hz : i - its.length = 0 := by
          have := (List.getElem?_eq_some_iff.1 hi).1
          simpa using this
        rw [hz] at hi
        simp only [List.getElem?_cons_zero, Option.some.injEq] at hi
        exact .inr ⟨by omega, hi.symm⟩
    rcases hold hi with ⟨_, ha⟩ | ⟨rfl, rfl⟩ <;> rcases hold hj with ⟨_, hb'⟩ | ⟨rfl, rfl⟩
    · exact h.apart i j a b ha hb' hne k hk hk2
    · have := ((h.byt a (List.mem_of_getElem? ha)).lt k hk).2
      have := hvb k hk2
      omega
    · have := ((h.byt b (List.mem_of_getElem? hb')).lt k hk2).2
      have := hvb k hk
      omega
    · exact hne rfl

theorem LAt.strms {w : World} {B : Nat} {v : Value} {its : List (Strm × Value)} {l : List Strm} (h : LAt w B v its) (hl : its.map (fun t => t.1) = l) : ∃ A c, v = .slice A l.length c ∧ StrmsAt w (fun k => B ≤ k) (.slice A l.length c) l := by
  obtain ⟨A, c, rfl, hr⟩ := own_rd h.row
  have e : its.length = l.length := by rw [← hl]; simp
  rw [e] at hr ⊢
  refine ⟨A, c, rfl, A, c, its, rfl, hl.symm, hr, fun t ht => ?_⟩
  have hb := h.byt t ht
  obtain ⟨A2, c2, e2, hr2⟩ := own_rd hb
  refine ⟨⟨A2, c2, e2, hr2⟩, fun A3 n3 c3 e3 => ?_⟩
  rcases hb.2 with ⟨e4, h0⟩ | ⟨g, cap, cur, e4, _, _, hnc, _⟩
  · rw [e4] at e3; cases e3; exact Nat.le_refl _
  · rw [e4] at e3; cases e3; exact hnc

def CopyLPost (w : World) (l : List Strm) (e : Ending) (w' : World) : Prop := ∃ v its, e = .returned v ∧ its.map (fun t => t.1) = l ∧ LAt w' w.heap.size v its ∧ Chg (fun _ => False) w w'

set_option maxHeartbeats 4000000 in
set_option maxRecDepth 100000 in
theorem copy_any (D : Nat → Prop) (l : List Strm) (A : Option Addr) (c : Nat) (w : World) (h : StrmsAt w D (.slice A l.length c) l) (hll : l.length ≤ 100) (hl : ∀ s ∈ l, s.bs.length ≤ 1000000) :
    Calls Try.prog 31 #[.slice A l.length c] w (CopyLPost w l) := by
  obtain ⟨i0, hi0, iz0, iz1, iz2⟩ := info_parts info_strm
  obtain ⟨j0, hj0, jz0, jz1, jz2⟩ := info_parts info_u8
  go_enter Try.func31, Try.ntmps31
  go_wp2
  go_loopw [4, 3] (fun i v wr => ∃ (k : Nat) (its : List (Strm × Value)), k ≤ l.length ∧ i = .int .i64 k ∧ its.length = k ∧ its.map (fun t => t.1) = l.take k ∧ LAt wr w.heap.size v its ∧ Chg (fun _ => False) w wr) (fun i _ _ => l.length - (intOf i).toNat)
  case atStart => exact ⟨0, [], by omega, rfl, rfl, rfl, ⟨by simpa using World.ownsRow_nil _ _ _ _, by simp, by simp⟩, Chg.refl _ _⟩
  case round =>
    obtain ⟨k, its, hk, rfl, hlen, hmap, hL, hch⟩ := hrel
    by_cases hlt : k < l.length
    · have hlt' : (k : Int) < (l.length : Int) := by omega
      have hk0 : (0 : Int) ≤ (k : Int) := by omega
      obtain ⟨z0, g2, o2, A2, c2, rfl, hg2, hD2, q0, q1, q2, q3, q4, hr2, hc2⟩ := (h.chg hch (fun _ _ _ h => h)).at_ hlt
      have hsl := hl _ (List.getElem_mem hlt)
      have hmap2 : l.take (k + 1) = l.take k ++ [l[k]] := List.take_succ_eq_append_getElem hlt
      generalize l[k] = s at *
      have hs2 := hch.size
      have hst : Blk (wr.alloc (.cells #[.slice A2 s.bs.length c2, .bool s.ended, .int .i64 s.code, .int .i64 s.stage, .int .i64 s.id] 58)) wr.heap.size 58 #[.slice A2 s.bs.length c2, .bool s.ended, .int .i64 s.code, .int .i64 s.stage, .int .i64 s.id] := Blk.new _ _ _
      have hst2 := hst.alloc (.cells #[] 5)
      have hch2 : Chg (fun _ => False) wr ((wr.alloc (.cells #[.slice A2 s.bs.length c2, .bool s.ended, .int .i64 s.code, .int .i64 s.stage, .int .i64 s.id] 58)).alloc (.cells #[] 5)) := ((Chg.refl _ _).alloc _).alloc _
      have hsz2 : ((wr.alloc (.cells #[.slice A2 s.bs.length c2, .bool s.ended, .int .i64 s.code, .int .i64 s.stage, .int .i64 s.id] 58)).alloc (.cells #[] 5)).heap.size = wr.heap.size + 2 := by simp
      have hown0 : ((wr.alloc (.cells #[.slice A2 s.bs.length c2, .bool s.ended, .int .i64 s.code, .int .i64 s.stage, .int .i64 s.id] 58)).alloc (.cells #[] 5)).ownsRow w.heap.size 5 1 (.slice (some ⟨wr.heap.size + 1, 0, none⟩) 0 0) 0 [] :=
        ⟨rfl, .inr ⟨wr.heap.size + 1, 0, #[], rfl, by omega, by
          have := Blk.new (wr.alloc (.cells #[.slice A2 s.bs.length c2, .bool s.ended, .int .i64 s.code, .int .i64 s.stage, .int .i64 s.id] 58)) 5 #[]
          simp only [World.size_alloc] at this
          exact this, Nat.le_refl _, by simp [maxLen], rfl, rfl⟩⟩
      have hr3 := (hr2.mono (D' := fun _ => True) (fun _ _ _ => trivial)).chg hch2 (fun _ _ _ h => h)
      replace hmap2 := Lib.hid hmap2
      replace hmap := Lib.hid hmap
      replace hlen := Lib.hid hlen
      replace hown0 := Lib.hid hown0
      replace hsz2 := Lib.hid hsz2
      have tn := Lib.hid trivial
      clear hr2 h hl
      go_wp2_with (first
        | (clear tn
           at_builtin
           refine wpList_append_rd _ rfl (.tmp 16) (.tmp 18) 22 rfl w.heap.size 5 j0 _ 1 1 Try.underlying22 hj0 jz0 jz1 jz2 rfl (by omega) (.slice (some ⟨wr.heap.size + 1, 0, none⟩) 0 0) 0 [] rfl hown0.out (fun _ => True) A2 s.bs.length c2 (u8s s.bs) rfl hr3 (u8s_one _) (by simp only [maxLen]; omega) (by omega) (by simp; omega) ?_
           intro vb wb hownb hgb hvb
           have hbb : Blk wb wr.heap.size 58 #[.slice A2 s.bs.length c2, .bool s.ended, .int .i64 s.code, .int .i64 s.stage, .int .i64 s.id] := hst2.grown hgb (by simp [Value.ownBlock])
           have hszb := hgb.size
           have hcb : Chg (fun _ => False) wr wb := hch2.grown hgb (fun k e => by simp [Value.ownBlock] at e; exact .inr (by omega))
           rw [Nat.zero_add, List.nil_append] at hownb
           obtain ⟨Ab, cb, rfl, hrb⟩ := own_rd hownb
           have k1 := (hbb.cell 1).trans rfl
           have k2 := (hbb.cell 2).trans rfl
           have k3 := (hbb.cell 3).trans rfl
           have k4 := (hbb.cell 4).trans rfl
           have kf := hbb.frozen 0
           have k0 := (hbb.cell 0).trans rfl)
        | (at_builtin
           have hwc : Chg (fun _ => False) wr (wb.setCell ⟨wr.heap.size, 0, none⟩ (.slice Ab s.bs.length cb)) := hcb.setCell (.inr (Nat.le_refl _)) _
           have hwd : Chg (fun _ => False) wr ((wb.setCell ⟨wr.heap.size, 0, none⟩ (.slice Ab s.bs.length cb)).alloc (.cells #[.slice Ab s.bs.length cb, .bool s.ended, .int .i64 s.code, .int .i64 s.stage, .int .i64 s.id] 58)) := hwc.alloc _
           have hbw : Chg (fun j => j = wr.heap.size) wb ((wb.setCell ⟨wr.heap.size, 0, none⟩ (.slice Ab s.bs.length cb)).alloc (.cells #[.slice Ab s.bs.length cb, .bool s.ended, .int .i64 s.code, .int .i64 s.stage, .int .i64 s.id] 58)) := ((Chg.refl (fun j => j = wr.heap.size) _).setCell (p := ⟨wr.heap.size, 0, none⟩) (.inl rfl) _).alloc _
           have hvn : ∀ j, (Value.slice Ab s.bs.length cb).ownBlock = some j → wr.heap.size + 1 ≤ j := fun j e => by
             rcases hvb with hv | hv
             · rw [hv] at e; simp [Value.ownBlock] at e; omega
             · rw [hv, hsz2.out] at e; simp at e; omega
           have hownb2 := ownsRow_chg hownb hbw (fun j hj e => by have := hvn j hj; omega)
           have hnb := Blk.new (wb.setCell ⟨wr.heap.size, 0, none⟩ (.slice Ab s.bs.length cb)) 58 #[.slice Ab s.bs.length cb, .bool s.ended, .int .i64 s.code, .int .i64 s.stage, .int .i64 s.id]
           rw [World.size_setCell] at hnb
           refine wpList_append_own_at _ rfl (.tmp 21) (.tmp 23) 36 rfl w.heap.size 58 i0 _ 5 56 Try.underlying36 hi0 iz0 iz1 iz2 rfl (by omega) u3 its.length (its.flatMap strmC) rfl (ownsRow_chg hL.row hwd (fun _ _ h => h)) ⟨wb.heap.size, 0, none⟩ 1 1 [.slice Ab s.bs.length cb, .bool s.ended, .int .i64 s.code, .int .i64 s.stage, .int .i64 s.id] rfl rfl (World.news_of_block (cs := #[.slice Ab s.bs.length cb, .bool s.ended, .int .i64 s.code, .int .i64 s.stage, .int .i64 s.id]) (t := 58) (fr := (0, 0)) hnb) (by simp [Value.oneCell']) (by have := hlen.out; simp only [maxLen]; omega) (by have := hlen.out; omega) (by have := hwd.size; omega) ?_
           intro v2 w2 hown2 hg2' hv2' hat2))
      go_roundw
      case rel =>
        have hcx : Chg (fun j => u3.ownBlock = some j) wr w2 := Chg.trans (S := fun j => u3.ownBlock = some j) (hwd.mono (fun _ h _ => h.elim)) ((Chg.refl (fun j => u3.ownBlock = some j) _).grown hg2' (fun j e => .inl e)) (fun _ h _ => h)
        exact ⟨k + 1, its ++ [(s, .slice Ab s.bs.length cb)], by omega, by go_num, by simp [hlen.out], by rw [hmap2.out, List.map_append, hmap.out]; rfl, hL.snoc (s := s) (vb := .slice Ab s.bs.length cb) hwd hownb2 (fun j hj => by have := hvn j hj; omega) hg2' hown2, hch.trans hcx (fun y hy hlt => by have := (hL.row.lt y hy).1; omega)⟩
      case measure => simp [intOf]; omega
    · have hlt' : ¬ (k : Int) < (l.length : Int) := by omega
      have hkn : k = l.length := by omega
      subst hkn
      rw [List.take_of_length_le (Nat.le_refl _)] at hmap
      replace hmap := Lib.hid hmap
      replace hlen := Lib.hid hlen
      go_wp2
      go_ret
      exact ⟨_, its, rfl, hmap.out, hL, hch⟩
end Go.Proofs.Ytamhebjejgcbjaa
