/- The contracts of filter.Queue: an input of which lines are wanted one by one. -/
import Derived.Test.YtkgmbomfkdkofaaSpl
import Derived.Test.YtkgmbomfkdkofaaOwnT
import Derived.Test.YtkgmbomfkdkofaaPasteQ
import Derived.Lib.Hide
import Derived.OwnWalk
namespace Go.Proofs.Ytkgmbomfkdkofaa
open Go Go.RowKit

theorem qrest_none (T : TypeId) (g o : Nat) (cs : Array Value) (f : Bool) (w : World) (hb : Blk w g T cs) (hs : SplAt cs o [] f) :
    Calls Try.prog 137 #[.pointer (some ⟨g, o, none⟩)] w fun e w' => e = .returned (.tuple #[.string ⟨#[]⟩, .bool false]) ∧ w = w' := by
  have hn : w.cell? ⟨g, o + 64, none⟩ = some (.int .i64 0) := (hb.cell _).trans hs.n
  clear hb hs
  go_enter Try.func137, Try.ntmps137
  go_wp2
  go_ret2
  exact ⟨rfl, rfl⟩

theorem qrest_some (T : TypeId) (g o : Nat) (cs : Array Value) (beg : Bs) (f : Bool) (w : World) (hb : Blk w g T cs) (hs : SplAt cs o beg f) (hne : beg ≠ []) :
    Calls Try.prog 137 #[.pointer (some ⟨g, o, none⟩)] w fun e w' => ∃ cs', e = .returned (.tuple #[strv beg, .bool true]) ∧ Blk w' g T cs' ∧ SplAt cs' o [] f ∧
      (∀ i, i < o ∨ o + 66 ≤ i → cs'[i]? = cs[i]?) ∧ Chg (fun j => j = g) w w' := by
  have hn : w.cell? ⟨g, o + 64, none⟩ = some (.int .i64 beg.length) := (hb.cell _).trans hs.n
  have hf : w.frozen? ⟨g, o + 64, none⟩ = false := hb.frozen _
  have hlen : beg.length ≠ 0 := fun h => hne (List.eq_nil_of_length_eq_zero h)
  have hz : ((beg.length : Int) == 0) = false := by rw [beq_eq_false_iff_ne]; omega
  have hle : (beg.length : Int) ≤ 64 := by have := hs.le; omega
  have hb2 := hb.set (o + 64) (.int .i64 0)
  have hs2 := hs.fresh
  have hcv : (convert 22 9 (.slice (some ⟨g, o, none⟩) beg.length 64)).run Try.prog (w.setCell ⟨g, o + 64, none⟩ (.int .i64 0)) = .ok (strv beg) (w.setCell ⟨g, o + 64, none⟩ (.int .i64 0)) :=
    conv_str g o 64 beg (fun i x hx => by
      rw [hb2.cell, Array.getElem?_setIfInBounds_ne (by have := (List.getElem?_eq_some_iff.1 hx).1; have := hs.le; omega)]
      exact hs.got i x hx)
  have hch : Chg (fun j => j = g) w (w.setCell ⟨g, o + 64, none⟩ (.int .i64 0)) := (Chg.refl (fun j => j = g) w).setCell (p := ⟨g, o + 64, none⟩) (.inl rfl) _
  have hal := arrayLen_64
  clear hb hs hne
  go_enter Try.func137, Try.ntmps137
  go_wp2
  go_ret2
  exact ⟨_, rfl, hb2, hs2, fun i hi => Array.getElem?_setIfInBounds_ne (by omega), hch⟩

abbrev strs (l : List Bs) : List Value := l.map strv
theorem strs_one (l : List Bs) : ∀ u ∈ strs l, u.oneCell' = true := fun u hu => by
  obtain ⟨x, _, rfl⟩ := List.mem_map.1 hu
  rfl

/-- A queue's cells: lv is the value of its lines. -/
structure QAt (cs : Array Value) (o : Nat) (q : PQ) (fl : Bool) (lv : Value) : Prop where
  spl : SplAt cs o q.beg fl
  lines : cs[o + 66]? = some lv
  ended : cs[o + 67]? = some (.bool q.ended)
namespace QAt
variable {cs cs' : Array Value} {o : Nat} {q : PQ} {fl : Bool} {lv : Value}
theorem far (h : QAt cs o q fl lv) (hc : ∀ i, o ≤ i → i < o + 68 → cs'[i]? = cs[i]?) : QAt cs' o q fl lv :=
  ⟨h.spl.far fun i h1 h2 => hc i h1 (by omega), (hc _ (by omega) (by omega)).trans h.lines, (hc _ (by omega) (by omega)).trans h.ended⟩
theorem lt (h : QAt cs o q fl lv) : o + 67 < cs.size := (Array.getElem?_eq_some_iff.1 h.ended).1
theorem lines_ (h : QAt cs o q fl lv) (v : Value) (l : List Bs) : QAt (cs.setIfInBounds (o + 66) v) o ⟨q.beg, l, q.ended⟩ fl v :=
  ⟨h.spl.far fun i _ h2 => Array.getElem?_setIfInBounds_ne (by omega), Array.getElem?_setIfInBounds_self_of_lt (by have := h.lt; omega), by rw [Array.getElem?_setIfInBounds_ne (by omega)]; exact h.ended⟩
end QAt

/-- What a call on a queue leaves. -/
structure QPost (T : TypeId) (g o : Nat) (cs : Array Value) (B : Nat) (lv : Value) (w : World) (q' : PQ) (fl' : Bool) (lv' : Value) (cs' : Array Value) (w' : World) : Prop where
  blk : Blk w' g T cs'
  at_ : QAt cs' o q' fl' lv'
  own : OwnT w' B 9 lv' (strs q'.ls)
  out : ∀ i, i < o ∨ o + 68 ≤ i → cs'[i]? = cs[i]?
  chg : Chg (fun k => k = g ∨ lv.ownBlock = some k) w w'
  blo : lv'.ownBlock = none ∨ lv'.ownBlock = lv.ownBlock ∨ ∃ k, lv'.ownBlock = some k ∧ w.heap.size ≤ k ∧ k < w'.heap.size

theorem grown_chg {w w1 w2 : World} {lv : Value} {g : Nat} (h : Chg (fun k => k = g ∨ lv.ownBlock = some k) w w1) (hg : w1.grownBy w2 lv.ownBlock) : Chg (fun k => k = g ∨ lv.ownBlock = some k) w w2 :=
  h.grown hg (fun _ e => .inl (.inr e))

section
variable (T : TypeId) (g o B : Nat) (cs : Array Value) (q : PQ) (lv : Value) (w : World)

def PushPost (r : List Bs × Bs × Bool) (e : Ending) (w' : World) : Prop :=
  ∃ lv' cs', e = .returned (.int .i64 (if r.2.2 = true then 20 else 0)) ∧ QPost T g o cs B lv w ⟨r.2.1, q.ls ++ r.1, q.ended⟩ r.2.2 lv' cs' w'

set_option maxHeartbeats 1000000 in
set_option maxRecDepth 100000 in
theorem push_any (bs : Bs) (A : Option Addr) (c : Nat) (hb : Blk w g T cs) (hq : QAt cs o q false lv) (hown : OwnT w B 9 lv (strs q.ls)) (hne : lv.ownBlock ≠ some g) (hB : B ≤ w.heap.size)
    (hr : Rd w (fun k => k ≠ g) 1 A bs.length (u8s bs)) (hlen : bs.length ≤ 100000) (hll : q.ls.length ≤ 100000) :
    Calls Try.prog 133 #[.pointer (some ⟨g, o, none⟩), .slice A bs.length c] w (PushPost T g o B cs q lv w (cutS q.beg bs)) := by
  obtain ⟨i0, hi0, hz0, hz1, hz2⟩ := info_parts info_string
  have hcut := cut_any T g o cs q.beg bs A c w hb hq.spl hr (by omega)
  have hcnt := cutS_count bs q.beg
  replace hcut := Lib.hid hcut
  generalize cutS q.beg bs = cc at *
  obtain ⟨ls, gb, fl⟩ := cc
  dsimp only at hcnt
  have hgl := hb.lt
  clear hr
  cases fl
  all_goals
    go_enter Try.func133, Try.ntmps133
    go_wp2_with (first
      | (go_at_call 142
         refine hcut.out.mono ?_
         intro e1 w1 ho1
         obtain ⟨v1, cs1, rfl, hb1, hs1, hout1, hch1, hown1⟩ := ho1
         dsimp only at hs1 hown1
         have hT1 := hown.chg hch1 (fun k hk e => hne (by rw [hk, e]))
         have hl1 : w1.cell? ⟨g, o + 66, none⟩ = some lv := (hb1.cell _).trans ((hout1 _ (by omega)).trans hq.lines)
         have hf1 : w1.frozen? ⟨g, o + 66, none⟩ = false := hb1.frozen _
         obtain ⟨A1, c1, rfl, hrd1⟩ := own_rd hown1
         have hsz1 := hch1.size)
      | (at_builtin
         refine wpList_append_T _ rfl (.tmp 19) (.tmp 20) 51 rfl B 9 i0 _ 16 Try.underlying51 hi0 hz0 hz1 hz2 rfl lv (strs q.ls) rfl hT1 _ A1 ls.length c1 (strs ls) rfl hrd1 (strs_one ls) (by simp [maxLen]; omega) (by simp; omega) (by omega) ?_
         intro v2 w2 hT2 hg2 ho2
         obtain ⟨A2, c2, rfl, _⟩ := hT2.rd
         rw [show (strs q.ls ++ strs ls).length = q.ls.length + ls.length by simp] at hT2 ho2 ⊢
         have hb2 := hb1.grown hg2 (Ne.symm hne)
         have hf2 : w2.frozen? ⟨g, o + 66, none⟩ = false := hb2.frozen _
         have hl2 : w2.cell? ⟨g, o + 66, none⟩ = some lv := (hb2.cell _).trans ((hout1 _ (by omega)).trans hq.lines)))
    go_ret
    have hq1 : QAt cs1 o ⟨gb, q.ls, q.ended⟩ _ lv := ⟨hs1, (hout1 _ (by omega)).trans hq.lines, (hout1 _ (by omega)).trans hq.ended⟩
    have hc2 := grown_chg (hch1.mono (S' := fun k => k = g ∨ lv.ownBlock = some k) (fun k hk _ => .inl hk)) hg2
    have hv2 : ∀ k, (Value.slice A2 (q.ls.length + ls.length) c2).ownBlock = some k → k ≠ g := fun k hk e => by
      rcases ho2 with h | h
      · rw [hk, e] at h; exact hne h.symm
      · rw [hk] at h; injection h with h; omega
    exact ⟨_, _, rfl, hb2.set _ _, hq1.lines_ _ (q.ls ++ ls), by
      have : strs (q.ls ++ ls) = strs q.ls ++ strs ls := List.map_append
      rw [this]
      exact hT2.chg ((Chg.refl (fun k => k = g) w2).setCell (p := ⟨g, o + 66, none⟩) (.inl rfl) _) hv2,
      fun i hi => (Array.getElem?_setIfInBounds_ne (by omega)).trans (hout1 i (by omega)), hc2.setCell (.inl (.inl rfl)) _, by
      rcases ho2 with h | h
      · exact .inr (.inl h)
      · exact .inr (.inr ⟨_, h, hsz1, by have := hT2.lt _ h; simp [World.setCell]; omega⟩)⟩

def ClosePost (fl : Bool) (e : Ending) (w' : World) : Prop :=
  ∃ lv' cs', e = .returned (.tuple #[]) ∧ QPost T g o cs B lv w ⟨[], q.ls ++ (if q.beg = [] then [] else [q.beg]), true⟩ fl lv' cs' w'

theorem rd_row1 (w : World) (t : TypeId) (x : Value) {n : Nat} (hn : w.heap.size = n) : Rd (w.alloc (.cells #[x] t)) (fun _ => True) 1 (some ⟨n, 0, none⟩) 1 [x] := by
  subst hn
  refine ⟨rfl, fun _ => ⟨w.heap.size, 0, rfl, by simp, trivial, fun j u hu => ?_⟩⟩
  obtain rfl : j = 0 := by
    have := (List.getElem?_eq_some_iff.1 hu).1
    simpa using this
  simp at hu
  subst hu
  exact (Blk.new w t #[x]).cell 0

set_option maxHeartbeats 1000000 in
set_option maxRecDepth 100000 in
theorem close_any (fl : Bool) (hb : Blk w g T cs) (hq : QAt cs o q fl lv) (hown : OwnT w B 9 lv (strs q.ls)) (hne : lv.ownBlock ≠ some g) (hB : B ≤ w.heap.size) (hll : q.ls.length ≤ 100000) :
    Calls Try.prog 131 #[.pointer (some ⟨g, o, none⟩)] w (ClosePost T g o B cs q lv w fl) := by
  obtain ⟨i0, hi0, hz0, hz1, hz2⟩ := info_parts info_string
  have hf67 : w.frozen? ⟨g, o + 67, none⟩ = false := hb.frozen _
  have h67 : w.cell? ⟨g, o + 67, none⟩ = some (.bool q.ended) := (hb.cell _).trans hq.ended
  have hb1 := hb.set (o + 67) (.bool true)
  have hlt := hq.lt
  have hgl := hb.lt
  have hq1 : QAt (cs.setIfInBounds (o + 67) (.bool true)) o ⟨q.beg, q.ls, true⟩ fl lv :=
    ⟨hq.spl.far fun i _ h2 => Array.getElem?_setIfInBounds_ne (by omega), by rw [Array.getElem?_setIfInBounds_ne (by omega)]; exact hq.lines, Array.getElem?_setIfInBounds_self_of_lt (by omega)⟩
  have hout1 : ∀ i, i < o ∨ o + 68 ≤ i → (cs.setIfInBounds (o + 67) (.bool true))[i]? = cs[i]? := fun i hi => Array.getElem?_setIfInBounds_ne (by omega)
  have hch1 : Chg (fun k => k = g) w (w.setCell ⟨g, o + 67, none⟩ (.bool true)) := (Chg.refl (fun k => k = g) w).setCell (p := ⟨g, o + 67, none⟩) (.inl rfl) _
  have hs1 : (w.setCell ⟨g, o + 67, none⟩ (.bool true)).heap.size = w.heap.size := by simp [World.setCell]
  have hT1 := hown.chg hch1 (fun k hk e => hne (by rw [hk, e]))
  by_cases hbeg : q.beg = []
  · have hrest := qrest_none T g o _ fl _ hb1 (by have := hq1.spl; dsimp only at this; rwa [hbeg] at this)
    go_enter Try.func131, Try.ntmps131
    go_wp2_with (first
      | (go_at_call 137
         refine hrest.mono ?_
         rintro e1 w1 ⟨rfl, rfl⟩))
    go_end0
    refine ⟨lv, _, rfl, hb1, ⟨?_, hq1.lines, hq1.ended⟩, ?_, hout1, hch1.mono (fun k hk _ => .inl hk), .inr (.inl rfl)⟩
    · have := hq1.spl; dsimp only at this; rwa [hbeg] at this
    · rw [if_pos hbeg, List.append_nil]; exact hT1
  · have hrest := qrest_some T g o _ q.beg fl _ hb1 hq1.spl hbeg
    go_enter Try.func131, Try.ntmps131
    go_wp2_with (first
      | (go_at_call 137
         refine hrest.mono ?_
         rintro e2 w2 ⟨cs2, rfl, hb2, hs2, hout2, hch2⟩
         have hT2 := (hT1.chg hch2 (fun k hk e => hne (by rw [hk, e]))).chg ((Chg.refl (fun _ => False) w2).alloc (.cells #[strv q.beg] 9)) (fun _ _ h => h)
         have hl2 : w2.cell? ⟨g, o + 66, none⟩ = some lv := (hb2.cell _).trans ((hout2 _ (by omega)).trans hq1.lines)
         have hf2 : w2.frozen? ⟨g, o + 66, none⟩ = false := hb2.frozen _
         have hsz2 : w.heap.size ≤ w2.heap.size := by have := hch2.size; simp [World.setCell] at this; exact this
         have hb2a := hb2.alloc (.cells #[strv q.beg] 9))
      | (at_builtin
         refine wpList_append_T _ rfl (.tmp 19) (.tmp 21) 51 rfl B 9 i0 _ 16 Try.underlying51 hi0 hz0 hz1 hz2 rfl lv (strs q.ls) rfl hT2 _ (some ⟨w2.heap.size, 0, none⟩) 1 1 [strv q.beg] rfl (rd_row1 w2 9 (strv q.beg) rfl) (by simp [Value.oneCell', strv]) (by simp [maxLen]; omega) (by simp; omega) (by simp; omega) ?_
         intro v3 w3 hT3 hg3 ho3
         obtain ⟨A3, c3, rfl, _⟩ := hT3.rd
         rw [show (strs q.ls ++ [strv q.beg]).length = q.ls.length + 1 by simp] at hT3 ho3 ⊢
         have hb3 := hb2a.grown hg3 (Ne.symm hne)
         have hf3 : w3.frozen? ⟨g, o + 66, none⟩ = false := hb3.frozen _
         have hl3 : w3.cell? ⟨g, o + 66, none⟩ = some lv := (hb3.cell _).trans ((hout2 _ (by omega)).trans hq1.lines)))
    go_end0
    have hq2 : QAt cs2 o ⟨[], q.ls, true⟩ fl lv := ⟨hs2, (hout2 _ (by omega)).trans hq1.lines, (hout2 _ (by omega)).trans hq1.ended⟩
    have hc3 := grown_chg (((hch1.trans hch2 (fun _ h _ => h)).mono (S' := fun k => k = g ∨ lv.ownBlock = some k) (fun k hk _ => .inl hk)).alloc (.cells #[strv q.beg] 9)) hg3
    have hv3 : ∀ k, (Value.slice A3 (q.ls.length + 1) c3).ownBlock = some k → k ≠ g := fun k hk e => by
      rcases ho3 with h | h
      · rw [hk, e] at h; exact hne h.symm
      · rw [hk] at h; injection h with h; simp at h; omega
    have hq3 := hq2.lines_ (.slice A3 (q.ls.length + 1) c3) (q.ls ++ [q.beg])
    refine ⟨.slice A3 (q.ls.length + 1) c3, _, rfl, hb3.set _ _, ?_, ?_, fun i hi => (Array.getElem?_setIfInBounds_ne (by omega)).trans ((hout2 i (by omega)).trans (hout1 i hi)), hc3.setCell (.inl (.inl rfl)) _, ?_⟩
    · rw [if_neg hbeg]; exact hq3
    · rw [if_neg hbeg]
      have : strs (q.ls ++ [q.beg]) = strs q.ls ++ [strv q.beg] := List.map_append
      show OwnT _ _ _ _ (strs (q.ls ++ [q.beg]))
      rw [this]
      exact hT3.chg ((Chg.refl (fun k => k = g) w3).setCell (p := ⟨g, o + 66, none⟩) (.inl rfl) _) hv3
    · rcases ho3 with h | h
      · exact .inr (.inl h)
      · exact .inr (.inr ⟨_, h, by simp; omega, by have := hT3.lt _ h; simp [World.setCell] at this ⊢; omega⟩)

def NextNone (e : Ending) (w' : World) : Prop := e = .returned (.tuple #[strv [], .bool false, .bool q.ended]) ∧ Chg (fun _ => False) w w'
theorem next_none (fl : Bool) (hb : Blk w g T cs) (hq : QAt cs o q fl lv) (hown : OwnT w B 9 lv (strs q.ls)) (h0 : q.ls = []) :
    Calls Try.prog 146 #[.pointer (some ⟨g, o, none⟩)] w (NextNone q w) := by
  have h66 : w.cell? ⟨g, o + 66, none⟩ = some lv := (hb.cell _).trans hq.lines
  have h67 : w.cell? ⟨g, o + 67, none⟩ = some (.bool q.ended) := (hb.cell _).trans hq.ended
  rw [h0] at hown
  obtain ⟨A, c, rfl, _⟩ := hown.rd
  clear hb hq hown
  go_enter Try.func146, Try.ntmps146
  go_wp2
  go_quiet (fail)
  go_wp2
  go_ret3
  exact ⟨rfl, (Chg.refl _ _).drewN _⟩

def NextSome (x : Bs) (r : List Bs) (fl : Bool) (e : Ending) (w' : World) : Prop :=
  ∃ lv' cs', e = .returned (.tuple #[strv x, .bool true, .bool false]) ∧ QPost T g o cs B lv w ⟨q.beg, r, q.ended⟩ fl lv' cs' w'
theorem next_some (fl : Bool) (x : Bs) (r : List Bs) (hb : Blk w g T cs) (hq : QAt cs o q fl lv) (hown : OwnT w B 9 lv (strs q.ls)) (hne : lv.ownBlock ≠ some g) (h0 : q.ls = x :: r) (hll : q.ls.length ≤ 100000) :
    Calls Try.prog 146 #[.pointer (some ⟨g, o, none⟩)] w (NextSome T g o B cs q lv w x r fl) := by
  have h66 : w.cell? ⟨g, o + 66, none⟩ = some lv := (hb.cell _).trans hq.lines
  have hf66 : w.frozen? ⟨g, o + 66, none⟩ = false := hb.frozen _
  rw [h0] at hown hll
  simp only [List.length_cons] at hll
  obtain ⟨g2, off, cap, hv, hx, hb2, hl2, hcap, htl⟩ := OwnT.head hown
  subst hv
  have hrl : (List.map strv r).length = r.length := List.length_map ..
  rw [hrl] at hcap htl hne ⊢
  have hne2 : g2 ≠ g := fun e => hne (by simp [Value.ownBlock, e])
  have hch : ∀ v, Chg (fun k => k = g) w (w.setCell ⟨g, o + 66, none⟩ v) := fun v => (Chg.refl (fun k => k = g) w).setCell (p := ⟨g, o + 66, none⟩) (.inl rfl) _
  have hlq := hq.lines_
  have hbs := hb.set (o + 66)
  have hfin : ∀ off' , (if cap - 1 = 0 then off else off + 1) = off' → NextSome T g o B cs q (.slice (some ⟨g2, off, none⟩) (r.length + 1) cap) w x r fl (.returned (.tuple #[strv x, .bool true, .bool false])) (w.setCell ⟨g, o + 66, none⟩ (.slice (some ⟨g2, off', none⟩) r.length (cap - 1))) := fun off' he => by
    subst he
    exact ⟨_, _, rfl, hbs _, hlq _ r, htl.chg (hch _) (fun k hk e => by simp [Value.ownBlock] at hk; omega), fun i hi => Array.getElem?_setIfInBounds_ne (by omega), (hch _).mono (fun k hk _ => .inl hk), .inr (.inl rfl)⟩
  replace hfin := Lib.hid hfin
  clear hb hq hown htl hlq hbs hch
  by_cases hc1 : cap = 1
  · subst hc1
    obtain rfl : r = [] := List.eq_nil_of_length_eq_zero (by omega)
    go_enter Try.func146, Try.ntmps146
    go_wp2
    go_ret3
    exact hfin.out off rfl
  · have hc2 : cap ≠ 1 := hc1
    have hoff := hfin.out (off + 1) (by rw [if_neg (by omega)])
    replace hoff := Lib.hid hoff
    clear hfin
    have hcz : (1 : Int) < (cap : Int) := by omega
    go_enter Try.func146, Try.ntmps146
    go_wp2
    go_ret3
    exact hoff.out

theorem strs_at {l : List Bs} {i : Nat} (h : i < l.length) : (strs l)[i]? = some (strv l[i]) := by simp [List.getElem?_eq_getElem h]
theorem lens_take (l : List Bs) (i : Nat) (h : i < l.length) : lens (l.take (i + 1)) = lens (l.take i) + l[i].length := by
  rw [List.take_succ_eq_append_getElem h]; unfold lens; rw [List.map_append, List.sum_append]; simp
theorem lens_take_le (l : List Bs) (i : Nat) : lens (l.take i) ≤ lens l := by
  conv => rhs; rw [← List.take_append_drop i l]
  unfold lens; rw [List.map_append, List.sum_append]; exact Nat.le_add_right _ _

/-- A loop that sums up how long the texts of a slice are reads them at such cells. -/
theorem strs_cell {w : World} {e : TypeId} {lv : Value} {l : List Bs} (h : OwnT w B e lv (strs l)) : ∃ A c, lv = .slice A l.length c ∧ ∀ i (hi : i < l.length), ∃ g2 off, A = some ⟨g2, off, none⟩ ∧ g2 < w.heap.size ∧ w.cell? ⟨g2, off + i, none⟩ = some (strv l[i]) := by
  obtain ⟨A, c, hv, hr⟩ := h.rd
  have hl : (strs l).length = l.length := List.length_map ..
  rw [hl] at hv hr
  refine ⟨A, c, hv, fun i hi => ?_⟩
  obtain ⟨g2, off, hA, hg, _, hc⟩ := hr.2 (by omega)
  exact ⟨g2, off, hA, hg, hc i _ (strs_at hi)⟩

set_option maxHeartbeats 1000000 in
set_option maxRecDepth 100000 in
theorem weight_any (fl : Bool) (hb : Blk w g T cs) (hq : QAt cs o q fl lv) (hown : OwnT w B 9 lv (strs q.ls)) (hll : q.ls.length ≤ 100000) (hls : lens q.ls ≤ 100000) :
    Calls Try.prog 135 #[.pointer (some ⟨g, o, none⟩)] w fun e w' => e = .returned (.int .i64 (paWt q)) ∧ w' = w := by
  have h64 : w.cell? ⟨g, o + 64, none⟩ = some (.int .i64 q.beg.length) := (hb.cell _).trans hq.spl.n
  have h66 : w.cell? ⟨g, o + 66, none⟩ = some lv := (hb.cell _).trans hq.lines
  have h67 : w.cell? ⟨g, o + 67, none⟩ = some (.bool q.ended) := (hb.cell _).trans hq.ended
  have hbl : q.beg.length ≤ 64 := hq.spl.le
  obtain ⟨A, c, rfl, hcell⟩ := strs_cell B hown
  replace hcell := Lib.hid hcell
  obtain ⟨b0, hb0⟩ : ∃ b0 : Nat, b0 = (if q.ended = true then 0 else q.beg.length) := ⟨_, rfl⟩
  have hw : paWt q = b0 + lens q.ls := by rw [hb0]; rfl
  have hb1 : b0 ≤ 64 := by rw [hb0]; split <;> omega
  rw [hw]
  have hloop : ∀ (ended : Bool), q.ended = ended → b0 = (if ended = true then 0 else q.beg.length) := fun e he => by rw [hb0, he]
  clear hb hq hown hw hb0
  generalize he : q.ended = ended at *
  have hb0 := hloop ended rfl
  clear hloop he
  cases ended
  all_goals
    simp only [Bool.false_eq_true, if_false, if_true] at hb0
    replace hb0 := Lib.hid hb0
    go_enter Try.func135, Try.ntmps135
    go_wp2
    go_loopw [3, 20] (fun n i wr => ∃ k : Nat, k ≤ q.ls.length ∧ i = .int .i64 k ∧ n = .int .i64 (b0 + lens (q.ls.take k) : Nat) ∧ wr = w) (fun _ i _ => q.ls.length - (intOf i).toNat)
    case atStart => exact ⟨0, Nat.zero_le _, rfl, by rw [hb0.out]; simp [lens], rfl⟩
    case round =>
      obtain ⟨k, hk, rfl, rfl, rfl⟩ := hrel
      by_cases hlt : k < q.ls.length
      · obtain ⟨g2, off, rfl, hg2, hc⟩ := hcell.out k hlt
        have hs := lens_take q.ls k hlt
        have hle := lens_take_le q.ls (k + 1)
        generalize q.ls[k] = x at *
        generalize lens (q.ls.take k) = n0 at *
        have hs := Lib.hid hs
        have hxl : (x.length : Int) ≤ 100000 := by have := hs.out; omega
        have hnl : (n0 : Int) ≤ 100000 := by have := hs.out; omega
        have hbs : (⟨x.toArray⟩ : ByteArray).size = x.length := by simp [ByteArray.size]
        go_wp2
        go_roundw
        case rel => exact ⟨k + 1, by omega, by go_num, by rw [hs.out]; go_num, trivial⟩
        case measure => simp [intOf]; omega
      · have hkl : k = q.ls.length := by omega
        have hfin : lens (q.ls.take k) = lens q.ls := by rw [hkl, List.take_length]
        replace hfin := Lib.hid hfin
        go_wp2
        go_ret
        rw [hfin.out]
        exact ⟨rfl, rfl⟩
end
end Go.Proofs.Ytkgmbomfkdkofaa
