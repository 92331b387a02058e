/- The contract of (*filter.Lines).End. -/
import Derived.Test.YtdhmlojodihjkaaDoorLinesFeed
namespace Go.Proofs.YtdhmlojodihjkaaDoor
open Go Go.RowKit

theorem rest_none (T : TypeId) (g o : Nat) (cs : Array Value) (f : Bool) (w : World) (hb : Blk w g T cs) (hs : SplAt cs o [] f) :
    Calls Tryd.prog 135 #[.pointer (some ⟨g, o, none⟩)] w fun e w' => e = .returned (.tuple #[.string ⟨#[]⟩, .bool false]) ∧ w = w' := by
  have hn : w.cell? ⟨g, o + 64, none⟩ = some (.int .i64 0) := (hb.cell _).trans hs.n
  clear hb hs
  go_enter Tryd.func135, Tryd.ntmps135
  go_wp2
  go_ret2
  exact ⟨rfl, rfl⟩

theorem rest_some (T : TypeId) (g o : Nat) (cs : Array Value) (beg : Bs) (f : Bool) (w : World) (hb : Blk w g T cs) (hs : SplAt cs o beg f) (hne : beg ≠ []) :
    Calls Tryd.prog 135 #[.pointer (some ⟨g, o, none⟩)] w fun e w' => ∃ cs', e = .returned (.tuple #[strv beg, .bool true]) ∧ Blk w' g T cs' ∧ SplAt cs' o [] f ∧
      (∀ i, i < o ∨ o + 66 ≤ i → cs'[i]? = cs[i]?) ∧ Chg (fun j => j = g) w w' := by
  have hn : w.cell? ⟨g, o + 64, none⟩ = some (.int .i64 beg.length) := (hb.cell _).trans hs.n
  have hf : w.frozen? ⟨g, o + 64, none⟩ = false := hb.frozen _
  have hlen : beg.length ≠ 0 := fun h => hne (List.eq_nil_of_length_eq_zero h)
  have hz : ((beg.length : Int) == 0) = false := by rw [beq_eq_false_iff_ne]; omega
  have hle : (beg.length : Int) ≤ 64 := by have := hs.le; omega
  have hb2 := hb.set (o + 64) (.int .i64 0)
  have hs2 := hs.fresh
  have hcv : (convert 22 9 (.slice (some ⟨g, o, none⟩) beg.length 64)).run Tryd.prog (w.setCell ⟨g, o + 64, none⟩ (.int .i64 0)) = .ok (strv beg) (w.setCell ⟨g, o + 64, none⟩ (.int .i64 0)) :=
    conv_str g o 64 beg (fun i x hx => by
      rw [hb2.cell, Array.getElem?_setIfInBounds_ne (by have := (List.getElem?_eq_some_iff.1 hx).1; have := hs.le; omega)]
      exact hs.got i x hx)
  have hch : Chg (fun j => j = g) w (w.setCell ⟨g, o + 64, none⟩ (.int .i64 0)) := (Chg.refl (fun j => j = g) w).setCell (p := ⟨g, o + 64, none⟩) (.inl rfl) _
  have hal := arrayLen_64
  clear hb hs hne
  go_enter Tryd.func135, Tryd.ntmps135
  go_wp2
  go_ret2
  exact ⟨_, rfl, hb2, hs2, fun i hi => Array.getElem?_setIfInBounds_ne (by omega), hch⟩

/-- What is asked of what a kind does at the end. -/
def LLast (P : Program) (k : LK) (g : Nat) (T : TypeId) (E : World → Prop) (lastV : Value) (X : k.τ → Array Value → Prop) : Prop :=
  (lastV = .nilFunc ∧ ∀ t, k.last t = ([], t)) ∨
  ∃ fL, lastV = .func (.func fL) #[.pointer (some ⟨g, 0, none⟩)] #[] ∧ (∀ args w, (callFunc fL args).run P w = .ok (.enter fL args) w) ∧ (∀ t, (k.last t).1.length ≤ 2) ∧
    (∀ w, (binOp .neq 84 (.func (.func fL) #[.pointer (some ⟨g, 0, none⟩)] #[]) .nilFunc).run P w = .ok (.bool true) w) ∧
    ∀ (t : k.τ) (cs : Array Value) (w : World), Blk w g T cs → X t cs → E w →
      Calls P fL #[.pointer (some ⟨g, 0, none⟩)] w fun e w' => ∃ v cs', e = .returned v ∧ Blk w' g T cs' ∧ X (k.last t).2 cs' ∧ (∀ i, i < 71 → cs'[i]? = cs[i]?) ∧
        Chg (fun j => j = g) w w' ∧ OutsAt w' (fun j => w.heap.size ≤ j) v (k.last t).1

section
variable {k : LK} {g B : Nat} {T : TypeId} {E : World → Prop} {fE : FuncId} {lastV : Value} {X : k.τ → Array Value → Prop}

/-- Behind the begun line: what End knows then. -/
structure EndMid (k : LK) (g B : Nat) (T : TypeId) (E : World → Prop) (fE : FuncId) (lastV : Value) (X : k.τ → Array Value → Prop) (w : World) (o : Outs) (t : k.τ) (v : Value) (w1 : World) : Prop where
  blk : ∃ cs, Blk w1 g T cs ∧ LCells cs false [] (eachFn fE g) lastV ∧ X t cs
  chg : Chg (fun j => j = g) w w1
  env : E w1
  size : B ≤ w1.heap.size
  its : ∃ its : List (Int × Value × Bs), o = its.map (fun t => (t.1, t.2.2)) ∧ w1.ownsRow w.heap.size 114 2 v o.length (its.flatMap fun t => [.int .i64 t.1, t.2.1]) ∧
      ∀ t ∈ its, BsAt w1 (fun j => w.heap.size ≤ j ∧ v.ownBlock ≠ some j) t.2.1 t.2.2
  few : o.length ≤ 1000000

/-- The last part of End: what comes at the end, if there is something; then it has ended. -/
def endTail (k : LK) (o : Outs) (t : k.τ) : Outs × Int × LS k.τ := (o ++ (k.last t).1, 0, { over := true, beg := [], t := (k.last t).2 })

theorem lcells_over {cs : Array Value} {beg : Bs} (h : LCells cs false beg (eachFn fE g) lastV) : LCells (cs.setIfInBounds 2 (.bool true)) true beg (eachFn fE g) lastV := by
  have hsz : 70 < cs.size := (Array.getElem?_eq_some_iff.1 h.last).1
  have hget : ∀ i, i ≠ 2 → (cs.setIfInBounds 2 (.bool true))[i]? = cs[i]? := fun i hne => by rw [Array.getElem?_setIfInBounds_ne (by omega)]
  obtain ⟨f, hs, _⟩ := h.spl
  exact ⟨(hget 0 (by omega)).trans h.at_, (hget 1 (by omega)).trans h.more, Array.getElem?_setIfInBounds_self_of_lt (by omega), ⟨f, hs.far (fun i h3 h68 => hget i (by omega)), fun h => by cases h⟩,
    (hget 69 (by omega)).trans h.each, (hget 70 (by omega)).trans h.last⟩

theorem fin_mid {k : LK} {s : LS k.τ} {port : Int} (h1 : s.over = false) (h2 : port = 0) : k.fin s port = endTail k (if s.beg = [] then ([], s.t) else k.each s.t s.beg).1 (if s.beg = [] then ([], s.t) else k.each s.t s.beg).2 := by
  unfold LK.fin
  rw [if_neg (by rw [h1]; decide), if_neg (by simp [h2])]
  rfl

theorem mid_of_each {w w1 : World} {cs : Array Value} {t : k.τ} {beg : Bs} {e : Ending} (hc : LCells cs false [] (eachFn fE g) lastV) (hw : Chg (fun j => j = g) w w1)
    (hfew : (k.each t beg).1.length ≤ 2) {w2 : World} (h : EachPost k g B T E X cs w1 (eachAll k t [beg]) e w2) : ∃ v, e = .returned v ∧ EndMid k g B T E fE lastV X w (k.each t beg).1 (k.each t beg).2 v w2 := by
  obtain ⟨v, cs2, rfl, hb2, hX2, hout2, hch2, hE2, hB2, its, hits, hown2, hbs2⟩ := h
  simp only [eachAll, List.append_nil] at hX2 hits hown2
  have hs := hw.size
  refine ⟨v, rfl, ⟨cs2, hb2, hc.far hout2, hX2⟩, hw.trans hch2 (fun _ h _ => h), hE2, hB2, ⟨its, hits, ?_, fun t ht => (hbs2 t ht).mono (fun j hj _ => ⟨by omega, hj.2⟩)⟩, by omega⟩
  refine ⟨hown2.1, ?_⟩
  rcases hown2.2 with h | ⟨g', cap, cur, hv, hg', r⟩
  · exact .inl h
  · exact .inr ⟨g', cap, cur, hv, by omega, r⟩

theorem end_close_nil (H : LWalk Tryd.prog k g B T E fE lastV X) (hl : ∀ t, k.last t = ([], t)) {w w1 : World} {o : Outs} {t : k.τ} {v : Value} (hg : g < w.heap.size) (hm : EndMid k g B T E fE lastV X w o t v w1) :
    AnsPost k g B T E fE lastV X w (endTail k o t) (.returned (.tuple #[v, .int .i64 0])) (w1.setCell ⟨g, 2, none⟩ (.bool true)) := by
  obtain ⟨⟨cs, hb, hc, hX⟩, hch, hE, hB, ⟨its, hits, hown, hbs⟩, _⟩ := hm
  have hs := hch.size
  have hc2 : Chg (fun j => j = g) w1 (w1.setCell ⟨g, 2, none⟩ (.bool true)) := (Chg.refl (fun j => j = g) w1).setCell (p := ⟨g, 2, none⟩) (.inl rfl) _
  have e : endTail k o t = (o, 0, { over := true, beg := [], t := t }) := by simp [endTail, hl]
  rw [e]
  exact ⟨v, rfl, ⟨_, hb.set _ _, lcells_over hc, H.far _ _ _ (fun i hi => Array.getElem?_setIfInBounds_ne (by omega)) hX⟩, hch.trans hc2 (fun _ h _ => h), H.env _ _ ((Below.refl _ _).setCell (p := ⟨g, 2, none⟩) H.le _) hE, by simpa [World.setCell] using hB,
    (outs_of_own hits hown hbs (fun j hj => hj.1)).chg hc2 (fun j hj _ e => by omega)⟩

theorem end_close_fn (H : LWalk Tryd.prog k g B T E fE lastV X) {w w1 w2 w3 : World} {o o2 : Outs} {t t2 : k.τ} {v v3 : Value} {cs2 : Array Value} {its2 : List (Int × Value × Bs)} (hg : g < w.heap.size) (hm : EndMid k g B T E fE lastV X w o t v w1)
    (hlast : k.last t = (o2, t2)) (hcs : ∃ cs, Blk w1 g T cs ∧ LCells cs false [] (eachFn fE g) lastV ∧ ∀ i, i < 71 → cs2[i]? = cs[i]?) (hb2 : Blk w2 g T cs2) (hX2 : X t2 cs2) (hch2 : Chg (fun j => j = g) w1 w2) (hits2 : o2 = its2.map (fun t => (t.1, t.2.2)))
    (hbs2 : ∀ t ∈ its2, BsAt w2 (fun j => w1.heap.size ≤ j) t.2.1 t.2.2) (hits : ∃ its : List (Int × Value × Bs), o = its.map (fun t => (t.1, t.2.2)) ∧ (∀ t ∈ its, BsAt w1 (fun j => w.heap.size ≤ j ∧ v.ownBlock ≠ some j) t.2.1 t.2.2) ∧
      w3.ownsRow w.heap.size 114 2 v3 (o.length + o2.length) ((its.flatMap fun t => [.int .i64 t.1, t.2.1]) ++ (its2.flatMap fun t => [.int .i64 t.1, t.2.1])))
    (hg3 : w2.grownBy w3 v.ownBlock) (hv : ∀ j, v.ownBlock = some j → w.heap.size ≤ j ∧ j < w1.heap.size) :
    AnsPost k g B T E fE lastV X w (endTail k o t) (.returned (.tuple #[v3, .int .i64 0])) (w3.setCell ⟨g, 2, none⟩ (.bool true)) := by
  obtain ⟨its, hit, hbs, hown3⟩ := hits
  obtain ⟨cs, hb1, hc1, hcc⟩ := hcs
  have hs := hm.chg.size
  have hs2 := hch2.size
  have hs3 := hg3.size
  have hvg : v.ownBlock ≠ some g := fun e => by have := (hv g e).1; omega
  have hc3 : Chg (fun j => v.ownBlock = some j) w2 w3 := (Chg.refl _ _).grown hg3 (fun j e => .inl e)
  have hc4 : Chg (fun j => j = g) w3 (w3.setCell ⟨g, 2, none⟩ (.bool true)) := (Chg.refl (fun j => j = g) w3).setCell (p := ⟨g, 2, none⟩) (.inl rfl) _
  have hb3 : Blk w3 g T cs2 := hb2.grown hg3 (Ne.symm hvg)
  have e : endTail k o t = (o ++ o2, 0, { over := true, beg := [], t := t2 }) := by simp [endTail, hlast]
  rw [e]
  have hcA : Chg (fun j => j = g) w w3 := (hm.chg.trans hch2 (fun _ h _ => h)).grown hg3 (fun j e => .inr (hv j e).1)
  refine ⟨v3, rfl, ⟨_, hb3.set _ _, lcells_over (hc1.far hcc), H.far _ _ _ (fun i hi => Array.getElem?_setIfInBounds_ne (by omega)) hX2⟩, hcA.trans hc4 (fun _ h _ => h), ?_, by have := hm.size; simp [World.setCell]; omega, ?_⟩
  · have h1 : E w2 := H.env _ _ (hch2.below (by have := hm.size; omega) (fun j e => by rw [e]; exact H.le)) hm.env
    have h2 : E w3 := H.env _ _ (below_grownBy hg3 (B := B) (by have := hm.size; omega) (fun j e => by have := (hv j e).1; have := H.le; omega)) h1
    exact H.env _ _ ((Below.refl _ _).setCell (p := ⟨g, 2, none⟩) H.le _) h2
  · have ho : OutsAt w3 (fun j => w.heap.size ≤ j) v3 (o ++ o2) := by
      refine outs_of_own (its := its ++ its2) (by simp [hit, hits2]) (by simpa using hown3) (D := fun j => w.heap.size ≤ j) (fun t ht => ?_) (fun j hj => hj)
      rcases List.mem_append.1 ht with ht | ht
      · exact (((hbs t ht).chg hch2 (fun j hj _ e => by have := hj.1; omega)).chg hc3 (fun j hj _ e => hj.2 e)).mono (fun j hj _ => hj.1)
      · exact ((hbs2 t ht).chg hc3 (fun j hj _ e => by have := (hv j e).2; omega)).mono (fun j hj _ => by omega)
    exact ho.chg hc4 (fun j hj _ e => by omega)

set_option maxHeartbeats 1000000 in
set_option maxRecDepth 100000 in
theorem end_any (H : LWalk Tryd.prog k g B T E fE lastV X) (HL : LLast Tryd.prog k g T E lastV X) (port : Int) (s : LS k.τ) (w : World) (hs : LInv k g T fE lastV X w s) (hE : E w) :
    Calls Tryd.prog 128 #[.pointer (some ⟨g, 0, none⟩), .int .i64 port] w (AnsPost k g B T E fE lastV X w (k.fin s port)) := by
  have hs0 := hs
  obtain ⟨cs, hb, hc, hX⟩ := hs
  have h0 : w.cell? ⟨g, 0, none⟩ = some (.int .i64 0) := (hb.cell _).trans hc.at_
  have h1 : w.cell? ⟨g, 1, none⟩ = some (.bool false) := (hb.cell _).trans hc.more
  have h2 : w.cell? ⟨g, 2, none⟩ = some (.bool s.over) := (hb.cell _).trans hc.ov
  obtain ⟨ov, beg, t⟩ := s
  simp only at hc hX h2
  by_cases ho : ov = true
  · subst ho
    have e : k.fin ⟨true, beg, t⟩ port = ([], 4, ⟨true, beg, t⟩) := by unfold LK.fin; rw [if_pos rfl]
    rw [e]
    clear hb hc hX
    go_enter Tryd.func128, Tryd.ntmps128
    go_wp2
    go_ret2
    exact ansPost_same H hs0 hE
  · have ho' : ov = false := by simpa using ho
    subst ho'
    by_cases hp : port = 0
    · subst hp
      rw [fin_mid rfl rfl]
      obtain ⟨f0, hspl, hf0⟩ := hc.spl
      obtain rfl := hf0 rfl
      have hgl := hb.lt
      have hgB := H.le
      -- what is known behind the begun line, at whatever world
      have mid : ∀ (w1 : World) (cs1 : Array Value), Blk w1 g T cs1 → SplAt cs1 3 [] false → (∀ i, i < 3 ∨ 3 + 66 ≤ i → cs1[i]? = cs[i]?) → LCells cs1 false [] (eachFn fE g) lastV ∧ X t cs1 := fun w1 cs1 _ hs1 hout1 =>
        ⟨⟨(hout1 0 (by omega)).trans hc.at_, (hout1 1 (by omega)).trans hc.more, (hout1 2 (by omega)).trans hc.ov, ⟨false, hs1, fun _ => rfl⟩, (hout1 69 (by omega)).trans hc.each, (hout1 70 (by omega)).trans hc.last⟩,
          H.far t cs cs1 (fun i hi => hout1 i (by omega)) hX⟩
      have hnilneq : ∀ w, (binOp .neq 84 .nilFunc .nilFunc).run Tryd.prog w = .ok (.bool false) w := fun _ => by kernel_rfl
      by_cases hbeg : beg = []
      · subst hbeg
        have hm := mid w cs hb hspl (fun _ _ => rfl)
        have hmid : EndMid k g B T E fE lastV X w [] t (.slice none 0 0) w := ⟨⟨cs, hb, hm.1, hX⟩, Chg.refl _ _, hE, by omega, ⟨[], rfl, World.ownsRow_nil _ _ _ _, fun _ h => by cases h⟩, by simp⟩
        have hrest := rest_none T g 3 cs false w hb hspl
        simp only [if_true]
        rcases HL with ⟨rfl, hl⟩ | ⟨fL, rfl, hentL, hfew, hneq, hLast⟩
        · have h70 : w.cell? ⟨g, 70, none⟩ = some .nilFunc := (hb.cell _).trans hc.last
          have hfz := hb.frozen 2
          have hfin := end_close_nil H hl hgl hmid
          clear hb hc hX mid hm hmid hspl hs0
          go_enter Tryd.func128, Tryd.ntmps128
          go_wp2_with (first
            | (go_at_call 134; go_in)
            | (go_at_call 135; refine hrest.mono ?_; rintro e1 w1 ⟨rfl, rfl⟩)
            | (go_at_call 137; go_in)
            | (go_at_call 133; go_in))
          go_end0
          go_wp2
          go_ret2
          exact hfin
        · have h70 : w.cell? ⟨g, 70, none⟩ = some (.func (.func fL) #[.pointer (some ⟨g, 0, none⟩)] #[]) := (hb.cell _).trans hc.last
          have hfz := hb.frozen 2
          obtain ⟨i0, hi0, hz0, hz1, hz2⟩ := info_parts info_out
          have hfewt := hfew t
          have hcA := hm.1
          clear hc mid hm hspl hs0 hnilneq
          go_enter Tryd.func128, Tryd.ntmps128
          go_wp2_with (first
            | (go_at_call 134; go_in)
            | (go_at_call 135; refine hrest.mono ?_; rintro e1 w1 ⟨rfl, rfl⟩)
            | (go_at_call 137; go_in)
            | (refine (hLast t cs w hb hX hE).mono ?_
               rintro e3 w3 ⟨v3, cs3, rfl, hb3, hX3, hout3, hch3, ho3⟩
               obtain ⟨A3, c3, its3, rfl, hits3', hr3, hi3⟩ := ho3
               have hits3 := Lib.hid hits3'
               clear hits3'
               have hch3s := hch3.size)
            | (at_builtin
               refine wpList_append_rd _ rfl (.tmp 42) (.tmp 47) 92 rfl w.heap.size 114 i0 _ 2 32 Tryd.underlying92 hi0 hz0 hz1 hz2 rfl (by omega) (.slice none 0 0) 0 [] rfl
                 (World.ownsRow_nil _ _ _ _) _ A3 (k.last t).1.length c3 _ rfl hr3 (items_one hi3) (by simp only [maxLen]; omega) (by omega) (by omega) ?_
               intro v4 w4 hown4 hg4 _
               have hb4 : w4.cell? ⟨g, 2, none⟩ = some (.bool false) := ((hb3.grown hg4 (by simp [Value.ownBlock])).cell _).trans ((hout3 2 (by omega)).trans hcA.ov)
               have hf4 : w4.frozen? ⟨g, 2, none⟩ = false := (hb3.grown hg4 (by simp [Value.ownBlock])).frozen _)
            | (go_at_call 133; go_in))
          go_end0
          go_wp2
          go_ret2
          exact end_close_fn H hgl hmid rfl ⟨cs, hb, hcA, hout3⟩ hb3 hX3 hch3 hits3.out hi3 ⟨[], rfl, (fun _ h => by cases h), hown4⟩ hg4 (fun j e => by simp [Value.ownBlock] at e)
      · have hrest := rest_some T g 3 cs beg false w hb hspl hbeg
        simp only [if_neg hbeg]
        have hbl := hspl.le
        have hshort := H.short t beg
        have hgD : ∀ w1 : World, Chg (fun j => j = g) w w1 → w1.heap.size ≠ g := fun w1 h => by have := h.size; omega
        rcases HL with ⟨rfl, hl⟩ | ⟨fL, rfl, hentL, hfew, hneq, hLast⟩
        · have h70 : cs[70]? = some .nilFunc := hc.last
          have hfin := fun o v w1 => end_close_nil H hl (w := w) (w1 := w1) (o := o) (t := (k.each t beg).2) (v := v) hgl
          clear hb hc hX hspl hs0
          go_enter Tryd.func128, Tryd.ntmps128
          go_wp2_with (first
            | (go_at_call 134; go_in)
            | (go_at_call 135; refine hrest.mono ?_; rintro e1 w1 ⟨cs1, rfl, hb1, hs1, hout1, hch1⟩; have hm1 := mid w1 cs1 hb1 hs1 hout1; have hgd1 := hgD w1 hch1)
            | (go_at_call 136
               refine (each_any k g B T E fE _ X H (fun j => j = w1.heap.size) _ 1 [beg] t cs1 _ (hb1.alloc _) hm1.1.ov hm1.1.each hm1.2 (H.env _ _ ((Below.refl B w1).alloc (by have := hch1.size; omega) _) (H.env _ _ (hch1.below (by omega) (fun j e => by rw [e]; exact hgB)) hE))
                 ⟨rfl, fun _ => ⟨w1.heap.size, 0, rfl, by simp, rfl, fun j u hu => by rw [Nat.zero_add, cell_of_row _ _ j _ _ (0, 0) (heap_alloc_new w1 _)]; simpa using hu⟩⟩ (fun j hj => by omega) (by simp) (by simpa using hbl)).mono ?_
               intro e2 w2 h2
               obtain ⟨v2, rfl, hm2⟩ := mid_of_each (lastV := .nilFunc) hm1.1 (hch1.alloc _) hshort h2
               have hcell2 : w2.cell? ⟨g, 2, none⟩ = some (.bool false) ∧ w2.frozen? ⟨g, 2, none⟩ = false ∧ w2.cell? ⟨g, 70, none⟩ = some .nilFunc := by
                 obtain ⟨cs2, hb2, hc2, _⟩ := hm2.blk
                 exact ⟨(hb2.cell _).trans hc2.ov, hb2.frozen _, (hb2.cell _).trans hc2.last⟩
               obtain ⟨hq1, hq2, hq3⟩ := hcell2)
            | (go_at_call 137; go_in)
            | (go_at_call 133; go_in))
          go_end0
          go_wp2
          go_ret2
          exact hfin _ _ _ hm2
        · have h70 : cs[70]? = some (.func (.func fL) #[.pointer (some ⟨g, 0, none⟩)] #[]) := hc.last
          obtain ⟨i0, hi0, hz0, hz1, hz2⟩ := info_parts info_out
          have hfewt := hfew (k.each t beg).2
          clear hb hc hX hspl hs0 hnilneq
          go_enter Tryd.func128, Tryd.ntmps128
          go_wp2_with (first
            | (go_at_call 134; go_in)
            | (go_at_call 135; refine hrest.mono ?_; rintro e1 w1 ⟨cs1, rfl, hb1, hs1, hout1, hch1⟩; have hm1 := mid w1 cs1 hb1 hs1 hout1; have hgd1 := hgD w1 hch1)
            | (go_at_call 136
               refine (each_any k g B T E fE _ X H (fun j => j = w1.heap.size) _ 1 [beg] t cs1 _ (hb1.alloc _) hm1.1.ov hm1.1.each hm1.2 (H.env _ _ ((Below.refl B w1).alloc (by have := hch1.size; omega) _) (H.env _ _ (hch1.below (by omega) (fun j e => by rw [e]; exact hgB)) hE))
                 ⟨rfl, fun _ => ⟨w1.heap.size, 0, rfl, by simp, rfl, fun j u hu => by rw [Nat.zero_add, cell_of_row _ _ j _ _ (0, 0) (heap_alloc_new w1 _)]; simpa using hu⟩⟩ (fun j hj => by omega) (by simp) (by simpa using hbl)).mono ?_
               intro e2 w2 h2
               obtain ⟨v2, rfl, hm2⟩ := mid_of_each (lastV := .func (.func fL) #[.pointer (some ⟨g, 0, none⟩)] #[]) hm1.1 (hch1.alloc _) hshort h2
               obtain ⟨cs2, hb2, hc2, hX2⟩ := hm2.blk
               obtain ⟨its2, hits2', hown2, hbs2⟩ := hm2.its
               have hits2 := Lib.hid hits2'
               clear hits2'
               have hsz2 := hm2.chg.size
               have hq1 : w2.cell? ⟨g, 2, none⟩ = some (.bool false) := (hb2.cell _).trans hc2.ov
               have hq3 : w2.cell? ⟨g, 70, none⟩ = some (.func (.func fL) #[.pointer (some ⟨g, 0, none⟩)] #[]) := (hb2.cell _).trans hc2.last)
            | (go_at_call 137; go_in)
            | (refine (hLast (k.each t beg).2 cs2 w2 hb2 hX2 hm2.env).mono ?_
               rintro e3 w3 ⟨v3, cs3, rfl, hb3, hX3, hout3, hch3, ho3⟩
               obtain ⟨A3, c3, its3, rfl, hits3', hr3, hi3⟩ := ho3
               have hits3 := Lib.hid hits3'
               clear hits3'
               have hch3s := hch3.size)
            | (at_builtin
               refine wpList_append_rd _ rfl (.tmp 42) (.tmp 47) 92 rfl w.heap.size 114 i0 _ 2 32 Tryd.underlying92 hi0 hz0 hz1 hz2 rfl (by omega) v2 (k.each t beg).1.length (its2.flatMap fun t => [.int .i64 t.1, t.2.1]) rfl
                 (ownsRow_chg hown2 hch3 (fun j e h => by have := (hown2.lt j e).1; omega)) _ A3 (k.last (k.each t beg).2).1.length c3 _ rfl hr3 (items_one hi3) (by simp only [maxLen]; omega) (by omega) (by omega) ?_
               intro v4 w4 hown4 hg4 _
               have hvg : some g ≠ v2.ownBlock := fun e => by have := (hown2.lt g e.symm).1; omega
               have hb4 : w4.cell? ⟨g, 2, none⟩ = some (.bool false) := ((hb3.grown hg4 hvg).cell _).trans ((hout3 2 (by omega)).trans hc2.ov)
               have hf4 : w4.frozen? ⟨g, 2, none⟩ = false := (hb3.grown hg4 hvg).frozen _)
            | (go_at_call 133; go_in))
          go_end0
          go_wp2
          go_ret2
          exact end_close_fn H hgl hm2 rfl ⟨cs2, hb2, hc2, hout3⟩ hb3 hX3 hch3 hits3.out hi3 ⟨its2, hits2.out, hbs2, hown4⟩ hg4 (fun j e => hown2.lt j e)
    · have e : k.fin ⟨false, beg, t⟩ port = ([], 1, ⟨false, beg, t⟩) := by simp [LK.fin, hp]
      rw [e]
      have hp1 : (port == 0) = false := by simpa using hp
      have hp2 : (port != 0) = true := by simpa using hp
      clear hb hc hX
      go_enter Tryd.func128, Tryd.ntmps128
      go_wp2
      go_ret2
      exact ansPost_same H hs0 hE
end
end Go.Proofs.YtdhmlojodihjkaaDoor
