/- The contract of (*filter.Lines).each: what comes of lines, one by one. -/
import Derived.Test.YtdhmlojodihjkaaDoorTell
import Derived.Test.YtdhmlojodihjkaaDoorApp
import Derived.Lib.Hide
namespace Go.Proofs.YtdhmlojodihjkaaDoor
open Go Go.RowKit

/-- The cells of a machine of lines: its base, its splitter, its functions. -/
structure LCells (cs : Array Value) (over : Bool) (beg : Bs) (eachV lastV : Value) : Prop where
  at_ : cs[0]? = some (.int .i64 0)
  more : cs[1]? = some (.bool false)
  ov : cs[2]? = some (.bool over)
  spl : ∃ f, SplAt cs 3 beg f ∧ (over = false → f = false)
  each : cs[69]? = some eachV
  last : cs[70]? = some lastV
theorem LCells.far {cs cs' : Array Value} {over : Bool} {beg : Bs} {eachV lastV : Value} (h : LCells cs over beg eachV lastV) (hc : ∀ i, i < 71 → cs'[i]? = cs[i]?) : LCells cs' over beg eachV lastV := by
  obtain ⟨f, hs, hf⟩ := h.spl
  exact ⟨(hc 0 (by omega)).trans h.at_, (hc 1 (by omega)).trans h.more, (hc 2 (by omega)).trans h.ov,
    ⟨f, ⟨hs.le, fun i x hx => (hc _ (by have := (List.getElem?_eq_some_iff.1 hx).1; have := hs.le; omega)).trans (hs.got i x hx), fun i hi => by rw [hc _ (by omega)]; exact hs.all i hi, (hc _ (by omega)).trans hs.n, (hc _ (by omega)).trans hs.failed⟩, hf⟩,
    (hc 69 (by omega)).trans h.each, (hc 70 (by omega)).trans h.last⟩

/-- What is asked of the functions of a kind of machines of lines, whose machine lies in block g. -/
structure LWalk (P : Program) (k : LK) (g B : Nat) (T : TypeId) (E : World → Prop) (fE : FuncId) (lastV : Value) (X : k.τ → Array Value → Prop) : Prop where
  far : ∀ t cs cs', (∀ i, 71 ≤ i → cs'[i]? = cs[i]?) → X t cs → X t cs'
  env : ∀ w w', Below B w w' → E w → E w'
  le : B ≤ g
  ty : T ≠ 114
  enters : ∀ args w, (callFunc fE args).run P w = .ok (.enter fE args) w
  short : ∀ t l, (k.each t l).1.length ≤ 2
  each : ∀ (t : k.τ) (cs : Array Value) (l : Bs) (w : World), Blk w g T cs → X t cs → l.length ≤ 64 → E w →
    Calls P fE #[.pointer (some ⟨g, 0, none⟩), strv l] w fun e w' => ∃ v cs', e = .returned v ∧ Blk w' g T cs' ∧ X (k.each t l).2 cs' ∧ (∀ i, i < 71 → cs'[i]? = cs[i]?) ∧
      Chg (fun j => j = g) w w' ∧ OutsAt w' (fun j => w.heap.size ≤ j) v (k.each t l).1

def eachFn (fE : FuncId) (g : Nat) : Value := .func (.func fE) #[.pointer (some ⟨g, 0, none⟩)] #[]

theorem info_out : (Tryd.prog.info? 114).map (fun i => (i.zero, i.size, i.bytes)) = some (some (.agg #[.int .i64 0, .slice none 0 0]), 2, 32) := by kernel_rfl

theorem items_one {its : List (Int × Value × Bs)} {w : World} {D : Nat → Prop} (h : ∀ t ∈ its, BsAt w D t.2.1 t.2.2) : ∀ u ∈ its.flatMap (fun t => [Value.int .i64 t.1, t.2.1]), u.oneCell' = true := by
  intro u hu
  obtain ⟨t, ht, hu⟩ := List.mem_flatMap.1 hu
  obtain ⟨A, c, e, _⟩ := h t ht
  simp at hu
  rcases hu with rfl | rfl
  · rfl
  · rw [e]; rfl

def EachPost (k : LK) (g B : Nat) (T : TypeId) (E : World → Prop) (X : k.τ → Array Value → Prop) (cs : Array Value) (w : World) (r : Outs × k.τ) (e : Ending) (w' : World) : Prop :=
  ∃ v cs', e = .returned v ∧ Blk w' g T cs' ∧ X r.2 cs' ∧ (∀ i, i < 71 → cs'[i]? = cs[i]?) ∧ Chg (fun j => j = g) w w' ∧ E w' ∧ B ≤ w'.heap.size ∧
    ∃ its : List (Int × Value × Bs), r.1 = its.map (fun t => (t.1, t.2.2)) ∧ w'.ownsRow w.heap.size 114 2 v r.1.length (its.flatMap fun t => [.int .i64 t.1, t.2.1]) ∧
      ∀ t ∈ its, BsAt w' (fun j => w.heap.size ≤ j ∧ v.ownBlock ≠ some j) t.2.1 t.2.2

theorem eachAll_short {P : Program} {k : LK} {g B : Nat} {T : TypeId} {E : World → Prop} {fE : FuncId} {lastV : Value} {X : k.τ → Array Value → Prop} (H : LWalk P k g B T E fE lastV X) (l : List Bs) :
    ∀ t, (eachAll k t l).1.length ≤ 2 * l.length := by
  induction l with
  | nil => intro t; simp [eachAll]
  | cons x r ih =>
    intro t
    have h1 := ih (k.each t x).2
    have h2 := H.short t x
    simp only [eachAll, List.length_append, List.length_cons]
    omega

set_option maxHeartbeats 1000000 in
set_option maxRecDepth 100000 in
theorem each_any (k : LK) (g B : Nat) (T : TypeId) (E : World → Prop) (fE : FuncId) (lastV : Value) (X : k.τ → Array Value → Prop) (H : LWalk Tryd.prog k g B T E fE lastV X)
    (D : Nat → Prop) (A : Option Addr) (c : Nat) (l : List Bs) (t : k.τ) (cs : Array Value) (w : World)
    (hb : Blk w g T cs) (hc2 : cs[2]? = some (.bool false)) (hc69 : cs[69]? = some (eachFn fE g)) (hX : X t cs) (hE : E w) (hr : Rd w D 1 A l.length (l.map strv)) (hD : ∀ j, D j → j ≠ g) (hl : l.length ≤ 1000000) (hl64 : ∀ x ∈ l, x.length ≤ 64) :
    Calls Tryd.prog 136 #[.pointer (some ⟨g, 0, none⟩), .slice A l.length c] w (EachPost k g B T E X cs w (eachAll k t l)) := by
  obtain ⟨i0, hi0, hz0, hz1, hz2⟩ := info_parts info_out
  have hent := H.enters
  go_enter Tryd.func136, Tryd.ntmps136
  go_wp2
  go_loopw [10, 5] (fun i v wr => ∃ (m : Nat) (csr : Array Value) (its : List (Int × Value × Bs)), m ≤ l.length ∧ i = .int .i64 m ∧ Blk wr g T csr ∧ X (eachAll k t (l.take m)).2 csr ∧ (∀ i, i < 71 → csr[i]? = cs[i]?) ∧ Chg (fun j => j = g) w wr ∧ E wr ∧
      (eachAll k t (l.take m)).1 = its.map (fun t => (t.1, t.2.2)) ∧ wr.ownsRow w.heap.size 114 2 v (eachAll k t (l.take m)).1.length (its.flatMap fun t => [.int .i64 t.1, t.2.1]) ∧
      ∀ t ∈ its, BsAt wr (fun j => w.heap.size ≤ j ∧ v.ownBlock ≠ some j) t.2.1 t.2.2)
    (fun i _ _ => l.length - (intOf i).toNat)
  case atStart => exact ⟨0, cs, [], Nat.zero_le _, rfl, hb, hX, fun _ _ => rfl, Chg.refl _ _, hE, rfl, by simpa [eachAll] using World.ownsRow_nil w _ _ _, fun _ h => by cases h⟩
  case round =>
    obtain ⟨m, csr, its, hm, rfl, hbr, hXr, hout, hch, hEr, hits, hown, hbs⟩ := hrel
    by_cases hlt : m < l.length
    · obtain ⟨b', off, u, rfl, hb1, hb2, hu, hcell0⟩ := hr.at_ hlt
      have hux : u = strv l[m] := by
        simp only [List.getElem?_map, List.getElem?_eq_getElem hlt, Option.map_some, Option.some.injEq] at hu
        exact hu.symm
      subst hux
      have hcell : wr.cell? ⟨b', off + m, none⟩ = some (strv l[m]) := (hch.cell (p := ⟨b', off + m, none⟩) hb1 (hD _ hb2)).trans hcell0
      have h2 : wr.cell? ⟨g, 2, none⟩ = some (.bool false) := (hbr.cell _).trans ((hout 2 (by omega)).trans hc2)
      have h69 : wr.cell? ⟨g, 69, none⟩ = some (eachFn fE g) := (hbr.cell _).trans ((hout 69 (by omega)).trans hc69)
      unfold eachFn at h69
      have hx64 : l[m].length ≤ 64 := hl64 _ (List.getElem_mem hlt)
      have hsnoc : eachAll k t (l.take (m + 1)) = ((eachAll k t (l.take m)).1 ++ (k.each (eachAll k t (l.take m)).2 l[m]).1, (k.each (eachAll k t (l.take m)).2 l[m]).2) := by
        rw [List.take_succ_eq_append_getElem hlt, eachAll_append]
        simp [eachAll]
      have hshort := eachAll_short H (l.take m) t
      have hshort2 := H.short (eachAll k t (l.take m)).2 l[m]
      have htl : (l.take m).length = m := by simp; omega
      generalize hx : l[m] = x at *
      generalize hea : eachAll k t (l.take m) = ea at *
      obtain ⟨o1, t1⟩ := ea
      simp only at hXr hits hown hshort hshort2 hsnoc
      clear hcell0 hu
      have hits' := Lib.hid hits
      have hsnoc' := Lib.hid hsnoc
      clear hits hsnoc
      have hsz := hch.size
      have hgw := hb.lt
      go_wp2_with (first
        | (go_at_call 137; go_in)
        | (refine (H.each t1 csr x wr hbr hXr hx64 hEr).mono ?_
           rintro e w1 ⟨v1, cs1, rfl, hb1', hX1, hout1, hch1, ho1⟩
           obtain ⟨A1, c1, its1, rfl, hl1', hr1, hi1⟩ := ho1
           have hl1 := Lib.hid hl1'
           clear hl1')
        | (at_builtin
           refine wpList_append_rd _ rfl (.tmp 18) (.tmp 24) 92 rfl w.heap.size 114 i0 _ 2 32 Tryd.underlying92 hi0 hz0 hz1 hz2 rfl (by omega) u5 o1.length (its.flatMap fun t => [.int .i64 t.1, t.2.1]) rfl
             (ownsRow_chg hown hch1 (fun j e h => by have := (hown.lt j e).1; omega)) _ A1 (k.each t1 x).1.length c1 _ rfl hr1 (items_one hi1) (by simp only [maxLen]; omega) (by omega) (by have := hch1.size; omega) ?_
           intro v2 w2 hown2 hg2 hat2))
      go_roundw
      case rel =>
        have hsnoc := hsnoc'.out
        have hits := hits'.out
        have hl1 := hl1.out
        have hug : ∀ j, u5.ownBlock = some j → w.heap.size ≤ j ∧ j < wr.heap.size := fun j e => ⟨(hown.lt j e).1, (hown.lt j e).2⟩
        have hgu : u5.ownBlock ≠ some g := fun e => by have := (hug g e).1; omega
        have hc2 : Chg (fun j => u5.ownBlock = some j) w1 w2 := (Chg.refl _ _).grown hg2 (fun j e => .inl e)
        refine ⟨m + 1, cs1, its ++ its1, by omega, by go_num, hb1'.grown hg2 (Ne.symm hgu), ?_, ?_, ?_, ?_, ?_, ?_, ?_⟩
        · rw [hsnoc]; exact hX1
        · intro i hi; exact (hout1 i hi).trans (hout i hi)
        · exact (hch.trans hch1 (fun _ h _ => h)).grown hg2 (fun j e => .inr (hug j e).1)
        · exact H.env _ _ (below_grownBy hg2 (B := B) (by have := H.le; have := hch1.size; omega) (fun j e => by have := (hug j e).1; have := H.le; omega)) (H.env _ _ (hch1.below (by have := H.le; omega) (fun j e => by rw [e]; exact H.le)) hEr)
        · rw [hsnoc]; simp [hits, hl1]
        · rw [hsnoc]; simpa using hown2
        · have hnew : ∀ j, v2.ownBlock = some j → u5.ownBlock = some j ∨ j = w1.heap.size := fun j e => by
            rcases hat2 with h | h
            · exact .inl (h.symm.trans e)
            · exact .inr (by rw [h] at e; injection e with e; exact e.symm)
          intro t ht
          rcases List.mem_append.1 ht with ht | ht
          · have h1 := (hbs t ht).chg hch1 (fun j hj _ e => by have := hj.1; omega)
            refine (h1.mono (D' := fun j => w.heap.size ≤ j ∧ u5.ownBlock ≠ some j ∧ j < w1.heap.size) (fun j hj hlt => ⟨hj.1, hj.2, hlt⟩)).chg hc2 (fun j hj _ e => hj.2.1 e) |>.mono (fun j hj _ => ⟨hj.1, fun e => ?_⟩)
            rcases hnew j e with h | h
            · exact hj.2.1 h
            · have := hj.2.2; omega
          · have h1 := (hi1 t ht).mono (D' := fun j => wr.heap.size ≤ j ∧ j < w1.heap.size) (fun j hj hlt => ⟨hj, hlt⟩)
            refine (h1.chg hc2 (fun j hj _ e => by have := (hug j e).2; omega)).mono (fun j hj _ => ⟨by omega, fun e => ?_⟩)
            rcases hnew j e with h | h
            · have := (hug j h).2; omega
            · omega
      case measure => simp [intOf]; omega
    · go_wp2
      go_ret
      have hkk : m = l.length := by omega
      subst hkk
      rw [List.take_length] at hXr hits hown
      exact ⟨_, _, rfl, hbr, hXr, hout, hch, hEr, by have := H.le; have := hb.lt; have := hch.size; omega, its, hits, hown, hbs⟩
end Go.Proofs.YtdhmlojodihjkaaDoor
