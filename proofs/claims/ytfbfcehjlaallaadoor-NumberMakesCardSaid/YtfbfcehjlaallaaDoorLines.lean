/- The contract of (*filter.Lines).each: what comes of lines, one by one. -/
import Derived.Test.YtfbfcehjlaallaaDoorTell
import Derived.Test.YtfbfcehjlaallaaDoorApp
import Derived.Lib.Hide
import Derived.Test.YtfbfcehjlaallaaDoorMach
import Derived.Test.YtfbfcehjlaallaaDoorBase
namespace Go.Proofs.YtfbfcehjlaallaaDoor
open Go Go.RowKit

/-- The cells of a machine of lines: its base, its splitter, its functions. -/
structure LCells (cs : Array Value) (over : Bool) (beg : Bs) (eachV lastV : Value) : Prop where
  at_ : cs[0]? = some (.int .i64 0)
  more : cs[1]? = some (.bool false)
  ov : cs[2]? = some (.bool over)
  spl : ∃ f, SplAt cs 3 beg f ∧ (over = false → f = false)
  each : cs[69]? = some eachV
  last : cs[70]? = some lastV
theorem LCells.far {cs cs' : Array Value} {over : Bool} {beg : Bs} {eachV lastV : Value} (h : LCells cs over beg eachV lastV) (hc : ∀ i, i < 71 → cs'[i]? = cs[i]?) : LCells cs' over beg eachV lastV := by
  obtain ⟨f, hs, hf⟩ := h.spl
  exact ⟨(hc 0 (by omega)).trans h.at_, (hc 1 (by omega)).trans h.more, (hc 2 (by omega)).trans h.ov,
    ⟨f, ⟨hs.le, fun i x hx => (hc _ (by have := (List.getElem?_eq_some_iff.1 hx).1; have := hs.le; omega)).trans (hs.got i x hx), fun i hi => by rw [hc _ (by omega)]; exact hs.all i hi, (hc _ (by omega)).trans hs.n, (hc _ (by omega)).trans hs.failed⟩, hf⟩,
    (hc 69 (by omega)).trans h.each, (hc 70 (by omega)).trans h.last⟩

/-- What is asked of the functions of a kind of machines of lines, whose machine lies in block g. -/
structure LWalk (P : Program) (k : LK) (g B : Nat) (T : TypeId) (E : World → Prop) (fE : FuncId) (lastV : Value) (X : k.τ → Array Value → Prop) : Prop where
  far : ∀ t cs cs', (∀ i, 71 ≤ i → cs'[i]? = cs[i]?) → X t cs → X t cs'
  env : ∀ w w', Below B w w' → E w → E w'
  le : B ≤ g
  ty : T ≠ 81
  enters : ∀ args w, (callFunc fE args).run P w = .ok (.enter fE args) w
  short : ∀ t l, (k.each t l).1.length ≤ 2
  each : ∀ (t : k.τ) (cs : Array Value) (l : Bs) (w : World), Blk w g T cs → X t cs → l.length ≤ 64 → E w →
    Calls P fE #[.pointer (some ⟨g, 0, none⟩), strv l] w fun e w' => ∃ v cs', e = .returned v ∧ Blk w' g T cs' ∧ X (k.each t l).2 cs' ∧ (∀ i, i < 71 → cs'[i]? = cs[i]?) ∧
      Chg (fun j => j = g) w w' ∧ OutsAt w' (fun j => w.heap.size ≤ j) v (k.each t l).1

def eachFn (fE : FuncId) (g : Nat) : Value := .func (.func fE) #[.pointer (some ⟨g, 0, none⟩)] #[]

theorem info_out : (Tryd.prog.info? 81).map (fun i => (i.zero, i.size, i.bytes)) = some (some (.agg #[.int .i64 0, .slice none 0 0]), 2, 32) := by kernel_rfl

theorem items_one {its : List (Int × Value × Bs)} {w : World} {D : Nat → Prop} (h : ∀ t ∈ its, BsAt w D t.2.1 t.2.2) : ∀ u ∈ its.flatMap (fun t => [Value.int .i64 t.1, t.2.1]), u.oneCell' = true := by
  intro u hu
  obtain ⟨t, ht, hu⟩ := List.mem_flatMap.1 hu
  obtain ⟨A, c, e, _⟩ := h t ht
  simp at hu
  rcases hu with rfl | rfl
  · rfl
  · rw [e]; rfl

def EachPost (k : LK) (g B : Nat) (T : TypeId) (E : World → Prop) (X : k.τ → Array Value → Prop) (cs : Array Value) (w : World) (r : Outs × k.τ) (e : Ending) (w' : World) : Prop :=
  ∃ v cs', e = .returned v ∧ Blk w' g T cs' ∧ X r.2 cs' ∧ (∀ i, i < 71 → cs'[i]? = cs[i]?) ∧ Chg (fun j => j = g) w w' ∧ E w' ∧ B ≤ w'.heap.size ∧
    ∃ its : List (Int × Value × Bs), r.1 = its.map (fun t => (t.1, t.2.2)) ∧ w'.ownsRow w.heap.size 81 2 v r.1.length (its.flatMap fun t => [.int .i64 t.1, t.2.1]) ∧
      ∀ t ∈ its, BsAt w' (fun j => w.heap.size ≤ j ∧ v.ownBlock ≠ some j) t.2.1 t.2.2

theorem eachAll_short {P : Program} {k : LK} {g B : Nat} {T : TypeId} {E : World → Prop} {fE : FuncId} {lastV : Value} {X : k.τ → Array Value → Prop} (H : LWalk P k g B T E fE lastV X) (l : List Bs) :
    ∀ t, (eachAll k t l).1.length ≤ 2 * l.length := by
  induction l with
  | nil => intro t; simp [eachAll]
  | cons x r ih =>
    intro t
    have h1 := ih (k.each t x).2
    have h2 := H.short t x
    simp only [eachAll, List.length_append, List.length_cons]
    omega

set_option maxHeartbeats 1000000 in
set_option maxRecDepth 100000 in
theorem each_any (k : LK) (g B : Nat) (T : TypeId) (E : World → Prop) (fE : FuncId) (lastV : Value) (X : k.τ → Array Value → Prop) (H : LWalk Tryd.prog k g B T E fE lastV X)
    (D : Nat → Prop) (A : Option Addr) (c : Nat) (l : List Bs) (t : k.τ) (cs : Array Value) (w : World)
    (hb : Blk w g T cs) (hc2 : cs[2]? = some (.bool false)) (hc69 : cs[69]? = some (eachFn fE g)) (hX : X t cs) (hE : E w) (hr : Rd w D 1 A l.length (l.map strv)) (hD : ∀ j, D j → j ≠ g) (hl : l.length ≤ 1000000) (hl64 : ∀ x ∈ l, x.length ≤ 64) :
    Calls Tryd.prog 94 #[.pointer (some ⟨g, 0, none⟩), .slice A l.length c] w (EachPost k g B T E X cs w (eachAll k t l)) := by
  obtain ⟨i0, hi0, hz0, hz1, hz2⟩ := info_parts info_out
  have hent := H.enters
  go_enter Tryd.func94, Tryd.ntmps94
  go_wp2
  go_loopw [10, 5] (fun i v wr => ∃ (m : Nat) (csr : Array Value) (its : List (Int × Value × Bs)), m ≤ l.length ∧ i = .int .i64 m ∧ Blk wr g T csr ∧ X (eachAll k t (l.take m)).2 csr ∧ (∀ i, i < 71 → csr[i]? = cs[i]?) ∧ Chg (fun j => j = g) w wr ∧ E wr ∧
      (eachAll k t (l.take m)).1 = its.map (fun t => (t.1, t.2.2)) ∧ wr.ownsRow w.heap.size 81 2 v (eachAll k t (l.take m)).1.length (its.flatMap fun t => [.int .i64 t.1, t.2.1]) ∧
      ∀ t ∈ its, BsAt wr (fun j => w.heap.size ≤ j ∧ v.ownBlock ≠ some j) t.2.1 t.2.2)
    (fun i _ _ => l.length - (intOf i).toNat)
  case atStart => exact ⟨0, cs, [], Nat.zero_le _, rfl, hb, hX, fun _ _ => rfl, Chg.refl _ _, hE, rfl, by simpa [eachAll] using World.ownsRow_nil w _ _ _, fun _ h => by cases h⟩
  case round =>
    obtain ⟨m, csr, its, hm, rfl, hbr, hXr, hout, hch, hEr, hits, hown, hbs⟩ := hrel
    by_cases hlt : m < l.length
    · obtain ⟨b', off, u, rfl, hb1, hb2, hu, hcell0⟩ := hr.at_ hlt
      have hux : u = strv l[m] := by
        simp only [List.getElem?_map, List.getElem?_eq_getElem hlt, Option.map_some, Option.some.injEq] at hu
        exact hu.symm
      subst hux
      have hcell : wr.cell? ⟨b', off + m, none⟩ = some (strv l[m]) := (hch.cell (p := ⟨b', off + m, none⟩) hb1 (hD _ hb2)).trans hcell0
      have h2 : wr.cell? ⟨g, 2, none⟩ = some (.bool false) := (hbr.cell _).trans ((hout 2 (by omega)).trans hc2)
      have h69 : wr.cell? ⟨g, 69, none⟩ = some (eachFn fE g) := (hbr.cell _).trans ((hout 69 (by omega)).trans hc69)
      unfold eachFn at h69
      have hx64 : l[m].length ≤ 64 := hl64 _ (List.getElem_mem hlt)
      have hsnoc : eachAll k t (l.take (m + 1)) = ((eachAll k t (l.take m)).1 ++ (k.each (eachAll k t (l.take m)).2 l[m]).1, (k.each (eachAll k t (l.take m)).2 l[m]).2) := by
        rw [List.take_succ_eq_append_getElem hlt, eachAll_append]
        simp [eachAll]
      have hshort := eachAll_short H (l.take m) t
      have hshort2 := H.short (eachAll k t (l.take m)).2 l[m]
      have htl : (l.take m).length = m := by simp; omega
      generalize hx : l[m] = x at *
      generalize hea : eachAll k t (l.take m) = ea at *
      obtain ⟨o1, t1⟩ := ea
      simp only at hXr hits hown hshort hshort2 hsnoc
      clear hcell0 hu
      have hits' := Lib.hid hits
      have hsnoc' := Lib.hid hsnoc
      clear hits hsnoc
      have hsz := hch.size
      have hgw := hb.lt
      go_wp2_with (first
        | (go_at_call 95; go_in)
        | (refine (H.each t1 csr x wr hbr hXr hx64 hEr).mono ?_
           rintro e w1 ⟨v1, cs1, rfl, hb1', hX1, hout1, hch1, ho1⟩
           obtain ⟨A1, c1, its1, rfl, hl1', hr1, hi1⟩ := ho1
           have hl1 := Lib.hid hl1'
           clear hl1')
        | (at_builtin
           refine wpList_append_rd _ rfl (.tmp 18) (.tmp 24) 67 rfl w.heap.size 81 i0 _ 2 32 Tryd.underlying67 hi0 hz0 hz1 hz2 rfl (by omega) u5 o1.length (its.flatMap fun t => [.int .i64 t.1, t.2.1]) rfl
             (ownsRow_chg hown hch1 (fun j e h => by have := (hown.lt j e).1; omega)) _ A1 (k.each t1 x).1.length c1 _ rfl hr1 (items_one hi1) (by simp only [maxLen]; omega) (by omega) (by have := hch1.size; omega) ?_
           intro v2 w2 hown2 hg2 hat2))
      go_roundw
      case rel =>
        have hsnoc := hsnoc'.out
        have hits := hits'.out
        have hl1 := hl1.out
        have hug : ∀ j, u5.ownBlock = some j → w.heap.size ≤ j ∧ j < wr.heap.size := fun j e => ⟨(hown.lt j e).1, (hown.lt j e).2⟩
        have hgu : u5.ownBlock ≠ some g := fun e => by have := (hug g e).1; omega
        have hc2 : Chg (fun j => u5.ownBlock = some j) w1 w2 := (Chg.refl _ _).grown hg2 (fun j e => .inl e)
        refine ⟨m + 1, cs1, its ++ its1, by omega, by go_num, hb1'.grown hg2 (Ne.symm hgu), ?_, ?_, ?_, ?_, ?_, ?_, ?_⟩
        · rw [hsnoc]; exact hX1
        · intro i hi; exact (hout1 i hi).trans (hout i hi)
        · exact (hch.trans hch1 (fun _ h _ => h)).grown hg2 (fun j e => .inr (hug j e).1)
        · exact H.env _ _ (below_grownBy hg2 (B := B) (by have := H.le; have := hch1.size; omega) (fun j e => by have := (hug j e).1; have := H.le; omega)) (H.env _ _ (hch1.below (by have := H.le; omega) (fun j e => by rw [e]; exact H.le)) hEr)
        · rw [hsnoc]; simp [hits, hl1]
        · rw [hsnoc]; simpa using hown2
        · have hnew : ∀ j, v2.ownBlock = some j → u5.ownBlock = some j ∨ j = w1.heap.size := fun j e => by
            rcases hat2 with h | h
            · exact .inl (h.symm.trans e)
            · exact .inr (by rw [h] at e; injection e with e; exact e.symm)
          intro t ht
          rcases List.mem_append.1 ht with ht | ht
          · have h1 := (hbs t ht).chg hch1 (fun j hj _ e => by have := hj.1; omega)
            refine (h1.mono (D' := fun j => w.heap.size ≤ j ∧ u5.ownBlock ≠ some j ∧ j < w1.heap.size) (fun j hj hlt => ⟨hj.1, hj.2, hlt⟩)).chg hc2 (fun j hj _ e => hj.2.1 e) |>.mono (fun j hj _ => ⟨hj.1, fun e => ?_⟩)
            rcases hnew j e with h | h
            · exact hj.2.1 h
            · have := hj.2.2; omega
          · have h1 := (hi1 t ht).mono (D' := fun j => wr.heap.size ≤ j ∧ j < w1.heap.size) (fun j hj hlt => ⟨hj, hlt⟩)
            refine (h1.chg hc2 (fun j hj _ e => by have := (hug j e).2; omega)).mono (fun j hj _ => ⟨by omega, fun e => ?_⟩)
            rcases hnew j e with h | h
            · have := (hug j h).2; omega
            · omega
      case measure => simp [intOf]; omega
    · go_wp2
      go_ret
      have hkk : m = l.length := by omega
      subst hkk
      rw [List.take_length] at hXr hits hown
      exact ⟨_, _, rfl, hbr, hXr, hout, hch, hEr, by have := H.le; have := hb.lt; have := hch.size; omega, its, hits, hown, hbs⟩
end Go.Proofs.YtfbfcehjlaallaaDoor

/- The contracts of the methods of filter.Lines: Feed, End, More, Need; what is promised of every kind of machines of lines. -/
namespace Go.Proofs.YtfbfcehjlaallaaDoor
open Go Go.RowKit

theorem outs_of_own {w : World} {base : Nat} {v : Value} {l : Outs} {its : List (Int × Value × Bs)} (h1 : l = its.map (fun t => (t.1, t.2.2)))
    (h2 : w.ownsRow base 81 2 v l.length (its.flatMap fun t => [.int .i64 t.1, t.2.1])) {D : Nat → Prop} (h3 : ∀ t ∈ its, BsAt w D t.2.1 t.2.2) (hD : ∀ j, D j → base ≤ j) : OutsAt w (fun k => base ≤ k) v l := by
  obtain ⟨A, c, rfl, hr⟩ := own_rd h2
  exact ⟨A, c, its, rfl, h1, hr, fun t ht => (h3 t ht).mono (fun j hj _ => hD j hj)⟩

/-- A machine of lines in memory. -/
def LInv (k : LK) (g : Nat) (T : TypeId) (fE : FuncId) (lastV : Value) (X : k.τ → Array Value → Prop) (w : World) (s : LS k.τ) : Prop :=
  ∃ cs, Blk w g T cs ∧ LCells cs s.over s.beg (eachFn fE g) lastV ∧ X s.t cs

def AnsPost (k : LK) (g B : Nat) (T : TypeId) (E : World → Prop) (fE : FuncId) (lastV : Value) (X : k.τ → Array Value → Prop) (w : World) (a : Outs × Int × LS k.τ) (e : Ending) (w' : World) : Prop :=
  ∃ v, e = .returned (.tuple #[v, .int .i64 a.2.1]) ∧ LInv k g T fE lastV X w' a.2.2 ∧ Chg (fun j => j = g) w w' ∧ E w' ∧ B ≤ w'.heap.size ∧ OutsAt w' (fun j => w.heap.size ≤ j) v a.1

section
variable {k : LK} {g B : Nat} {T : TypeId} {E : World → Prop} {fE : FuncId} {lastV : Value} {X : k.τ → Array Value → Prop}

theorem ansPost_same {w : World} {s : LS k.τ} {n : Int} (H : LWalk Tryd.prog k g B T E fE lastV X) (h : LInv k g T fE lastV X w s) (hE : E w) : AnsPost k g B T E fE lastV X w ([], n, s) (.returned (.tuple #[.slice none 0 0, .int .i64 n])) w :=
  ⟨_, rfl, h, Chg.refl _ _, hE, by obtain ⟨cs, hb, _⟩ := h; have := hb.lt; have := H.le; omega, OutsAt.nil _ _ _ _⟩

theorem cutS_le (g bs : Bs) : (cutS g bs).1.length ≤ g.length + bs.length := by have := cutS_sum bs g; omega

set_option maxHeartbeats 1000000 in
set_option maxRecDepth 100000 in
theorem feed_any (H : LWalk Tryd.prog k g B T E fE lastV X) (A : Option Addr) (c : Nat) (port : Int) (bs : Bs) (s : LS k.τ) (w : World)
    (hs : LInv k g T fE lastV X w s) (hE : E w) (hr : Rd w (fun j => j ≠ g) 1 A bs.length (u8s bs)) (hl : bs.length ≤ 100000) :
    Calls Tryd.prog 87 #[.pointer (some ⟨g, 0, none⟩), .int .i64 port, .slice A bs.length c] w (AnsPost k g B T E fE lastV X w (k.feed s port bs)) := by
  have hs0 := hs
  obtain ⟨cs, hb, hc, hX⟩ := hs
  have h0 : w.cell? ⟨g, 0, none⟩ = some (.int .i64 0) := (hb.cell _).trans hc.at_
  have h1 : w.cell? ⟨g, 1, none⟩ = some (.bool false) := (hb.cell _).trans hc.more
  have h2 : w.cell? ⟨g, 2, none⟩ = some (.bool s.over) := (hb.cell _).trans hc.ov
  obtain ⟨ov, beg, t⟩ := s
  simp only at hc hX h2
  by_cases ho : ov = true
  · subst ho
    have e : k.feed ⟨true, beg, t⟩ port bs = ([], 4, ⟨true, beg, t⟩) := by unfold LK.feed; rw [if_pos rfl]
    rw [e]
    clear hb hc hX hr
    go_enter Tryd.func87, Tryd.ntmps87
    go_wp2
    go_ret2
    exact ansPost_same H hs0 hE
  · have ho' : ov = false := by simpa using ho
    subst ho'
    by_cases hp : port = 0
    · subst hp
      by_cases hlen : bs.length = 0 ∨ bs.length > 32
      · have e : k.feed ⟨false, beg, t⟩ 0 bs = ([], 1, ⟨false, beg, t⟩) := by unfold LK.feed; rw [if_neg (by simp), if_neg (by simp), if_pos hlen]
        rw [e]
        clear hb hc hX hr
        rcases hlen with hz | hz
        · have hz1 : ((bs.length : Int) == 0) = true := by rw [hz]; rfl
          go_enter Tryd.func87, Tryd.ntmps87
          go_wp2
          go_ret2
          exact ansPost_same H hs0 hE
        · have hz1 : ((bs.length : Int) == 0) = false := by rw [beq_eq_false_iff_ne]; omega
          have hz2 : (32 : Int) < (bs.length : Int) := by omega
          go_enter Tryd.func87, Tryd.ntmps87
          go_wp2
          go_ret2
          exact ansPost_same H hs0 hE
      · have hz1 : ((bs.length : Int) == 0) = false := by rw [beq_eq_false_iff_ne]; omega
        have hz2 : ¬ (32 : Int) < (bs.length : Int) := by omega
        obtain ⟨f0, hspl, hf0⟩ := hc.spl
        obtain rfl := hf0 rfl
        have hcut := cut_any T g 3 cs beg bs A c w hb hspl hr (by omega)
        have hle := cutS_le beg bs
        have hl64 := (cutS_len bs beg hspl.le).2
        have hfl := cutS_failed bs beg
        have e : k.feed ⟨false, beg, t⟩ 0 bs = (if (cutS beg bs).2.2 = true then ((eachAll k t (cutS beg bs).1).1, 20, { over := true, beg := [], t := (eachAll k t (cutS beg bs).1).2 }) else ((eachAll k t (cutS beg bs).1).1, 0, { over := false, beg := (cutS beg bs).2.1, t := (eachAll k t (cutS beg bs).1).2 })) := by
          unfold LK.feed; rw [if_neg (by simp), if_neg (by simp), if_neg hlen]
        rw [e]
        have hbeg := hspl.le
        generalize cutS beg bs = r at *
        obtain ⟨ls, gb, fl⟩ := r
        simp only at hle hl64 hfl
        generalize hea : eachAll k t ls = ea
        have hgl := hb.lt
        have each2 : ∀ (w1 : World) (cs1 : Array Value) (A1 : Option Addr) (c1 : Nat), Blk w1 g T cs1 → SplAt cs1 3 gb fl → (∀ i, i < 3 ∨ 3 + 66 ≤ i → cs1[i]? = cs[i]?) → Chg (fun j => j = g) w w1 → Rd w1 (fun j => w.heap.size ≤ j) 1 A1 ls.length (ls.map strv) →
            Calls Tryd.prog 94 #[.pointer (some ⟨g, 0, none⟩), .slice A1 ls.length c1] w1 fun e2 w2 => ∃ A2 c2 cs2, e2 = .returned (.slice A2 ea.1.length c2) ∧ Blk w2 g T cs2 ∧ X ea.2 cs2 ∧
              w2.cell? ⟨g, 2, none⟩ = some (.bool false) ∧ w2.frozen? ⟨g, 2, none⟩ = false ∧ E w2 ∧ Chg (fun j => j = g) w w2 ∧ B ≤ w2.heap.size ∧ OutsAt w2 (fun j => w.heap.size ≤ j) (.slice A2 ea.1.length c2) ea.1 ∧
              Hid (fl = false → LCells cs2 false gb (eachFn fE g) lastV) ∧ Hid (fl = true → LCells (cs2.setIfInBounds 2 (.bool true)) true [] (eachFn fE g) lastV) := by
          intro w1 cs1 A1 c1 hb1 hs1 hout1 hch1 hr1
          have hE1 : E w1 := H.env _ _ (hch1.below (by have := H.le; omega) (fun j e => by rw [e]; exact H.le)) hE
          have hX1 : X t cs1 := H.far t cs cs1 (fun i hi => hout1 i (by omega)) hX
          refine (each_any k g B T E fE lastV X H _ A1 c1 ls t cs1 w1 hb1 ((hout1 2 (by omega)).trans hc.ov) ((hout1 69 (by omega)).trans hc.each) hX1 hE1 hr1 (fun j hj => by omega) (by omega) hl64).mono ?_
          rintro e2 w2 ⟨v2, cs2, rfl, hb2, hX2, hout2, hch2, hE2, hB2, its, hits, hown2, hbs2⟩
          rw [hea] at hX2 hits hown2
          have hg1 := hch1.size
          have ho2 := outs_of_own hits hown2 hbs2 (fun j hj => hj.1)
          obtain ⟨A2, c2, its2, rfl, hits2, hr2, hi2⟩ := ho2
          have hcs2 : LCells cs2 false gb (eachFn fE g) lastV ∨ fl = true := by
            by_cases hf : fl = true
            · exact .inr hf
            · left
              have hf' : fl = false := by simpa using hf
              have : LCells cs1 false gb (eachFn fE g) lastV := ⟨(hout1 0 (by omega)).trans hc.at_, (hout1 1 (by omega)).trans hc.more, (hout1 2 (by omega)).trans hc.ov, ⟨fl, hs1, fun _ => hf'⟩, (hout1 69 (by omega)).trans hc.each, (hout1 70 (by omega)).trans hc.last⟩
              exact this.far hout2
          refine ⟨A2, c2, cs2, rfl, hb2, hX2, (hb2.cell _).trans ((hout2 2 (by omega)).trans ((hout1 2 (by omega)).trans hc.ov)), hb2.frozen _, hE2, hch1.trans hch2 (fun _ h _ => h), hB2,
            OutsAt.mono ⟨A2, c2, its2, rfl, hits2, hr2, hi2⟩ (fun j hj _ => by omega), Lib.hid (fun hf => hcs2.resolve_right (by rw [hf]; decide)), Lib.hid (fun hf => ?_)⟩
          rw [hfl hf] at hs1
          have hs2 : LCells cs1 true [] (eachFn fE g) lastV ∨ True := .inr trivial
          have hsz : 70 < cs2.size := by
            have := (hout2 70 (by omega)).trans ((hout1 70 (by omega)).trans hc.last)
            exact (Array.getElem?_eq_some_iff.1 this).1
          have hget : ∀ i, i < 71 → i ≠ 2 → (cs2.setIfInBounds 2 (.bool true))[i]? = cs1[i]? := fun i hi hne => by
            rw [Array.getElem?_setIfInBounds_ne (by omega)]; exact hout2 i hi
          refine ⟨(hget 0 (by omega) (by omega)).trans ((hout1 0 (by omega)).trans hc.at_), (hget 1 (by omega) (by omega)).trans ((hout1 1 (by omega)).trans hc.more), Array.getElem?_setIfInBounds_self_of_lt (by omega), ⟨fl, ?_, fun h => by cases h⟩,
            (hget 69 (by omega) (by omega)).trans ((hout1 69 (by omega)).trans hc.each), (hget 70 (by omega) (by omega)).trans ((hout1 70 (by omega)).trans hc.last)⟩
          exact hs1.far (fun i h3 h68 => hget i (by omega) (by omega))
        have hXc := H.far
        clear hb hc hX hr
        have hgs : ∀ w2 : World, Chg (fun j => j = g) w w2 → w2.heap.size ≥ w.heap.size := fun w2 h => h.size
        cases fl
        · simp only [Bool.false_eq_true, if_false]
          go_enter Tryd.func87, Tryd.ntmps87
          go_wp2_with (first
            | (go_at_call 96; go_in)
            | (go_at_call 92; go_in)
            | (go_at_call 97; refine hcut.mono ?_; rintro e1 w1 ⟨v1, cs1, rfl, hb1, hs1, hout1, hch1, hown1⟩; obtain ⟨A1, c1, rfl, hr1⟩ := own_rd hown1)
            | (go_at_call 94; refine (each2 w1 cs1 A1 c1 hb1 hs1 hout1 hch1 hr1).mono ?_; rintro e2 w2 ⟨A2, c2, cs2, rfl, hb2, hX2, hv2, hf2, hE2, hch2, hB2, ho2, hlc2, _⟩)
            | (go_at_call 95; go_in)
            | (go_at_call 91; go_in))
          go_ret2
          exact ⟨_, rfl, ⟨cs2, hb2, hlc2.out trivial, hX2⟩, hch2, hE2, hB2, ho2⟩
        · simp only [if_true]
          go_enter Tryd.func87, Tryd.ntmps87
          go_wp2_with (first
            | (go_at_call 96; go_in)
            | (go_at_call 92; go_in)
            | (go_at_call 97; refine hcut.mono ?_; rintro e1 w1 ⟨v1, cs1, rfl, hb1, hs1, hout1, hch1, hown1⟩; obtain ⟨A1, c1, rfl, hr1⟩ := own_rd hown1)
            | (go_at_call 94; refine (each2 w1 cs1 A1 c1 hb1 hs1 hout1 hch1 hr1).mono ?_; rintro e2 w2 ⟨A2, c2, cs2, rfl, hb2, hX2, hv2, hf2, hE2, hch2, hB2, ho2, _, hlc2⟩)
            | (go_at_call 95; go_in)
            | (go_at_call 91; go_in))
          go_end0
          go_wp2
          go_ret2
          exact ⟨_, rfl, ⟨_, hb2.set _ _, hlc2.out trivial, hXc _ _ _ (fun i hi => Array.getElem?_setIfInBounds_ne (by omega)) hX2⟩, hch2.setCell (.inl rfl) _, H.env _ _ ((Below.refl _ _).setCell (p := ⟨g, 2, none⟩) H.le _) hE2, by simpa [World.setCell] using hB2,
            ho2.chg ((Chg.refl (fun j => j = g) w2).setCell (p := ⟨g, 2, none⟩) (.inl rfl) _) (fun j hj _ e => by omega)⟩
    · have e : k.feed ⟨false, beg, t⟩ port bs = ([], 1, ⟨false, beg, t⟩) := by simp [LK.feed, hp]
      rw [e]
      have hp1 : (port == 0) = false := by simpa using hp
      have hp2 : (port != 0) = true := by simpa using hp
      clear hb hc hX hr
      go_enter Tryd.func87, Tryd.ntmps87
      go_wp2
      go_ret2
      exact ansPost_same H hs0 hE
end
end Go.Proofs.YtfbfcehjlaallaaDoor

/- The contract of (*filter.Lines).End. -/
namespace Go.Proofs.YtfbfcehjlaallaaDoor
open Go Go.RowKit

theorem rest_none (T : TypeId) (g o : Nat) (cs : Array Value) (f : Bool) (w : World) (hb : Blk w g T cs) (hs : SplAt cs o [] f) :
    Calls Tryd.prog 93 #[.pointer (some ⟨g, o, none⟩)] w fun e w' => e = .returned (.tuple #[.string ⟨#[]⟩, .bool false]) ∧ w = w' := by
  have hn : w.cell? ⟨g, o + 64, none⟩ = some (.int .i64 0) := (hb.cell _).trans hs.n
  clear hb hs
  go_enter Tryd.func93, Tryd.ntmps93
  go_wp2
  go_ret2
  exact ⟨rfl, rfl⟩

theorem rest_some (T : TypeId) (g o : Nat) (cs : Array Value) (beg : Bs) (f : Bool) (w : World) (hb : Blk w g T cs) (hs : SplAt cs o beg f) (hne : beg ≠ []) :
    Calls Tryd.prog 93 #[.pointer (some ⟨g, o, none⟩)] w fun e w' => ∃ cs', e = .returned (.tuple #[strv beg, .bool true]) ∧ Blk w' g T cs' ∧ SplAt cs' o [] f ∧
      (∀ i, i < o ∨ o + 66 ≤ i → cs'[i]? = cs[i]?) ∧ Chg (fun j => j = g) w w' := by
  have hn : w.cell? ⟨g, o + 64, none⟩ = some (.int .i64 beg.length) := (hb.cell _).trans hs.n
  have hf : w.frozen? ⟨g, o + 64, none⟩ = false := hb.frozen _
  have hlen : beg.length ≠ 0 := fun h => hne (List.eq_nil_of_length_eq_zero h)
  have hz : ((beg.length : Int) == 0) = false := by rw [beq_eq_false_iff_ne]; omega
  have hle : (beg.length : Int) ≤ 64 := by have := hs.le; omega
  have hb2 := hb.set (o + 64) (.int .i64 0)
  have hs2 := hs.fresh
  have hcv : (convert 22 9 (.slice (some ⟨g, o, none⟩) beg.length 64)).run Tryd.prog (w.setCell ⟨g, o + 64, none⟩ (.int .i64 0)) = .ok (strv beg) (w.setCell ⟨g, o + 64, none⟩ (.int .i64 0)) :=
    conv_str g o 64 beg (fun i x hx => by
      rw [hb2.cell, Array.getElem?_setIfInBounds_ne (by have := (List.getElem?_eq_some_iff.1 hx).1; have := hs.le; omega)]
      exact hs.got i x hx)
  have hch : Chg (fun j => j = g) w (w.setCell ⟨g, o + 64, none⟩ (.int .i64 0)) := (Chg.refl (fun j => j = g) w).setCell (p := ⟨g, o + 64, none⟩) (.inl rfl) _
  have hal := arrayLen_64
  clear hb hs hne
  go_enter Tryd.func93, Tryd.ntmps93
  go_wp2
  go_ret2
  exact ⟨_, rfl, hb2, hs2, fun i hi => Array.getElem?_setIfInBounds_ne (by omega), hch⟩

/-- What is asked of what a kind does at the end. -/
def LLast (P : Program) (k : LK) (g : Nat) (T : TypeId) (E : World → Prop) (lastV : Value) (X : k.τ → Array Value → Prop) : Prop :=
  (lastV = .nilFunc ∧ ∀ t, k.last t = ([], t)) ∨
  ∃ fL, lastV = .func (.func fL) #[.pointer (some ⟨g, 0, none⟩)] #[] ∧ (∀ args w, (callFunc fL args).run P w = .ok (.enter fL args) w) ∧ (∀ t, (k.last t).1.length ≤ 2) ∧
    (∀ w, (binOp .neq 57 (.func (.func fL) #[.pointer (some ⟨g, 0, none⟩)] #[]) .nilFunc).run P w = .ok (.bool true) w) ∧
    ∀ (t : k.τ) (cs : Array Value) (w : World), Blk w g T cs → X t cs → E w →
      Calls P fL #[.pointer (some ⟨g, 0, none⟩)] w fun e w' => ∃ v cs', e = .returned v ∧ Blk w' g T cs' ∧ X (k.last t).2 cs' ∧ (∀ i, i < 71 → cs'[i]? = cs[i]?) ∧
        Chg (fun j => j = g) w w' ∧ OutsAt w' (fun j => w.heap.size ≤ j) v (k.last t).1

section
variable {k : LK} {g B : Nat} {T : TypeId} {E : World → Prop} {fE : FuncId} {lastV : Value} {X : k.τ → Array Value → Prop}

/-- Behind the begun line: what End knows then. -/
structure EndMid (k : LK) (g B : Nat) (T : TypeId) (E : World → Prop) (fE : FuncId) (lastV : Value) (X : k.τ → Array Value → Prop) (w : World) (o : Outs) (t : k.τ) (v : Value) (w1 : World) : Prop where
  blk : ∃ cs, Blk w1 g T cs ∧ LCells cs false [] (eachFn fE g) lastV ∧ X t cs
  chg : Chg (fun j => j = g) w w1
  env : E w1
  size : B ≤ w1.heap.size
  its : ∃ its : List (Int × Value × Bs), o = its.map (fun t => (t.1, t.2.2)) ∧ w1.ownsRow w.heap.size 81 2 v o.length (its.flatMap fun t => [.int .i64 t.1, t.2.1]) ∧
      ∀ t ∈ its, BsAt w1 (fun j => w.heap.size ≤ j ∧ v.ownBlock ≠ some j) t.2.1 t.2.2
  few : o.length ≤ 1000000

/-- The last part of End: what comes at the end, if there is something; then it has ended. -/
def endTail (k : LK) (o : Outs) (t : k.τ) : Outs × Int × LS k.τ := (o ++ (k.last t).1, 0, { over := true, beg := [], t := (k.last t).2 })

theorem lcells_over {cs : Array Value} {beg : Bs} (h : LCells cs false beg (eachFn fE g) lastV) : LCells (cs.setIfInBounds 2 (.bool true)) true beg (eachFn fE g) lastV := by
  have hsz : 70 < cs.size := (Array.getElem?_eq_some_iff.1 h.last).1
  have hget : ∀ i, i ≠ 2 → (cs.setIfInBounds 2 (.bool true))[i]? = cs[i]? := fun i hne => by rw [Array.getElem?_setIfInBounds_ne (by omega)]
  obtain ⟨f, hs, _⟩ := h.spl
  exact ⟨(hget 0 (by omega)).trans h.at_, (hget 1 (by omega)).trans h.more, Array.getElem?_setIfInBounds_self_of_lt (by omega), ⟨f, hs.far (fun i h3 h68 => hget i (by omega)), fun h => by cases h⟩,
    (hget 69 (by omega)).trans h.each, (hget 70 (by omega)).trans h.last⟩

theorem fin_mid {k : LK} {s : LS k.τ} {port : Int} (h1 : s.over = false) (h2 : port = 0) : k.fin s port = endTail k (if s.beg = [] then ([], s.t) else k.each s.t s.beg).1 (if s.beg = [] then ([], s.t) else k.each s.t s.beg).2 := by
  unfold LK.fin
  rw [if_neg (by rw [h1]; decide), if_neg (by simp [h2])]
  rfl

theorem mid_of_each {w w1 : World} {cs : Array Value} {t : k.τ} {beg : Bs} {e : Ending} (hc : LCells cs false [] (eachFn fE g) lastV) (hw : Chg (fun j => j = g) w w1)
    (hfew : (k.each t beg).1.length ≤ 2) {w2 : World} (h : EachPost k g B T E X cs w1 (eachAll k t [beg]) e w2) : ∃ v, e = .returned v ∧ EndMid k g B T E fE lastV X w (k.each t beg).1 (k.each t beg).2 v w2 := by
  obtain ⟨v, cs2, rfl, hb2, hX2, hout2, hch2, hE2, hB2, its, hits, hown2, hbs2⟩ := h
  simp only [eachAll, List.append_nil] at hX2 hits hown2
  have hs := hw.size
  refine ⟨v, rfl, ⟨cs2, hb2, hc.far hout2, hX2⟩, hw.trans hch2 (fun _ h _ => h), hE2, hB2, ⟨its, hits, ?_, fun t ht => (hbs2 t ht).mono (fun j hj _ => ⟨by omega, hj.2⟩)⟩, by omega⟩
  refine ⟨hown2.1, ?_⟩
  rcases hown2.2 with h | ⟨g', cap, cur, hv, hg', r⟩
  · exact .inl h
  · exact .inr ⟨g', cap, cur, hv, by omega, r⟩

theorem end_close_nil (H : LWalk Tryd.prog k g B T E fE lastV X) (hl : ∀ t, k.last t = ([], t)) {w w1 : World} {o : Outs} {t : k.τ} {v : Value} (hg : g < w.heap.size) (hm : EndMid k g B T E fE lastV X w o t v w1) :
    AnsPost k g B T E fE lastV X w (endTail k o t) (.returned (.tuple #[v, .int .i64 0])) (w1.setCell ⟨g, 2, none⟩ (.bool true)) := by
  obtain ⟨⟨cs, hb, hc, hX⟩, hch, hE, hB, ⟨its, hits, hown, hbs⟩, _⟩ := hm
  have hs := hch.size
  have hc2 : Chg (fun j => j = g) w1 (w1.setCell ⟨g, 2, none⟩ (.bool true)) := (Chg.refl (fun j => j = g) w1).setCell (p := ⟨g, 2, none⟩) (.inl rfl) _
  have e : endTail k o t = (o, 0, { over := true, beg := [], t := t }) := by simp [endTail, hl]
  rw [e]
  exact ⟨v, rfl, ⟨_, hb.set _ _, lcells_over hc, H.far _ _ _ (fun i hi => Array.getElem?_setIfInBounds_ne (by omega)) hX⟩, hch.trans hc2 (fun _ h _ => h), H.env _ _ ((Below.refl _ _).setCell (p := ⟨g, 2, none⟩) H.le _) hE, by simpa [World.setCell] using hB,
    (outs_of_own hits hown hbs (fun j hj => hj.1)).chg hc2 (fun j hj _ e => by omega)⟩

theorem end_close_fn (H : LWalk Tryd.prog k g B T E fE lastV X) {w w1 w2 w3 : World} {o o2 : Outs} {t t2 : k.τ} {v v3 : Value} {cs2 : Array Value} {its2 : List (Int × Value × Bs)} (hg : g < w.heap.size) (hm : EndMid k g B T E fE lastV X w o t v w1)
    (hlast : k.last t = (o2, t2)) (hcs : ∃ cs, Blk w1 g T cs ∧ LCells cs false [] (eachFn fE g) lastV ∧ ∀ i, i < 71 → cs2[i]? = cs[i]?) (hb2 : Blk w2 g T cs2) (hX2 : X t2 cs2) (hch2 : Chg (fun j => j = g) w1 w2) (hits2 : o2 = its2.map (fun t => (t.1, t.2.2)))
    (hbs2 : ∀ t ∈ its2, BsAt w2 (fun j => w1.heap.size ≤ j) t.2.1 t.2.2) (hits : ∃ its : List (Int × Value × Bs), o = its.map (fun t => (t.1, t.2.2)) ∧ (∀ t ∈ its, BsAt w1 (fun j => w.heap.size ≤ j ∧ v.ownBlock ≠ some j) t.2.1 t.2.2) ∧
      w3.ownsRow w.heap.size 81 2 v3 (o.length + o2.length) ((its.flatMap fun t => [.int .i64 t.1, t.2.1]) ++ (its2.flatMap fun t => [.int .i64 t.1, t.2.1])))
    (hg3 : w2.grownBy w3 v.ownBlock) (hv : ∀ j, v.ownBlock = some j → w.heap.size ≤ j ∧ j < w1.heap.size) :
    AnsPost k g B T E fE lastV X w (endTail k o t) (.returned (.tuple #[v3, .int .i64 0])) (w3.setCell ⟨g, 2, none⟩ (.bool true)) := by
  obtain ⟨its, hit, hbs, hown3⟩ := hits
  obtain ⟨cs, hb1, hc1, hcc⟩ := hcs
  have hs := hm.chg.size
  have hs2 := hch2.size
  have hs3 := hg3.size
  have hvg : v.ownBlock ≠ some g := fun e => by have := (hv g e).1; omega
  have hc3 : Chg (fun j => v.ownBlock = some j) w2 w3 := (Chg.refl _ _).grown hg3 (fun j e => .inl e)
  have hc4 : Chg (fun j => j = g) w3 (w3.setCell ⟨g, 2, none⟩ (.bool true)) := (Chg.refl (fun j => j = g) w3).setCell (p := ⟨g, 2, none⟩) (.inl rfl) _
  have hb3 : Blk w3 g T cs2 := hb2.grown hg3 (Ne.symm hvg)
  have e : endTail k o t = (o ++ o2, 0, { over := true, beg := [], t := t2 }) := by simp [endTail, hlast]
  rw [e]
  have hcA : Chg (fun j => j = g) w w3 := (hm.chg.trans hch2 (fun _ h _ => h)).grown hg3 (fun j e => .inr (hv j e).1)
  refine ⟨v3, rfl, ⟨_, hb3.set _ _, lcells_over (hc1.far hcc), H.far _ _ _ (fun i hi => Array.getElem?_setIfInBounds_ne (by omega)) hX2⟩, hcA.trans hc4 (fun _ h _ => h), ?_, by have := hm.size; simp [World.setCell]; omega, ?_⟩
  · have h1 : E w2 := H.env _ _ (hch2.below (by have := hm.size; omega) (fun j e => by rw [e]; exact H.le)) hm.env
    have h2 : E w3 := H.env _ _ (below_grownBy hg3 (B := B) (by have := hm.size; omega) (fun j e => by have := (hv j e).1; have := H.le; omega)) h1
    exact H.env _ _ ((Below.refl _ _).setCell (p := ⟨g, 2, none⟩) H.le _) h2
  · have ho : OutsAt w3 (fun j => w.heap.size ≤ j) v3 (o ++ o2) := by
      refine outs_of_own (its := its ++ its2) (by simp [hit, hits2]) (by simpa using hown3) (D := fun j => w.heap.size ≤ j) (fun t ht => ?_) (fun j hj => hj)
      rcases List.mem_append.1 ht with ht | ht
      · exact (((hbs t ht).chg hch2 (fun j hj _ e => by have := hj.1; omega)).chg hc3 (fun j hj _ e => hj.2 e)).mono (fun j hj _ => hj.1)
      · exact ((hbs2 t ht).chg hc3 (fun j hj _ e => by have := (hv j e).2; omega)).mono (fun j hj _ => by omega)
    exact ho.chg hc4 (fun j hj _ e => by omega)

set_option maxHeartbeats 1000000 in
set_option maxRecDepth 100000 in
theorem end_any (H : LWalk Tryd.prog k g B T E fE lastV X) (HL : LLast Tryd.prog k g T E lastV X) (port : Int) (s : LS k.τ) (w : World) (hs : LInv k g T fE lastV X w s) (hE : E w) :
    Calls Tryd.prog 86 #[.pointer (some ⟨g, 0, none⟩), .int .i64 port] w (AnsPost k g B T E fE lastV X w (k.fin s port)) := by
  have hs0 := hs
  obtain ⟨cs, hb, hc, hX⟩ := hs
  have h0 : w.cell? ⟨g, 0, none⟩ = some (.int .i64 0) := (hb.cell _).trans hc.at_
  have h1 : w.cell? ⟨g, 1, none⟩ = some (.bool false) := (hb.cell _).trans hc.more
  have h2 : w.cell? ⟨g, 2, none⟩ = some (.bool s.over) := (hb.cell _).trans hc.ov
  obtain ⟨ov, beg, t⟩ := s
  simp only at hc hX h2
  by_cases ho : ov = true
  · subst ho
    have e : k.fin ⟨true, beg, t⟩ port = ([], 4, ⟨true, beg, t⟩) := by unfold LK.fin; rw [if_pos rfl]
    rw [e]
    clear hb hc hX
    go_enter Tryd.func86, Tryd.ntmps86
    go_wp2
    go_ret2
    exact ansPost_same H hs0 hE
  · have ho' : ov = false := by simpa using ho
    subst ho'
    by_cases hp : port = 0
    · subst hp
      rw [fin_mid rfl rfl]
      obtain ⟨f0, hspl, hf0⟩ := hc.spl
      obtain rfl := hf0 rfl
      have hgl := hb.lt
      have hgB := H.le
      -- what is known behind the begun line, at whatever world
      have mid : ∀ (w1 : World) (cs1 : Array Value), Blk w1 g T cs1 → SplAt cs1 3 [] false → (∀ i, i < 3 ∨ 3 + 66 ≤ i → cs1[i]? = cs[i]?) → LCells cs1 false [] (eachFn fE g) lastV ∧ X t cs1 := fun w1 cs1 _ hs1 hout1 =>
        ⟨⟨(hout1 0 (by omega)).trans hc.at_, (hout1 1 (by omega)).trans hc.more, (hout1 2 (by omega)).trans hc.ov, ⟨false, hs1, fun _ => rfl⟩, (hout1 69 (by omega)).trans hc.each, (hout1 70 (by omega)).trans hc.last⟩,
          H.far t cs cs1 (fun i hi => hout1 i (by omega)) hX⟩
      have hnilneq : ∀ w, (binOp .neq 57 .nilFunc .nilFunc).run Tryd.prog w = .ok (.bool false) w := fun _ => by kernel_rfl
      by_cases hbeg : beg = []
      · subst hbeg
        have hm := mid w cs hb hspl (fun _ _ => rfl)
        have hmid : EndMid k g B T E fE lastV X w [] t (.slice none 0 0) w := ⟨⟨cs, hb, hm.1, hX⟩, Chg.refl _ _, hE, by omega, ⟨[], rfl, World.ownsRow_nil _ _ _ _, fun _ h => by cases h⟩, by simp⟩
        have hrest := rest_none T g 3 cs false w hb hspl
        simp only [if_true]
        rcases HL with ⟨rfl, hl⟩ | ⟨fL, rfl, hentL, hfew, hneq, hLast⟩
        · have h70 : w.cell? ⟨g, 70, none⟩ = some .nilFunc := (hb.cell _).trans hc.last
          have hfz := hb.frozen 2
          have hfin := end_close_nil H hl hgl hmid
          clear hb hc hX mid hm hmid hspl hs0
          go_enter Tryd.func86, Tryd.ntmps86
          go_wp2_with (first
            | (go_at_call 92; go_in)
            | (go_at_call 93; refine hrest.mono ?_; rintro e1 w1 ⟨rfl, rfl⟩)
            | (go_at_call 95; go_in)
            | (go_at_call 91; go_in))
          go_end0
          go_wp2
          go_ret2
          exact hfin
        · have h70 : w.cell? ⟨g, 70, none⟩ = some (.func (.func fL) #[.pointer (some ⟨g, 0, none⟩)] #[]) := (hb.cell _).trans hc.last
          have hfz := hb.frozen 2
          obtain ⟨i0, hi0, hz0, hz1, hz2⟩ := info_parts info_out
          have hfewt := hfew t
          have hcA := hm.1
          clear hc mid hm hspl hs0 hnilneq
          go_enter Tryd.func86, Tryd.ntmps86
          go_wp2_with (first
            | (go_at_call 92; go_in)
            | (go_at_call 93; refine hrest.mono ?_; rintro e1 w1 ⟨rfl, rfl⟩)
            | (go_at_call 95; go_in)
            | (refine (hLast t cs w hb hX hE).mono ?_
               rintro e3 w3 ⟨v3, cs3, rfl, hb3, hX3, hout3, hch3, ho3⟩
               obtain ⟨A3, c3, its3, rfl, hits3', hr3, hi3⟩ := ho3
               have hits3 := Lib.hid hits3'
               clear hits3'
               have hch3s := hch3.size)
            | (at_builtin
               refine wpList_append_rd _ rfl (.tmp 42) (.tmp 47) 67 rfl w.heap.size 81 i0 _ 2 32 Tryd.underlying67 hi0 hz0 hz1 hz2 rfl (by omega) (.slice none 0 0) 0 [] rfl
                 (World.ownsRow_nil _ _ _ _) _ A3 (k.last t).1.length c3 _ rfl hr3 (items_one hi3) (by simp only [maxLen]; omega) (by omega) (by omega) ?_
               intro v4 w4 hown4 hg4 _
               have hb4 : w4.cell? ⟨g, 2, none⟩ = some (.bool false) := ((hb3.grown hg4 (by simp [Value.ownBlock])).cell _).trans ((hout3 2 (by omega)).trans hcA.ov)
               have hf4 : w4.frozen? ⟨g, 2, none⟩ = false := (hb3.grown hg4 (by simp [Value.ownBlock])).frozen _)
            | (go_at_call 91; go_in))
          go_end0
          go_wp2
          go_ret2
          exact end_close_fn H hgl hmid rfl ⟨cs, hb, hcA, hout3⟩ hb3 hX3 hch3 hits3.out hi3 ⟨[], rfl, (fun _ h => by cases h), hown4⟩ hg4 (fun j e => by simp [Value.ownBlock] at e)
      · have hrest := rest_some T g 3 cs beg false w hb hspl hbeg
        simp only [if_neg hbeg]
        have hbl := hspl.le
        have hshort := H.short t beg
        have hgD : ∀ w1 : World, Chg (fun j => j = g) w w1 → w1.heap.size ≠ g := fun w1 h => by have := h.size; omega
        rcases HL with ⟨rfl, hl⟩ | ⟨fL, rfl, hentL, hfew, hneq, hLast⟩
        · have h70 : cs[70]? = some .nilFunc := hc.last
          have hfin := fun o v w1 => end_close_nil H hl (w := w) (w1 := w1) (o := o) (t := (k.each t beg).2) (v := v) hgl
          clear hb hc hX hspl hs0
          go_enter Tryd.func86, Tryd.ntmps86
          go_wp2_with (first
            | (go_at_call 92; go_in)
            | (go_at_call 93; refine hrest.mono ?_; rintro e1 w1 ⟨cs1, rfl, hb1, hs1, hout1, hch1⟩; have hm1 := mid w1 cs1 hb1 hs1 hout1; have hgd1 := hgD w1 hch1)
            | (go_at_call 94
               refine (each_any k g B T E fE _ X H (fun j => j = w1.heap.size) _ 1 [beg] t cs1 _ (hb1.alloc _) hm1.1.ov hm1.1.each hm1.2 (H.env _ _ ((Below.refl B w1).alloc (by have := hch1.size; omega) _) (H.env _ _ (hch1.below (by omega) (fun j e => by rw [e]; exact hgB)) hE))
                 ⟨rfl, fun _ => ⟨w1.heap.size, 0, rfl, by simp, rfl, fun j u hu => by rw [Nat.zero_add, cell_of_row _ _ j _ _ (0, 0) (heap_alloc_new w1 _)]; simpa using hu⟩⟩ (fun j hj => by omega) (by simp) (by simpa using hbl)).mono ?_
               intro e2 w2 h2
               obtain ⟨v2, rfl, hm2⟩ := mid_of_each (lastV := .nilFunc) hm1.1 (hch1.alloc _) hshort h2
               have hcell2 : w2.cell? ⟨g, 2, none⟩ = some (.bool false) ∧ w2.frozen? ⟨g, 2, none⟩ = false ∧ w2.cell? ⟨g, 70, none⟩ = some .nilFunc := by
                 obtain ⟨cs2, hb2, hc2, _⟩ := hm2.blk
                 exact ⟨(hb2.cell _).trans hc2.ov, hb2.frozen _, (hb2.cell _).trans hc2.last⟩
               obtain ⟨hq1, hq2, hq3⟩ := hcell2)
            | (go_at_call 95; go_in)
            | (go_at_call 91; go_in))
          go_end0
          go_wp2
          go_ret2
          exact hfin _ _ _ hm2
        · have h70 : cs[70]? = some (.func (.func fL) #[.pointer (some ⟨g, 0, none⟩)] #[]) := hc.last
          obtain ⟨i0, hi0, hz0, hz1, hz2⟩ := info_parts info_out
          have hfewt := hfew (k.each t beg).2
          clear hb hc hX hspl hs0 hnilneq
          go_enter Tryd.func86, Tryd.ntmps86
          go_wp2_with (first
            | (go_at_call 92; go_in)
            | (go_at_call 93; refine hrest.mono ?_; rintro e1 w1 ⟨cs1, rfl, hb1, hs1, hout1, hch1⟩; have hm1 := mid w1 cs1 hb1 hs1 hout1; have hgd1 := hgD w1 hch1)
            | (go_at_call 94
               refine (each_any k g B T E fE _ X H (fun j => j = w1.heap.size) _ 1 [beg] t cs1 _ (hb1.alloc _) hm1.1.ov hm1.1.each hm1.2 (H.env _ _ ((Below.refl B w1).alloc (by have := hch1.size; omega) _) (H.env _ _ (hch1.below (by omega) (fun j e => by rw [e]; exact hgB)) hE))
                 ⟨rfl, fun _ => ⟨w1.heap.size, 0, rfl, by simp, rfl, fun j u hu => by rw [Nat.zero_add, cell_of_row _ _ j _ _ (0, 0) (heap_alloc_new w1 _)]; simpa using hu⟩⟩ (fun j hj => by omega) (by simp) (by simpa using hbl)).mono ?_
               intro e2 w2 h2
               obtain ⟨v2, rfl, hm2⟩ := mid_of_each (lastV := .func (.func fL) #[.pointer (some ⟨g, 0, none⟩)] #[]) hm1.1 (hch1.alloc _) hshort h2
               obtain ⟨cs2, hb2, hc2, hX2⟩ := hm2.blk
               obtain ⟨its2, hits2', hown2, hbs2⟩ := hm2.its
               have hits2 := Lib.hid hits2'
               clear hits2'
               have hsz2 := hm2.chg.size
               have hq1 : w2.cell? ⟨g, 2, none⟩ = some (.bool false) := (hb2.cell _).trans hc2.ov
               have hq3 : w2.cell? ⟨g, 70, none⟩ = some (.func (.func fL) #[.pointer (some ⟨g, 0, none⟩)] #[]) := (hb2.cell _).trans hc2.last)
            | (go_at_call 95; go_in)
            | (refine (hLast (k.each t beg).2 cs2 w2 hb2 hX2 hm2.env).mono ?_
               rintro e3 w3 ⟨v3, cs3, rfl, hb3, hX3, hout3, hch3, ho3⟩
               obtain ⟨A3, c3, its3, rfl, hits3', hr3, hi3⟩ := ho3
               have hits3 := Lib.hid hits3'
               clear hits3'
               have hch3s := hch3.size)
            | (at_builtin
               refine wpList_append_rd _ rfl (.tmp 42) (.tmp 47) 67 rfl w.heap.size 81 i0 _ 2 32 Tryd.underlying67 hi0 hz0 hz1 hz2 rfl (by omega) v2 (k.each t beg).1.length (its2.flatMap fun t => [.int .i64 t.1, t.2.1]) rfl
                 (ownsRow_chg hown2 hch3 (fun j e h => by have := (hown2.lt j e).1; omega)) _ A3 (k.last (k.each t beg).2).1.length c3 _ rfl hr3 (items_one hi3) (by simp only [maxLen]; omega) (by omega) (by omega) ?_
               intro v4 w4 hown4 hg4 _
               have hvg : some g ≠ v2.ownBlock := fun e => by have := (hown2.lt g e.symm).1; omega
               have hb4 : w4.cell? ⟨g, 2, none⟩ = some (.bool false) := ((hb3.grown hg4 hvg).cell _).trans ((hout3 2 (by omega)).trans hc2.ov)
               have hf4 : w4.frozen? ⟨g, 2, none⟩ = false := (hb3.grown hg4 hvg).frozen _)
            | (go_at_call 91; go_in))
          go_end0
          go_wp2
          go_ret2
          exact end_close_fn H hgl hm2 rfl ⟨cs2, hb2, hc2, hout3⟩ hb3 hX3 hch3 hits3.out hi3 ⟨its2, hits2.out, hbs2, hown4⟩ hg4 (fun j e => hown2.lt j e)
    · have e : k.fin ⟨false, beg, t⟩ port = ([], 1, ⟨false, beg, t⟩) := by simp [LK.fin, hp]
      rw [e]
      have hp1 : (port == 0) = false := by simpa using hp
      have hp2 : (port != 0) = true := by simpa using hp
      clear hb hc hX
      go_enter Tryd.func86, Tryd.ntmps86
      go_wp2
      go_ret2
      exact ansPost_same H hs0 hE
end
end Go.Proofs.YtfbfcehjlaallaaDoor

/- Every kind of machines of lines is a machine that Drive can drive. -/
namespace Go.Proofs.YtfbfcehjlaallaaDoor
open Go Go.RowKit

/-- How much comes of lines. -/
structure LSmall (k : LK) (I : k.τ → Prop) : Prop where
  keep : ∀ t l, I t → l.length ≤ 64 → I (k.each t l).2
  each : ∀ t l, I t → l.length ≤ 64 → ((k.each t l).1.map fun o => o.2.length).sum ≤ 1000
  last : ∀ t, I t → ((k.last t).1.map fun o => o.2.length).sum ≤ 1000
  fewE : ∀ t l, (k.each t l).1.length ≤ 2
  fewL : ∀ t, (k.last t).1.length ≤ 2

theorem eachAll_small {k : LK} {I : k.τ → Prop} (H : LSmall k I) (ls : List Bs) : ∀ t, I t → (∀ l ∈ ls, l.length ≤ 64) →
    ((eachAll k t ls).1.map fun o => o.2.length).sum ≤ 1000 * ls.length ∧ (eachAll k t ls).1.length ≤ 2 * ls.length ∧ I (eachAll k t ls).2 := by
  induction ls with
  | nil => intro t h _; simp [eachAll, h]
  | cons l r ih =>
    intro t h hl
    have h1 := ih (k.each t l).2 (H.keep t l h (hl l (by simp))) (fun x hx => hl x (by simp [hx]))
    have h2 := H.each t l h (hl l (by simp))
    have h3 := H.fewE t l
    simp only [eachAll, List.map_append, List.sum_append, List.length_append, List.length_cons]
    exact ⟨by omega, by omega, h1.2.2⟩

def LinesInv (k : LK) (g B : Nat) (T : TypeId) (fE : FuncId) (lastV : Value) (X : k.τ → Array Value → Prop) (s : LS k.τ) (F : Nat → Prop) (w : World) : Prop :=
  (∀ j, F j ↔ j = g) ∧ B ≤ g ∧ LInv k g T fE lastV X w s

section
variable {k : LK} {g B : Nat} {T : TypeId} {E : World → Prop} {fE : FuncId} {lastV : Value} {X : k.τ → Array Value → Prop}

theorem lines_cells {s : LS k.τ} {w : World} (h : LInv k g T fE lastV X w s) : w.cell? ⟨g, 0, none⟩ = some (.int .i64 0) ∧ w.cell? ⟨g, 1, none⟩ = some (.bool false) ∧ w.cell? ⟨g, 2, none⟩ = some (.bool s.over) ∧ w.cell? ⟨g, 67, none⟩ = some (.int .i64 s.beg.length) ∧ s.beg.length ≤ 64 := by
  obtain ⟨cs, hb, hc, _⟩ := h
  obtain ⟨f, hs, _⟩ := hc.spl
  exact ⟨(hb.cell _).trans hc.at_, (hb.cell _).trans hc.more, (hb.cell _).trans hc.ov, (hb.cell _).trans hs.n, hs.le⟩

theorem lines_held (n : Nat) (w : World) (h : w.cell? ⟨g, 67, none⟩ = some (.int .i64 n)) :
    Calls Tryd.prog 98 #[.pointer (some ⟨g, 0, none⟩)] w fun e w' => e = .returned (.int .i64 n) ∧ w = w' := by
  go_enter Tryd.func98, Tryd.ntmps98
  go_wp2
  go_ret
  exact ⟨rfl, rfl⟩

theorem linv_keep {s : LS k.τ} {w w' : World} {S : Nat → Prop} (h : LInv k g T fE lastV X w s) (hc : Chg S w w') (hS : ¬ S g) : LInv k g T fE lastV X w' s := by
  obtain ⟨cs, hb, h2⟩ := h
  exact ⟨cs, hb.chg hc hS, h2⟩

theorem mans_of_ans {w w' : World} {a : Outs × Int × LS k.τ} {e : Ending} (hB : B ≤ g) {F : Nat → Prop} (hF : ∀ j, F j ↔ j = g) (h : AnsPost k g B T E fE lastV X w a e w') : MAns k.mach (LinesInv k g B T fE lastV X) w F a e w' := by
  obtain ⟨v, rfl, hinv, hch, _, _, ho⟩ := h
  exact ⟨v, F, rfl, ⟨hF, hB, hinv⟩, fun j hj => .inl hj, hch.mono (fun j hj _ => (hF j).2 hj), ho⟩

theorem lines_mach (H : LWalk Tryd.prog k g B T E fE lastV X) (HL : LLast Tryd.prog k g T E lastV X) {I : k.τ → Prop} (HS : LSmall k I) (hXI : ∀ t cs, X t cs → I t) (Tp : TypeId)
    (mN : Meth Tryd.prog Tp (.pointer (some ⟨g, 0, none⟩)) "Need" 90 (.pointer (some ⟨g, 0, none⟩)))
    (fH : FuncId) (mH : Meth Tryd.prog Tp (.pointer (some ⟨g, 0, none⟩)) "Held" fH (.pointer (some ⟨g, 0, none⟩)))
    (mF : Meth Tryd.prog Tp (.pointer (some ⟨g, 0, none⟩)) "Feed" 87 (.pointer (some ⟨g, 0, none⟩)))
    (mE : Meth Tryd.prog Tp (.pointer (some ⟨g, 0, none⟩)) "End" 86 (.pointer (some ⟨g, 0, none⟩)))
    (mM : Meth Tryd.prog Tp (.pointer (some ⟨g, 0, none⟩)) "More" 89 (.pointer (some ⟨g, 0, none⟩)))
    (held : ∀ (s : LS k.τ) (w : World), LInv k g T fE lastV X w s → E w → Calls Tryd.prog fH #[.pointer (some ⟨g, 0, none⟩)] w fun e w' => e = .returned (.int .i64 (k.mach.held s)) ∧ Chg (fun _ => False) w w') :
    MachOk Tryd.prog k.mach B Tp (.pointer (some ⟨g, 0, none⟩)) E (LinesInv k g B T fE lastV X) 90 fH 87 86 89
      (.pointer (some ⟨g, 0, none⟩)) (.pointer (some ⟨g, 0, none⟩)) (.pointer (some ⟨g, 0, none⟩)) (.pointer (some ⟨g, 0, none⟩)) (.pointer (some ⟨g, 0, none⟩)) where
  env := H.env
  keep s F w w' S h hc hS := ⟨h.1, h.2.1, linv_keep h.2.2 hc (hS g ((h.1 g).2 rfl))⟩
  inside s F w h := by
    obtain ⟨hF, hB, cs, hb, _⟩ := h
    have := hb.lt
    exact ⟨by omega, fun j hj => by have := (hF j).1 hj; omega⟩
  mN := mN
  mH := mH
  mF := mF
  mE := mE
  mM := mM
  need s F w h _ := by
    obtain ⟨h0, h1, h2, _⟩ := lines_cells h.2.2
    exact (base_need s.over w h0 h1 h2).mono (by rintro e w' ⟨rfl, rfl⟩; exact ⟨rfl, Chg.refl _ _⟩)
  held s F w h hE := held s w h.2.2 hE
  feed s F w port A c bs h hE hr hl := (feed_any H A c port bs s w h.2.2 hE (hr.mono (fun j hj _ e => hj ((h.1 j).2 e))) hl).mono (fun _ _ ha => mans_of_ans h.2.1 h.1 ha)
  fin s F w port h hE := (end_any H HL port s w h.2.2 hE).mono (fun _ _ ha => mans_of_ans h.2.1 h.1 ha)
  more s F w h hE := by
    obtain ⟨_, h1, h2, _⟩ := lines_cells h.2.2
    exact (base_more s.over w h1 h2).mono (by rintro e w' ⟨rfl, rfl⟩; exact mans_of_ans h.2.1 h.1 (ansPost_same H h.2.2 hE))
  small s F w h := by
    obtain ⟨_, _, cs, _, hc, hX⟩ := h
    obtain ⟨f, hs, _⟩ := hc.spl
    have hI := hXI _ _ hX
    have hle := hs.le
    refine ⟨fun port bs hb => ?_, fun port => ?_, ⟨by simp, by simp⟩⟩
    · have e : k.mach.feed s port bs = k.feed s port bs := rfl
      rw [e]
      unfold LK.feed
      split
      · simp
      · split
        · simp
        · split
          · simp
          · rename_i hb32
            have h1 := eachAll_small HS (cutS s.beg bs).1 s.t hI (cutS_len bs s.beg hle).2
            have h2 := cutS_le s.beg bs
            dsimp only
            split <;> exact ⟨by dsimp only; omega, by dsimp only; omega⟩
    · have e : k.mach.fin s port = k.fin s port := rfl
      rw [e]
      unfold LK.fin
      split
      · simp
      · split
        · simp
        · dsimp only
          have hfew := HS.fewE s.t s.beg
          have h1 := HS.each s.t s.beg hI hle
          split
          · have h3 := HS.last s.t hI
            have h4 := HS.fewL s.t
            simp only [List.nil_append]
            exact ⟨by omega, by omega⟩
          · have h3 := HS.last _ (HS.keep s.t s.beg hI hle)
            have h4 := HS.fewL (k.each s.t s.beg).2
            simp only [List.length_append, List.map_append, List.sum_append]
            exact ⟨by omega, by omega⟩
end
end Go.Proofs.YtfbfcehjlaallaaDoor
