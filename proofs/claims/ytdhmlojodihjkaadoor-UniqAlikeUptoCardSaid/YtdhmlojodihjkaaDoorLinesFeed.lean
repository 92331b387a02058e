/- The contracts of the methods of filter.Lines: Feed, End, More, Need; what is promised of every kind of machines of lines. -/
import Derived.Test.YtdhmlojodihjkaaDoorLinesEach
namespace Go.Proofs.YtdhmlojodihjkaaDoor
open Go Go.RowKit

theorem outs_of_own {w : World} {base : Nat} {v : Value} {l : Outs} {its : List (Int × Value × Bs)} (h1 : l = its.map (fun t => (t.1, t.2.2)))
    (h2 : w.ownsRow base 114 2 v l.length (its.flatMap fun t => [.int .i64 t.1, t.2.1])) {D : Nat → Prop} (h3 : ∀ t ∈ its, BsAt w D t.2.1 t.2.2) (hD : ∀ j, D j → base ≤ j) : OutsAt w (fun k => base ≤ k) v l := by
  obtain ⟨A, c, rfl, hr⟩ := own_rd h2
  exact ⟨A, c, its, rfl, h1, hr, fun t ht => (h3 t ht).mono (fun j hj _ => hD j hj)⟩

/-- A machine of lines in memory. -/
def LInv (k : LK) (g : Nat) (T : TypeId) (fE : FuncId) (lastV : Value) (X : k.τ → Array Value → Prop) (w : World) (s : LS k.τ) : Prop :=
  ∃ cs, Blk w g T cs ∧ LCells cs s.over s.beg (eachFn fE g) lastV ∧ X s.t cs

def AnsPost (k : LK) (g B : Nat) (T : TypeId) (E : World → Prop) (fE : FuncId) (lastV : Value) (X : k.τ → Array Value → Prop) (w : World) (a : Outs × Int × LS k.τ) (e : Ending) (w' : World) : Prop :=
  ∃ v, e = .returned (.tuple #[v, .int .i64 a.2.1]) ∧ LInv k g T fE lastV X w' a.2.2 ∧ Chg (fun j => j = g) w w' ∧ E w' ∧ B ≤ w'.heap.size ∧ OutsAt w' (fun j => w.heap.size ≤ j) v a.1

section
variable {k : LK} {g B : Nat} {T : TypeId} {E : World → Prop} {fE : FuncId} {lastV : Value} {X : k.τ → Array Value → Prop}

theorem ansPost_same {w : World} {s : LS k.τ} {n : Int} (H : LWalk Tryd.prog k g B T E fE lastV X) (h : LInv k g T fE lastV X w s) (hE : E w) : AnsPost k g B T E fE lastV X w ([], n, s) (.returned (.tuple #[.slice none 0 0, .int .i64 n])) w :=
  ⟨_, rfl, h, Chg.refl _ _, hE, by obtain ⟨cs, hb, _⟩ := h; have := hb.lt; have := H.le; omega, OutsAt.nil _ _ _ _⟩

theorem cutS_le (g bs : Bs) : (cutS g bs).1.length ≤ g.length + bs.length := by have := cutS_sum bs g; omega

set_option maxHeartbeats 1000000 in
set_option maxRecDepth 100000 in
theorem feed_any (H : LWalk Tryd.prog k g B T E fE lastV X) (A : Option Addr) (c : Nat) (port : Int) (bs : Bs) (s : LS k.τ) (w : World)
    (hs : LInv k g T fE lastV X w s) (hE : E w) (hr : Rd w (fun j => j ≠ g) 1 A bs.length (u8s bs)) (hl : bs.length ≤ 100000) :
    Calls Tryd.prog 129 #[.pointer (some ⟨g, 0, none⟩), .int .i64 port, .slice A bs.length c] w (AnsPost k g B T E fE lastV X w (k.feed s port bs)) := by
  have hs0 := hs
  obtain ⟨cs, hb, hc, hX⟩ := hs
  have h0 : w.cell? ⟨g, 0, none⟩ = some (.int .i64 0) := (hb.cell _).trans hc.at_
  have h1 : w.cell? ⟨g, 1, none⟩ = some (.bool false) := (hb.cell _).trans hc.more
  have h2 : w.cell? ⟨g, 2, none⟩ = some (.bool s.over) := (hb.cell _).trans hc.ov
  obtain ⟨ov, beg, t⟩ := s
  simp only at hc hX h2
  by_cases ho : ov = true
  · subst ho
    have e : k.feed ⟨true, beg, t⟩ port bs = ([], 4, ⟨true, beg, t⟩) := by unfold LK.feed; rw [if_pos rfl]
    rw [e]
    clear hb hc hX hr
    go_enter Tryd.func129, Tryd.ntmps129
    go_wp2
    go_ret2
    exact ansPost_same H hs0 hE
  · have ho' : ov = false := by simpa using ho
    subst ho'
    by_cases hp : port = 0
    · subst hp
      by_cases hlen : bs.length = 0 ∨ bs.length > 32
      · have e : k.feed ⟨false, beg, t⟩ 0 bs = ([], 1, ⟨false, beg, t⟩) := by unfold LK.feed; rw [if_neg (by simp), if_neg (by simp), if_pos hlen]
        rw [e]
        clear hb hc hX hr
        rcases hlen with hz | hz
        · have hz1 : ((bs.length : Int) == 0) = true := by rw [hz]; rfl
          go_enter Tryd.func129, Tryd.ntmps129
          go_wp2
          go_ret2
          exact ansPost_same H hs0 hE
        · have hz1 : ((bs.length : Int) == 0) = false := by rw [beq_eq_false_iff_ne]; omega
          have hz2 : (32 : Int) < (bs.length : Int) := by omega
          go_enter Tryd.func129, Tryd.ntmps129
          go_wp2
          go_ret2
          exact ansPost_same H hs0 hE
      · have hz1 : ((bs.length : Int) == 0) = false := by rw [beq_eq_false_iff_ne]; omega
        have hz2 : ¬ (32 : Int) < (bs.length : Int) := by omega
        obtain ⟨f0, hspl, hf0⟩ := hc.spl
        obtain rfl := hf0 rfl
        have hcut := cut_any T g 3 cs beg bs A c w hb hspl hr (by omega)
        have hle := cutS_le beg bs
        have hl64 := (cutS_len bs beg hspl.le).2
        have hfl := cutS_failed bs beg
        have e : k.feed ⟨false, beg, t⟩ 0 bs = (if (cutS beg bs).2.2 = true then ((eachAll k t (cutS beg bs).1).1, 20, { over := true, beg := [], t := (eachAll k t (cutS beg bs).1).2 }) else ((eachAll k t (cutS beg bs).1).1, 0, { over := false, beg := (cutS beg bs).2.1, t := (eachAll k t (cutS beg bs).1).2 })) := by
          unfold LK.feed; rw [if_neg (by simp), if_neg (by simp), if_neg hlen]
        rw [e]
        have hbeg := hspl.le
        generalize cutS beg bs = r at *
        obtain ⟨ls, gb, fl⟩ := r
        simp only at hle hl64 hfl
        generalize hea : eachAll k t ls = ea
        have hgl := hb.lt
        have each2 : ∀ (w1 : World) (cs1 : Array Value) (A1 : Option Addr) (c1 : Nat), Blk w1 g T cs1 → SplAt cs1 3 gb fl → (∀ i, i < 3 ∨ 3 + 66 ≤ i → cs1[i]? = cs[i]?) → Chg (fun j => j = g) w w1 → Rd w1 (fun j => w.heap.size ≤ j) 1 A1 ls.length (ls.map strv) →
            Calls Tryd.prog 136 #[.pointer (some ⟨g, 0, none⟩), .slice A1 ls.length c1] w1 fun e2 w2 => ∃ A2 c2 cs2, e2 = .returned (.slice A2 ea.1.length c2) ∧ Blk w2 g T cs2 ∧ X ea.2 cs2 ∧
              w2.cell? ⟨g, 2, none⟩ = some (.bool false) ∧ w2.frozen? ⟨g, 2, none⟩ = false ∧ E w2 ∧ Chg (fun j => j = g) w w2 ∧ B ≤ w2.heap.size ∧ OutsAt w2 (fun j => w.heap.size ≤ j) (.slice A2 ea.1.length c2) ea.1 ∧
              Hid (fl = false → LCells cs2 false gb (eachFn fE g) lastV) ∧ Hid (fl = true → LCells (cs2.setIfInBounds 2 (.bool true)) true [] (eachFn fE g) lastV) := by
          intro w1 cs1 A1 c1 hb1 hs1 hout1 hch1 hr1
          have hE1 : E w1 := H.env _ _ (hch1.below (by have := H.le; omega) (fun j e => by rw [e]; exact H.le)) hE
          have hX1 : X t cs1 := H.far t cs cs1 (fun i hi => hout1 i (by omega)) hX
          refine (each_any k g B T E fE lastV X H _ A1 c1 ls t cs1 w1 hb1 ((hout1 2 (by omega)).trans hc.ov) ((hout1 69 (by omega)).trans hc.each) hX1 hE1 hr1 (fun j hj => by omega) (by omega) hl64).mono ?_
          rintro e2 w2 ⟨v2, cs2, rfl, hb2, hX2, hout2, hch2, hE2, hB2, its, hits, hown2, hbs2⟩
          rw [hea] at hX2 hits hown2
          have hg1 := hch1.size
          have ho2 := outs_of_own hits hown2 hbs2 (fun j hj => hj.1)
          obtain ⟨A2, c2, its2, rfl, hits2, hr2, hi2⟩ := ho2
          have hcs2 : LCells cs2 false gb (eachFn fE g) lastV ∨ fl = true := by
            by_cases hf : fl = true
            · exact .inr hf
            · left
              have hf' : fl = false := by simpa using hf
              have : LCells cs1 false gb (eachFn fE g) lastV := ⟨(hout1 0 (by omega)).trans hc.at_, (hout1 1 (by omega)).trans hc.more, (hout1 2 (by omega)).trans hc.ov, ⟨fl, hs1, fun _ => hf'⟩, (hout1 69 (by omega)).trans hc.each, (hout1 70 (by omega)).trans hc.last⟩
              exact this.far hout2
          refine ⟨A2, c2, cs2, rfl, hb2, hX2, (hb2.cell _).trans ((hout2 2 (by omega)).trans ((hout1 2 (by omega)).trans hc.ov)), hb2.frozen _, hE2, hch1.trans hch2 (fun _ h _ => h), hB2,
            OutsAt.mono ⟨A2, c2, its2, rfl, hits2, hr2, hi2⟩ (fun j hj _ => by omega), Lib.hid (fun hf => hcs2.resolve_right (by rw [hf]; decide)), Lib.hid (fun hf => ?_)⟩
          rw [hfl hf] at hs1
          have hs2 : LCells cs1 true [] (eachFn fE g) lastV ∨ True := .inr trivial
          have hsz : 70 < cs2.size := by
            have := (hout2 70 (by omega)).trans ((hout1 70 (by omega)).trans hc.last)
            exact (Array.getElem?_eq_some_iff.1 this).1
          have hget : ∀ i, i < 71 → i ≠ 2 → (cs2.setIfInBounds 2 (.bool true))[i]? = cs1[i]? := fun i hi hne => by
            rw [Array.getElem?_setIfInBounds_ne (by omega)]; exact hout2 i hi
          refine ⟨(hget 0 (by omega) (by omega)).trans ((hout1 0 (by omega)).trans hc.at_), (hget 1 (by omega) (by omega)).trans ((hout1 1 (by omega)).trans hc.more), Array.getElem?_setIfInBounds_self_of_lt (by omega), ⟨fl, ?_, fun h => by cases h⟩,
            (hget 69 (by omega) (by omega)).trans ((hout1 69 (by omega)).trans hc.each), (hget 70 (by omega) (by omega)).trans ((hout1 70 (by omega)).trans hc.last)⟩
          exact hs1.far (fun i h3 h68 => hget i (by omega) (by omega))
        have hXc := H.far
        clear hb hc hX hr
        have hgs : ∀ w2 : World, Chg (fun j => j = g) w w2 → w2.heap.size ≥ w.heap.size := fun w2 h => h.size
        cases fl
        · simp only [Bool.false_eq_true, if_false]
          go_enter Tryd.func129, Tryd.ntmps129
          go_wp2_with (first
            | (go_at_call 138; go_in)
            | (go_at_call 134; go_in)
            | (go_at_call 139; refine hcut.mono ?_; rintro e1 w1 ⟨v1, cs1, rfl, hb1, hs1, hout1, hch1, hown1⟩; obtain ⟨A1, c1, rfl, hr1⟩ := own_rd hown1)
            | (go_at_call 136; refine (each2 w1 cs1 A1 c1 hb1 hs1 hout1 hch1 hr1).mono ?_; rintro e2 w2 ⟨A2, c2, cs2, rfl, hb2, hX2, hv2, hf2, hE2, hch2, hB2, ho2, hlc2, _⟩)
            | (go_at_call 137; go_in)
            | (go_at_call 133; go_in))
          go_ret2
          exact ⟨_, rfl, ⟨cs2, hb2, hlc2.out trivial, hX2⟩, hch2, hE2, hB2, ho2⟩
        · simp only [if_true]
          go_enter Tryd.func129, Tryd.ntmps129
          go_wp2_with (first
            | (go_at_call 138; go_in)
            | (go_at_call 134; go_in)
            | (go_at_call 139; refine hcut.mono ?_; rintro e1 w1 ⟨v1, cs1, rfl, hb1, hs1, hout1, hch1, hown1⟩; obtain ⟨A1, c1, rfl, hr1⟩ := own_rd hown1)
            | (go_at_call 136; refine (each2 w1 cs1 A1 c1 hb1 hs1 hout1 hch1 hr1).mono ?_; rintro e2 w2 ⟨A2, c2, cs2, rfl, hb2, hX2, hv2, hf2, hE2, hch2, hB2, ho2, _, hlc2⟩)
            | (go_at_call 137; go_in)
            | (go_at_call 133; go_in))
          go_end0
          go_wp2
          go_ret2
          exact ⟨_, rfl, ⟨_, hb2.set _ _, hlc2.out trivial, hXc _ _ _ (fun i hi => Array.getElem?_setIfInBounds_ne (by omega)) hX2⟩, hch2.setCell (.inl rfl) _, H.env _ _ ((Below.refl _ _).setCell (p := ⟨g, 2, none⟩) H.le _) hE2, by simpa [World.setCell] using hB2,
            ho2.chg ((Chg.refl (fun j => j = g) w2).setCell (p := ⟨g, 2, none⟩) (.inl rfl) _) (fun j hj _ e => by omega)⟩
    · have e : k.feed ⟨false, beg, t⟩ port bs = ([], 1, ⟨false, beg, t⟩) := by simp [LK.feed, hp]
      rw [e]
      have hp1 : (port == 0) = false := by simpa using hp
      have hp2 : (port != 0) = true := by simpa using hp
      clear hb hc hX hr
      go_enter Tryd.func129, Tryd.ntmps129
      go_wp2
      go_ret2
      exact ansPost_same H hs0 hE
end
end Go.Proofs.YtdhmlojodihjkaaDoor
