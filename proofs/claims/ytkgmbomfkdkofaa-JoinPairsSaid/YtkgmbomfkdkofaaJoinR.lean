/- join, plain: its run, what its methods answer, what rows comes to. -/
import Derived.Test.YtkgmbomfkdkofaaJoinP
namespace Go.Proofs.Ytkgmbomfkdkofaa

theorem upd_same {α : Type} (f : Nat → α) (k : Nat) (x : α) : upd f k x k = x := by simp [upd]
theorem upd_ne {α : Type} (f : Nat → α) {k j : Nat} (x : α) (h : j ≠ k) : upd f k x j = f j := by simp [upd, h]
theorem upd_upd {α : Type} (f : Nat → α) (k : Nat) (x y : α) : upd (upd f k x) k y = upd f k y := by funext j; unfold upd; split <;> rfl

namespace JA
/-- More lines, more ends. -/
def ext (s : JA) (m : Nat → List Bs) (e : Nat → Bool) : JA := { s with q := fun k => s.q k ++ m k, en := e }
def OkE (en : Nat → Bool) (m : Nat → List Bs) (e : Nat → Bool) : Prop := ∀ k, en k = true → m k = [] ∧ e k = true
end JA

theorem jgo_what (c : UInt8) (N : Nat) (en : Bool) : ∀ (q : List Bs) (key : Bs) (ls : List Bs), (jgo c N en key ls q).what ≤ 2 ∧ ((jgo c N en key ls q).what = 1 → en = false ∧ (jgo c N en key ls q).rest = [] ∧ (jgo c N en key ls q).err = 0) ∧ ((jgo c N en key ls q).what = 2 → en = true ∧ (jgo c N en key ls q).err = 0) := by
  intro q
  induction q with
  | nil =>
    intro key ls
    rw [jgo]
    dsimp only
    cases en
    · simp
    · by_cases h : ls = [] <;> simp [h]
  | cons s r ih =>
    intro key ls
    rw [jgo]
    split
    · exact ih _ _
    · split
      · simp
      · split
        · simp
        · split
          · simp
          · exact ih _ _
theorem jgo_ext' (c : UInt8) (N : Nat) (en : Bool) (m : List Bs) (e : Bool) (hE : en = true → m = [] ∧ e = true) (key : Bs) (ls q : List Bs) :
    ((jgo c N en key ls q).what = 1 → jgo c N e key ls (q ++ m) = jgo c N e (jgo c N en key ls q).key (jgo c N en key ls q).ls ((jgo c N en key ls q).rest ++ m)) ∧
    ((jgo c N en key ls q).what ≠ 1 → jgo c N e key ls (q ++ m) = { jgo c N en key ls q with rest := (jgo c N en key ls q).rest ++ m }) := by
  cases en with
  | true =>
    obtain ⟨rfl, rfl⟩ := hE rfl
    have hw := jgo_what c N true q key ls
    refine ⟨fun h => absurd (hw.2.1 h).1 (by decide), fun _ => ?_⟩
    rw [List.append_nil, List.append_nil]
  | false =>
    have h := jgo_ext c N e m q key ls
    refine ⟨fun h1 => ?_, h.2⟩
    obtain ⟨a, _, b⟩ := h.1 h1
    rw [b, a, List.nil_append]

theorem grp_ext (c : UInt8) (N : Nat) (s : JA) (m : Nat → List Bs) (e : Nat → Bool) (hE : JA.OkE s.en m e) (h : (s.grp c N).what ≠ 1) : (s.ext m e).grp c N = { s.grp c N with rest := (s.grp c N).rest ++ m s.wk } :=
  (jgo_ext' c N (s.en s.wk) (m s.wk) (e s.wk) (hE s.wk) (s.key s.wk) (s.ls s.wk) (s.q s.wk)).2 h

theorem set_ext (s : JA) (k : Nat) (g : GR) (m : Nat → List Bs) (e : Nat → Bool) : (s.ext m e).set k { g with rest := g.rest ++ m k } = (s.set k g).ext m e := by
  unfold JA.ext JA.set
  simp only [JA.mk.injEq, and_self, and_true]
  funext j
  unfold upd
  split
  · rename_i h; rw [h]
  · rfl

/-- A step that does not wait is the same with more lines. -/
theorem aStep_ext (c : UInt8) (N : Nat) (s : JA) (m : Nat → List Bs) (e : Nat → Bool) (hE : JA.OkE s.en m e) (h : (aStep c N s).2.2.1 = true ∨ (aStep c N s).2.1.over = true) :
    aStep c N (s.ext m e) = ((aStep c N s).1, (aStep c N s).2.1.ext m e, (aStep c N s).2.2) := by
  have hwk : (s.ext m e).wk = s.wk := rfl
  unfold aStep at h ⊢
  by_cases h0 : s.over = true
  · rw [if_pos h0, if_pos (show (s.ext m e).over = true from h0)]
  rw [if_neg h0] at h
  rw [if_neg h0, if_neg (show ¬ (s.ext m e).over = true from h0)]
  by_cases h1 : s.want 0 = false ∧ s.want 1 = false
  · rw [if_pos h1, if_pos (show (s.ext m e).want 0 = false ∧ (s.ext m e).want 1 = false from h1)]
    rfl
  rw [if_neg h1] at h
  rw [if_neg h1, if_neg (show ¬ ((s.ext m e).want 0 = false ∧ (s.ext m e).want 1 = false) from h1)]
  have hne : (s.grp c N).what ≠ 1 := fun hw => by
    have := (jgo_what c N (s.en s.wk) (s.q s.wk) (s.key s.wk) (s.ls s.wk)).2.1 hw
    have he : (s.grp c N).err = 0 := this.2.2
    rw [if_neg (by rw [he]; simp), if_neg (by rw [hw]; decide), if_pos hw] at h
    rcases h with h | h
    · cases h
    · exact h0 h
  have hg := grp_ext c N s m e hE hne
  have hs := set_ext s s.wk (s.grp c N) m e
  rw [hg, hwk, hs]
  by_cases h2 : (s.grp c N).err ≠ 0
  · rw [if_pos h2, if_pos h2]; rfl
  rw [if_neg h2, if_neg h2]
  by_cases h3 : (s.grp c N).what = 2
  · rw [if_pos h3, if_pos h3]; rfl
  rw [if_neg h3, if_neg h3, if_neg hne, if_neg hne]
  rfl

theorem aStep_wait_eq (c : UInt8) (N : Nat) (s : JA) (h1 : (aStep c N s).2.2.1 = false) (h2 : (aStep c N s).2.1.over = false) :
    s.over = false ∧ ¬ (s.want 0 = false ∧ s.want 1 = false) ∧ (s.grp c N).err = 0 ∧ (s.grp c N).what = 1 ∧ aStep c N s = ([], s.set s.wk (s.grp c N), false, 0) := by
  unfold aStep at h1 h2 ⊢
  by_cases h0 : s.over = true
  · rw [if_pos h0] at h2; rw [h0] at h2; cases h2
  rw [if_neg h0] at h1 h2 ⊢
  by_cases h3 : s.want 0 = false ∧ s.want 1 = false
  · rw [if_pos h3] at h1; cases h1
  rw [if_neg h3] at h1 h2 ⊢
  by_cases h4 : (s.grp c N).err ≠ 0
  · rw [if_pos h4] at h2; cases h2
  rw [if_neg h4] at h1 h2 ⊢
  by_cases h5 : (s.grp c N).what = 2
  · rw [if_pos h5] at h2; cases h2
  rw [if_neg h5] at h1 h2 ⊢
  by_cases h6 : (s.grp c N).what = 1
  · rw [if_pos h6]
    exact ⟨by simpa using h0, h3, Classical.not_not.1 h4, h6, rfl⟩
  · rw [if_neg h6] at h1; cases h1

/-- A step that waits: with more lines it goes on from there. -/
theorem aStep_wait (c : UInt8) (N : Nat) (s : JA) (m : Nat → List Bs) (e : Nat → Bool) (hE : JA.OkE s.en m e) (h1 : (aStep c N s).2.2.1 = false) (h2 : (aStep c N s).2.1.over = false) :
    (aStep c N s).1 = [] ∧ (aStep c N s).2.2.2 = 0 ∧ aStep c N (s.ext m e) = aStep c N ((aStep c N s).2.1.ext m e) ∧ (aStep c N s).2.1.en = s.en ∧ (aStep c N s).2.1.want (aStep c N s).2.1.wk = true ∧ (aStep c N s).2.1.q (aStep c N s).2.1.wk = [] ∧ s.en (aStep c N s).2.1.wk = false ∧ (aStep c N s).2.1.wk < 2 := by
  obtain ⟨h0, h3, h4, h6, eS⟩ := aStep_wait_eq c N s h1 h2
  rw [eS]
  dsimp only
  have hw := (jgo_what c N (s.en s.wk) (s.q s.wk) (s.key s.wk) (s.ls s.wk)).2.1 h6
  have hx := (jgo_ext' c N (s.en s.wk) (m s.wk) (e s.wk) (hE s.wk) (s.key s.wk) (s.ls s.wk) (s.q s.wk)).1 h6
  have hwant : s.want s.wk = true := by
    unfold JA.wk
    by_cases h : s.want 0 = true
    · rw [if_pos h]; exact h
    · rw [if_neg h]
      cases h7 : s.want 1 with
      | true => rfl
      | false => exact absurd ⟨by simpa using h, h7⟩ h3
  have hrest : (s.grp c N).rest = [] := hw.2.1
  have e3 : (s.set s.wk (s.grp c N)).wk = s.wk := rfl
  rw [e3]
  refine ⟨rfl, rfl, ?_, rfl, hwant, ?_, hw.1, ?_⟩
  · have e1 : ((s.set s.wk (s.grp c N)).ext m e).grp c N = (s.ext m e).grp c N := by
      show jgo c N (e s.wk) (upd s.key s.wk (s.grp c N).key s.wk) (upd s.ls s.wk (s.grp c N).ls s.wk) (upd s.q s.wk (s.grp c N).rest s.wk ++ m s.wk) = jgo c N (e s.wk) (s.key s.wk) (s.ls s.wk) (s.q s.wk ++ m s.wk)
      rw [upd_same, upd_same, upd_same]
      exact hx.symm
    have e2 : ∀ g : GR, ((s.set s.wk (s.grp c N)).ext m e).set s.wk g = (s.ext m e).set s.wk g := fun g => by
      unfold JA.ext JA.set
      simp only [upd_upd, JA.mk.injEq, and_self, and_true]
      funext j
      by_cases h : j = s.wk <;> simp [upd, h]
    have e3 : ((s.set s.wk (s.grp c N)).ext m e).wk = s.wk := rfl
    have e4 : (s.ext m e).wk = s.wk := rfl
    unfold aStep
    rw [if_neg (show ¬ (s.ext m e).over = true by show ¬ s.over = true; rw [h0]; decide), if_neg (show ¬ ((s.set s.wk (s.grp c N)).ext m e).over = true by show ¬ s.over = true; rw [h0]; decide), if_neg (show ¬ ((s.ext m e).want 0 = false ∧ (s.ext m e).want 1 = false) from h3), if_neg (show ¬ (((s.set s.wk (s.grp c N)).ext m e).want 0 = false ∧ ((s.set s.wk (s.grp c N)).ext m e).want 1 = false) from h3)]
    rw [e1, e3, e4, e2]
    rfl
  · show upd s.q s.wk (s.grp c N).rest s.wk = []
    rw [upd_same, hrest]
  · unfold JA.wk; split <;> omega

theorem aStep_en (c : UInt8) (N : Nat) (s : JA) : (aStep c N s).2.1.en = s.en := by
  unfold aStep
  split
  · rfl
  · split
    · rfl
    · split
      · rfl
      · split
        · rfl
        · split <;> rfl
/-- Where it stops, and has not ended, it waits. -/
structure Waits (s : JA) : Prop where
  over : s.over = false
  want : s.want s.wk = true
  q : s.q s.wk = []
  en : s.en s.wk = false
  lt : s.wk < 2

/-- With more lines: the same first, then what comes of them. -/
theorem aAll_ext (c : UInt8) (N : Nat) (m : Nat → List Bs) (e : Nat → Bool) : ∀ (n : Nat) (s : JA), aMu s < n → JA.OkE s.en m e →
    (aAll c N s).2.1.en = s.en ∧
    ((aAll c N s).2.1.over = true → aAll c N (s.ext m e) = ((aAll c N s).1, (aAll c N s).2.1.ext m e, (aAll c N s).2.2)) ∧
    ((aAll c N s).2.1.over = false → (aAll c N s).2.2 = 0 ∧ Waits (aAll c N s).2.1 ∧ aAll c N (s.ext m e) = ((aAll c N s).1 ++ (aAll c N ((aAll c N s).2.1.ext m e)).1, (aAll c N ((aAll c N s).2.1.ext m e)).2)) := by
  intro n
  induction n with
  | zero => intro s h; omega
  | succ n ih =>
    intro s hn hE
    have hen := aStep_en c N s
    cases hc : (aStep c N s).2.2.1 with
    | true =>
      have hmu := aStep_mu c N s hc
      have hx := aStep_ext c N s m e hE (.inl hc)
      have hcx : (aStep c N (s.ext m e)).2.2.1 = true := by rw [hx]; exact hc
      have h := ih (aStep c N s).2.1 (by omega) (by rw [hen]; exact hE)
      rw [aAll_go hc, aAll_go hcx, hx]
      dsimp only
      refine ⟨by rw [h.1, hen], fun ho => ?_, fun ho => ?_⟩
      · rw [h.2.1 ho]
      · obtain ⟨h1, h2, h3⟩ := h.2.2 ho
        refine ⟨h1, h2, ?_⟩
        rw [h3, List.append_assoc]
    | false =>
      rw [aAll_stop hc]
      dsimp only
      refine ⟨hen, fun ho => ?_, fun ho => ?_⟩
      · have hx := aStep_ext c N s m e hE (.inr ho)
        have hcx : (aStep c N (s.ext m e)).2.2.1 = false := by rw [hx]; exact hc
        rw [aAll_stop hcx, hx]
      · obtain ⟨h1, h2, h3, h4, h5, h6, h7, h8⟩ := aStep_wait c N s m e hE hc ho
        refine ⟨h2, ⟨ho, h5, h6, by rw [h4]; exact h7, h8⟩, ?_⟩
        rw [h1, List.nil_append]
        unfold aAll
        rw [aRun, h3]
        rw [aRun]
        by_cases hg : (aStep c N ((aStep c N s).2.1.ext m e)).2.2.1 = true
        · rw [if_pos hg, if_pos hg]
          have m1 := aStep_mu c N _ hg
          have m2 := aStep_mu c N (s.ext m e) (by rw [h3]; exact hg)
          rw [h3] at m2
          rw [aRun_fuel c N (aMu (s.ext m e)) (aMu ((aStep c N s).2.1.ext m e)) _ m2 m1]
        · rw [if_neg hg, if_neg hg]
end Go.Proofs.Ytkgmbomfkdkofaa
namespace Go.Proofs.Ytkgmbomfkdkofaa

structure JoS where
  by_ : UInt8
  most : Nat
  a : JA
  beg : Nat → Bs
  more : Bool
  at_ : Nat

/-- One round of rows. -/
def jrStep (s : JoS) : JoS × Bool × Int :=
  if s.a.over = true then (s, false, 0)
  else if s.a.want 0 = false ∧ s.a.want 1 = false then
    (if s.a.key 0 = s.a.key 1 ∧ s.a.pi < (s.a.ls 0).length then ({ s with more := true }, false, 0) else ({ s with a := s.a.next, more := false }, true, 0))
  else ({ s with a := (aStep s.by_ s.most s.a).2.1, at_ := if (aStep s.by_ s.most s.a).2.2.1 = false ∧ (aStep s.by_ s.most s.a).2.1.over = false then s.a.wk else s.at_ }, (aStep s.by_ s.most s.a).2.2)
def jRows : Nat → JoS → JoS × Int
  | 0, s => (s, 0)
  | f + 1, s => if (jrStep s).2.1 = true then jRows f (jrStep s).1 else ((jrStep s).1, (jrStep s).2.2)
def jAll (s : JoS) : JoS × Int := jRows (aMu s.a + 1) s

theorem aStep_none (c : UInt8) (N : Nat) (s : JA) (h0 : s.over = false) (h1 : s.want 0 = false ∧ s.want 1 = false) : aStep c N s = (s.pairs c, s.next, true, 0) := by
  unfold aStep; rw [if_neg (by rw [h0]; decide), if_pos h1]
theorem jrStep_mu (s : JoS) (h : (jrStep s).2.1 = true) : aMu (jrStep s).1.a < aMu s.a := by
  unfold jrStep at h ⊢
  by_cases h0 : s.a.over = true
  · rw [if_pos h0] at h; cases h
  rw [if_neg h0] at h ⊢
  by_cases h1 : s.a.want 0 = false ∧ s.a.want 1 = false
  · rw [if_pos h1] at h ⊢
    by_cases h2 : s.a.key 0 = s.a.key 1 ∧ s.a.pi < (s.a.ls 0).length
    · rw [if_pos h2] at h; cases h
    · rw [if_neg h2]
      have e := aStep_none s.by_ s.most s.a (by simpa using h0) h1
      have := aStep_mu s.by_ s.most s.a (by rw [e])
      rw [e] at this
      exact this
  · rw [if_neg h1] at h ⊢
    exact aStep_mu s.by_ s.most s.a h
theorem jRows_fuel : ∀ (f g : Nat) (s : JoS), aMu s.a < f → aMu s.a < g → jRows f s = jRows g s := by
  intro f
  induction f with
  | zero => intro g s h; omega
  | succ f ih =>
    intro g s h1 h2
    cases g with
    | zero => omega
    | succ g =>
      rw [jRows, jRows]
      by_cases hc : (jrStep s).2.1 = true
      · have := jrStep_mu s hc
        rw [if_pos hc, if_pos hc, ih g _ (by omega) (by omega)]
      · rw [if_neg hc, if_neg hc]
theorem jAll_go {s : JoS} (h : (jrStep s).2.1 = true) : jAll s = jAll (jrStep s).1 := by
  have := jrStep_mu s h
  unfold jAll
  rw [jRows, if_pos h, jRows_fuel (aMu s.a) (aMu (jrStep s).1.a + 1) _ this (by omega)]
theorem jAll_stop {s : JoS} (h : (jrStep s).2.1 = false) : jAll s = ((jrStep s).1, (jrStep s).2.2) := by
  unfold jAll
  rw [jRows, if_neg (by rw [h]; decide)]

namespace JoS
def setQ (s : JoS) (k : Nat) (b : Bs) (new : List Bs) (e : Bool) : JoS := { s with a := { s.a with q := upd s.a.q k (s.a.q k ++ new), en := upd s.a.en k e }, beg := upd s.beg k b }
def stop (s : JoS) : JoS := { s with a := { s.a with over := true } }
def adv (s : JoS) : JoS := { s with a := { s.a with pi := (advP (s.a.ls 1).length s.a.pi s.a.pj).1, pj := (advP (s.a.ls 1).length s.a.pi s.a.pj).2 } }
def line (s : JoS) : Bs := plS s.by_ (s.a.key 0) (((s.a.ls 0)[s.a.pi]?).getD []) (((s.a.ls 1)[s.a.pj]?).getD [])
end JoS

def joFeed (s : JoS) (port : Int) (b : Bs) : Outs × Int × JoS :=
  if s.a.over = true then ([], 4, s) else if s.more = true ∨ port ≠ s.at_ then ([], 1, s) else if b.length = 0 ∨ b.length > 32 then ([], 1, s)
  else if (cutS (s.beg s.at_) b).2.2 = true ∧ (jAll (s.setQ s.at_ (cutS (s.beg s.at_) b).2.1 (cutS (s.beg s.at_) b).1 (s.a.en s.at_))).2 = 0 ∧ (jAll (s.setQ s.at_ (cutS (s.beg s.at_) b).2.1 (cutS (s.beg s.at_) b).1 (s.a.en s.at_))).1.a.over = false
    then ([], 20, (jAll (s.setQ s.at_ (cutS (s.beg s.at_) b).2.1 (cutS (s.beg s.at_) b).1 (s.a.en s.at_))).1.stop)
  else ([], (jAll (s.setQ s.at_ (cutS (s.beg s.at_) b).2.1 (cutS (s.beg s.at_) b).1 (s.a.en s.at_))).2, (jAll (s.setQ s.at_ (cutS (s.beg s.at_) b).2.1 (cutS (s.beg s.at_) b).1 (s.a.en s.at_))).1)
def joFin (s : JoS) (port : Int) : Outs × Int × JoS :=
  if s.a.over = true then ([], 4, s) else if s.more = true ∨ port ≠ s.at_ then ([], 1, s)
  else ([], (jAll (s.setQ s.at_ [] (if s.beg s.at_ = [] then [] else [s.beg s.at_]) true)).2, (jAll (s.setQ s.at_ [] (if s.beg s.at_ = [] then [] else [s.beg s.at_]) true)).1)
def joMore (s : JoS) : Outs × Int × JoS :=
  if s.a.over = true then ([], 4, s) else if s.more = false then ([], 1, s)
  else (tellS 0 [s.line], (jAll s.adv).2, (jAll s.adv).1)
def joWt (s : JoS) (k : Nat) : Nat := paWt ⟨s.beg k, s.a.q k, s.a.en k⟩ + (s.a.ls k |>.map List.length).sum

abbrev joinM : Mach where
  σ := JoS
  need s := if s.a.over = true then -1 else if s.more = true then -2 else s.at_
  held s := ((joWt s 0 + joWt s 1 : Nat) : Int)
  feed := joFeed
  fin := joFin
  more := joMore

/-! ## What states keep -/

theorem cutBy_len (c : UInt8) : ∀ s : Bs, (keyS c s).length ≤ s.length ∧ (restS c s).length ≤ s.length
  | [] => ⟨Nat.le_refl _, Nat.le_refl _⟩
  | x :: r => by
    have h := cutBy_len c r
    unfold keyS restS cutBy
    split
    · simp
    · simp only [List.length_cons]
      exact ⟨by have := h.1; unfold keyS at this; omega, by have := h.2; unfold restS at this; omega⟩

structure JKeep (N : Nat) (s : JA) : Prop where
  unw : ∀ k, k < 2 → s.want k = false → s.ls k ≠ []
  few : ∀ k, k < 2 → (s.ls k).length ≤ N
  pz : (s.want 0 = true ∨ s.want 1 = true) → s.pi = 0 ∧ s.pj = 0
  pj : s.want 0 = false → s.want 1 = false → s.pj < (s.ls 1).length
  shq : ∀ k, k < 2 → ∀ l ∈ s.q k, l.length ≤ 64
  shl : ∀ k, k < 2 → ∀ l ∈ s.ls k, l.length ≤ 64
  shk : ∀ k, k < 2 → (s.key k).length ≤ 64

theorem jgo_keep (c : UInt8) (N : Nat) (hN : 1 ≤ N) (en : Bool) : ∀ (q : List Bs) (key : Bs) (ls : List Bs), ls.length ≤ N → (∀ l ∈ q, l.length ≤ 64) → (∀ l ∈ ls, l.length ≤ 64) → key.length ≤ 64 →
    (jgo c N en key ls q).ls.length ≤ N ∧ (∀ l ∈ (jgo c N en key ls q).rest, l.length ≤ 64) ∧ (∀ l ∈ (jgo c N en key ls q).ls, l.length ≤ 64) ∧ (jgo c N en key ls q).key.length ≤ 64 ∧ lens (jgo c N en key ls q).rest ≤ lens q ∧ (jgo c N en key ls q).ls.length + (jgo c N en key ls q).rest.length = ls.length + q.length := by
  intro q
  induction q with
  | nil => intro key ls h1 h2 h3 h4; exact ⟨h1, h2, h3, h4, Nat.le_refl _, rfl⟩
  | cons s r ih =>
    intro key ls h1 h2 h3 h4
    have hs := h2 s (by simp)
    have hr : ∀ l ∈ r, l.length ≤ 64 := fun l hl => h2 l (by simp [hl])
    have hle : lens r ≤ lens (s :: r) := by unfold lens; simp
    rw [jgo]
    by_cases h0 : ls = []
    · rw [if_pos h0]
      have := ih (keyS c s) [s] (by simpa using hN) hr (fun l hl => by simp at hl; subst hl; exact hs) (Nat.le_trans (cutBy_len c s).1 hs)
      refine ⟨this.1, this.2.1, this.2.2.1, this.2.2.2.1, by omega, ?_⟩
      rw [h0]
      have := this.2.2.2.2.2
      simp only [List.length_cons, List.length_nil] at this ⊢
      omega
    · rw [if_neg h0]
      by_cases h5 : ltB (keyS c s) key = true
      · rw [if_pos h5]; exact ⟨h1, h2, h3, h4, Nat.le_refl _, rfl⟩
      · rw [if_neg h5]
        by_cases h6 : leB (keyS c s) key = false
        · rw [if_pos h6]; exact ⟨h1, h2, h3, h4, Nat.le_refl _, rfl⟩
        · rw [if_neg h6]
          by_cases h7 : ls.length = N
          · rw [if_pos h7]; exact ⟨h1, h2, h3, h4, Nat.le_refl _, rfl⟩
          · rw [if_neg h7]
            have := ih key (ls ++ [s]) (by simp; omega) hr (fun l hl => by
              rcases List.mem_append.1 hl with h | h
              · exact h3 l h
              · simp at h; subst h; exact hs) h4
            refine ⟨this.1, this.2.1, this.2.2.1, this.2.2.2.1, by omega, ?_⟩
            have := this.2.2.2.2.2
            simp only [List.length_cons, List.length_append, List.length_nil] at this ⊢
            omega

theorem wk_lt (s : JA) : s.wk < 2 := by unfold JA.wk; split <;> omega
theorem want_wk {s : JA} (h : ¬ (s.want 0 = false ∧ s.want 1 = false)) : s.want s.wk = true := by
  unfold JA.wk
  by_cases h0 : s.want 0 = true
  · rw [if_pos h0]; exact h0
  · rw [if_neg h0]
    cases h7 : s.want 1 with
    | true => rfl
    | false => exact absurd ⟨by simpa using h0, h7⟩ h

theorem JKeep.set {c : UInt8} {N : Nat} (hN : 1 ≤ N) {s : JA} (h : JKeep N s) (hw : ¬ (s.want 0 = false ∧ s.want 1 = false)) : JKeep N (s.set s.wk (s.grp c N)) ∧ (∀ k, k < 2 → lens ((s.set s.wk (s.grp c N)).q k) ≤ lens (s.q k)) ∧ (∀ k, k < 2 → ((s.set s.wk (s.grp c N)).ls k).length + ((s.set s.wk (s.grp c N)).q k).length = (s.ls k).length + (s.q k).length) := by
  have hk := jgo_keep c N hN (s.en s.wk) (s.q s.wk) (s.key s.wk) (s.ls s.wk) (h.few _ (wk_lt s)) (h.shq _ (wk_lt s)) (h.shl _ (wk_lt s)) (h.shk _ (wk_lt s))
  have hww := want_wk hw
  have hz := h.pz (by
    cases h0 : s.want 0 with
    | true => exact .inl rfl
    | false => cases h1 : s.want 1 with
      | true => exact .inr rfl
      | false => exact absurd ⟨h0, h1⟩ hw)
  have hne : ∀ k, s.want k = false → k ≠ s.wk := fun k hk e => by rw [e, hww] at hk; cases hk
  refine ⟨⟨fun k h2 hwk => ?_, fun k h2 => ?_, fun _ => hz, fun h0 h1 => absurd ⟨h0, h1⟩ hw, fun k h2 => ?_, fun k h2 => ?_, fun k h2 => ?_⟩, fun k h2 => ?_, fun k h2 => ?_⟩
  · show upd s.ls s.wk _ k ≠ []
    rw [upd_ne _ _ (hne k hwk)]
    exact h.unw k h2 hwk
  all_goals by_cases hks : k = s.wk
  all_goals try subst hks
  · show (upd s.ls s.wk _ s.wk).length ≤ N
    rw [upd_same]; exact hk.1
  · show (upd s.ls s.wk _ k).length ≤ N
    rw [upd_ne _ _ hks]; exact h.few k h2
  · show ∀ l ∈ upd s.q s.wk _ s.wk, _
    rw [upd_same]; exact hk.2.1
  · show ∀ l ∈ upd s.q s.wk _ k, _
    rw [upd_ne _ _ hks]; exact h.shq k h2
  · show ∀ l ∈ upd s.ls s.wk _ s.wk, _
    rw [upd_same]; exact hk.2.2.1
  · show ∀ l ∈ upd s.ls s.wk _ k, _
    rw [upd_ne _ _ hks]; exact h.shl k h2
  · show (upd s.key s.wk _ s.wk).length ≤ 64
    rw [upd_same]; exact hk.2.2.2.1
  · show (upd s.key s.wk _ k).length ≤ 64
    rw [upd_ne _ _ hks]; exact h.shk k h2
  · show lens (upd s.q s.wk _ s.wk) ≤ _
    rw [upd_same]; exact hk.2.2.2.2.1
  · show lens (upd s.q s.wk _ k) ≤ _
    rw [upd_ne _ _ hks]; exact Nat.le_refl _
  · show (upd s.ls s.wk _ s.wk).length + (upd s.q s.wk _ s.wk).length = _
    rw [upd_same, upd_same]; exact hk.2.2.2.2.2
  · show (upd s.ls s.wk _ k).length + (upd s.q s.wk _ k).length = _
    rw [upd_ne _ _ hks, upd_ne _ _ hks]
end Go.Proofs.Ytkgmbomfkdkofaa
namespace Go.Proofs.Ytkgmbomfkdkofaa

theorem leB_refl (a : Bs) : leB a a = true := by unfold leB; simp
theorem JKeep.next {N : Nat} {s : JA} (h : JKeep N s) (hw : s.want 0 = false ∧ s.want 1 = false) : JKeep N s.next := by
  have hwk : ∀ k, k < 2 → s.want k = false := fun k hk => by
    obtain rfl | rfl : k = 0 ∨ k = 1 := by omega
    · exact hw.1
    · exact hw.2
  refine ⟨fun k hk hf => ?_, fun k hk => ?_, fun _ => ⟨rfl, rfl⟩, fun h0 h1 => ?_, h.shq, fun k hk => ?_, h.shk⟩
  · show (if s.wants k = true then [] else s.ls k) ≠ []
    have hf2 : s.wants k = false := hf
    rw [if_neg (by rw [hf2]; decide)]
    exact h.unw k hk (hwk k hk)
  · show (if s.wants k = true then [] else s.ls k).length ≤ N
    split
    · simp
    · exact h.few k hk
  · have h2 : leB (s.key 0) (s.key 1) = false := h0
    have h3 : leB (s.key 1) (s.key 0) = false := h1
    have := leB_total (s.key 0) (s.key 1)
    rw [h2, h3] at this
    simp at this
  · show ∀ l ∈ (if s.wants k = true then [] else s.ls k), _
    split
    · intro l hl; cases hl
    · exact h.shl k hk

/-- A group's step: what it is. -/
theorem aStep_grp (c : UInt8) (N : Nat) (s : JA) (h0 : s.over = false) (h1 : ¬ (s.want 0 = false ∧ s.want 1 = false)) :
    (aStep c N s).1 = [] ∧ (aStep c N s).2.1.q = (s.set s.wk (s.grp c N)).q ∧ (aStep c N s).2.1.ls = (s.set s.wk (s.grp c N)).ls ∧ (aStep c N s).2.1.key = (s.set s.wk (s.grp c N)).key ∧ (aStep c N s).2.1.pi = s.pi ∧ (aStep c N s).2.1.pj = s.pj ∧
    ((aStep c N s).2.2.1 = false → (aStep c N s).2.1.want = s.want) ∧ ((aStep c N s).2.2.1 = true → (aStep c N s).2.1.want = upd s.want s.wk false ∧ (s.grp c N).what = 0) ∧ ((aStep c N s).2.2.1 = true → (aStep c N s).2.2.2 = 0) := by
  have hw := (jgo_what c N (s.en s.wk) (s.q s.wk) (s.key s.wk) (s.ls s.wk)).1
  change (s.grp c N).what ≤ 2 at hw
  unfold aStep
  rw [if_neg (by rw [h0]; decide), if_neg h1]
  split
  · exact ⟨rfl, rfl, rfl, rfl, rfl, rfl, fun _ => rfl, (fun h => by cases h), fun h => by cases h⟩
  · split
    · exact ⟨rfl, rfl, rfl, rfl, rfl, rfl, fun _ => rfl, (fun h => by cases h), fun h => by cases h⟩
    · split
      · exact ⟨rfl, rfl, rfl, rfl, rfl, rfl, fun _ => rfl, (fun h => by cases h), fun h => by cases h⟩
      · exact ⟨rfl, rfl, rfl, rfl, rfl, rfl, (fun h => by cases h), fun _ => ⟨rfl, by omega⟩, fun _ => rfl⟩

theorem aStep_keep (c : UInt8) (N : Nat) (hN : 1 ≤ N) (s : JA) (h : JKeep N s) : JKeep N (aStep c N s).2.1 ∧ (∀ k, k < 2 → lens ((aStep c N s).2.1.q k) ≤ lens (s.q k)) ∧
    (aStep c N s).1.length + N * (((aStep c N s).2.1.ls 0).length + ((aStep c N s).2.1.q 0).length) ≤ N * ((s.ls 0).length + (s.q 0).length) := by
  by_cases h0 : s.over = true
  · have e : aStep c N s = ([], s, false, 0) := by unfold aStep; rw [if_pos h0]
    rw [e]
    exact ⟨h, fun _ _ => Nat.le_refl _, by simp⟩
  have h0' : s.over = false := by simpa using h0
  by_cases h1 : s.want 0 = false ∧ s.want 1 = false
  · rw [aStep_none c N s h0' h1]
    refine ⟨h.next h1, fun k _ => Nat.le_refl _, ?_⟩
    show (s.pairs c).length + N * ((if s.wants 0 = true then [] else s.ls 0).length + (s.q 0).length) ≤ _
    have hpl : (pairsFrom c (s.key 0) (s.ls 0) (s.ls 1) s.pi s.pj).length ≤ (s.ls 0).length * (s.ls 1).length := by
      unfold pairsFrom
      have hd : ((s.ls 0).drop s.pi).length ≤ (s.ls 0).length := by simp
      cases hx : (s.ls 0).drop s.pi with
      | nil => simp
      | cons x r =>
        rw [hx] at hd
        dsimp only
        have h2 : (r.flatMap fun x => (s.ls 1).map (plS c (s.key 0) x)).length = r.length * (s.ls 1).length := by
          clear hd hx
          induction r with
          | nil => simp
          | cons y r ih => rw [List.flatMap_cons, List.length_append, ih, List.length_cons, Nat.succ_mul]; simp; omega
        rw [List.length_append, h2, List.length_map, List.length_drop]
        simp only [List.length_cons] at hd
        have h3 : (r.length + 1) * (s.ls 1).length ≤ (s.ls 0).length * (s.ls 1).length := Nat.mul_le_mul_right _ hd
        rw [Nat.succ_mul] at h3
        omega
    unfold JA.pairs
    by_cases hk : s.key 0 = s.key 1
    · have hw : s.wants 0 = true := by show leB (s.key 0) (s.key 1) = true; rw [hk]; exact leB_refl _
      rw [if_pos hk, if_pos hw]
      have h4 : (s.ls 0).length * (s.ls 1).length ≤ (s.ls 0).length * N := Nat.mul_le_mul_left _ (h.few 1 (by omega))
      rw [List.length_nil, Nat.zero_add, Nat.mul_add, Nat.mul_comm N (s.ls 0).length]
      omega
    · rw [if_neg hk, List.length_nil, Nat.zero_add]
      apply Nat.mul_le_mul_left
      split
      · simp
      · exact Nat.le_refl _
  · obtain ⟨a1, a2, a3, a4, a5, a6, a7, a8, _⟩ := aStep_grp c N s h0' h1
    obtain ⟨b1, b2, b3⟩ := h.set (c := c) hN h1
    have hz := h.pz (by
      cases hx0 : s.want 0 with
      | true => exact .inl rfl
      | false => cases hx1 : s.want 1 with
        | true => exact .inr rfl
        | false => exact absurd ⟨hx0, hx1⟩ h1)
    refine ⟨?_, fun k hk => by rw [a2]; exact b2 k hk, ?_⟩
    · cases hg : (aStep c N s).2.2.1 with
      | false =>
        have hwt := a7 hg
        exact ⟨fun k hk => by rw [hwt, a3]; exact b1.unw k hk, fun k hk => by rw [a3]; exact b1.few k hk, fun _ => by rw [a5, a6]; exact hz, fun x y => by rw [hwt] at x y; exact absurd ⟨x, y⟩ h1, fun k hk => by rw [a2]; exact b1.shq k hk, fun k hk => by rw [a3]; exact b1.shl k hk, fun k hk => by rw [a4]; exact b1.shk k hk⟩
      | true =>
        obtain ⟨hwt, hwh⟩ := a8 hg
        have hne := (jgo_len c N (s.en s.wk) (s.q s.wk) (s.key s.wk) (s.ls s.wk)).2.2.1 hwh
        have hunw : ∀ k, k < 2 → (aStep c N s).2.1.want k = false → (aStep c N s).2.1.ls k ≠ [] := fun k hk hf => by
          rw [hwt] at hf
          rw [a3]
          by_cases hks : k = s.wk
          · subst hks
            show upd s.ls s.wk _ s.wk ≠ []
            rw [upd_same]; exact hne
          · rw [upd_ne _ _ hks] at hf
            exact b1.unw k hk hf
        refine ⟨hunw, fun k hk => by rw [a3]; exact b1.few k hk, fun _ => by rw [a5, a6]; exact hz, fun x y => ?_, fun k hk => by rw [a2]; exact b1.shq k hk, fun k hk => by rw [a3]; exact b1.shl k hk, fun k hk => by rw [a4]; exact b1.shk k hk⟩
        rw [a6, hz.2]
        exact List.length_pos_iff.2 (hunw 1 (by omega) y)
    · rw [a1, a2, a3, List.length_nil, Nat.zero_add, b3 0 (by omega)]
      exact Nat.le_refl _

theorem aAll_count (c : UInt8) (N : Nat) (hN : 1 ≤ N) : ∀ (n : Nat) (s : JA), aMu s < n → JKeep N s → (aAll c N s).1.length ≤ N * ((s.ls 0).length + (s.q 0).length) ∧ (∀ x ∈ (aAll c N s).1, x.length ≤ 200) := by
  intro n
  induction n with
  | zero => intro s h; omega
  | succ n ih =>
    intro s hn h
    have hk := aStep_keep c N hN s h
    have h200 : ∀ x ∈ (aStep c N s).1, x.length ≤ 200 := by
      by_cases h0 : s.over = true
      · have e : aStep c N s = ([], s, false, 0) := by unfold aStep; rw [if_pos h0]
        rw [e]; intro x hx; cases hx
      have h0' : s.over = false := by simpa using h0
      by_cases h1 : s.want 0 = false ∧ s.want 1 = false
      · rw [aStep_none c N s h0' h1]
        intro x hx
        dsimp only at hx
        unfold JA.pairs at hx
        split at hx
        · have hpl : ∀ a ∈ s.ls 0, ∀ b ∈ s.ls 1, (plS c (s.key 0) a b).length ≤ 200 := fun a ha b hb => by
            have h1 := h.shl 0 (by omega) a ha
            have h2 := h.shl 1 (by omega) b hb
            have h3 := h.shk 0 (by omega)
            have h4 := (cutBy_len c a).2
            have h5 := (cutBy_len c b).2
            unfold plS
            simp only [List.length_append, List.length_singleton]
            omega
          unfold pairsFrom at hx
          cases hd : (s.ls 0).drop s.pi with
          | nil => rw [hd] at hx; cases hx
          | cons a r =>
            rw [hd] at hx
            dsimp only at hx
            have hmem : ∀ y, y = a ∨ y ∈ r → y ∈ s.ls 0 := fun y hy => List.mem_of_mem_drop (i := s.pi) (by rw [hd]; simpa using hy)
            rcases List.mem_append.1 hx with hx | hx
            · obtain ⟨b, hb, rfl⟩ := List.mem_map.1 hx
              exact hpl a (hmem a (.inl rfl)) b (List.mem_of_mem_drop hb)
            · obtain ⟨y, hy, hx⟩ := List.mem_flatMap.1 hx
              obtain ⟨b, hb, rfl⟩ := List.mem_map.1 hx
              exact hpl y (hmem y (.inr hy)) b hb
        · cases hx
      · rw [(aStep_grp c N s h0' h1).1]; intro x hx; cases hx
    cases hc : (aStep c N s).2.2.1 with
    | true =>
      have hmu := aStep_mu c N s hc
      have h2 := ih (aStep c N s).2.1 (by omega) hk.1
      rw [aAll_go hc]
      refine ⟨?_, fun x hx => ?_⟩
      · rw [List.length_append]
        have := hk.2.2
        omega
      · rcases List.mem_append.1 hx with hx | hx
        · exact h200 x hx
        · exact h2.2 x hx
    | false =>
      rw [aAll_stop hc]
      exact ⟨by have := hk.2.2; dsimp only; omega, h200⟩

/-- Where pairs are due. -/
structure Due (s : JA) : Prop where
  over : s.over = false
  none : s.want 0 = false ∧ s.want 1 = false
  key : s.key 0 = s.key 1
  pi : s.pi < (s.ls 0).length

structure RunTo (s : JoS) (r : JoS × Int) : Prop where
  by_ : r.1.by_ = s.by_
  most : r.1.most = s.most
  beg : r.1.beg = s.beg
  en : r.1.a.en = s.a.en
  keep : JKeep s.most r.1.a
  lens : ∀ k, k < 2 → lens (r.1.a.q k) ≤ lens (s.a.q k)
  out : (r.2 = 0 ∧ r.1.more = true ∧ Due r.1.a ∧ aAll s.by_ s.most s.a = aAll s.by_ s.most r.1.a) ∨ (r.1.more = false ∧ aAll s.by_ s.most s.a = ([], r.1.a, r.2) ∧ (r.1.a.over = false → r.1.at_ = r.1.a.wk ∧ r.2 = 0))

theorem jAll_run : ∀ (n : Nat) (s : JoS), aMu s.a < n → 1 ≤ s.most → JKeep s.most s.a → (s.more = true → s.a.over = false ∧ s.a.want 0 = false ∧ s.a.want 1 = false) → RunTo s (jAll s) := by
  intro n
  induction n with
  | zero => intro s h; omega
  | succ n ih =>
    intro s hn hN hk hm
    by_cases h0 : s.a.over = true
    · have e : jrStep s = (s, false, 0) := by unfold jrStep; rw [if_pos h0]
      have hmf : s.more = false := by
        cases h : s.more with
        | false => rfl
        | true => have := (hm h).1; rw [h0] at this; cases this
      have ea : aStep s.by_ s.most s.a = ([], s.a, false, 0) := by unfold aStep; rw [if_pos h0]
      rw [jAll_stop (by rw [e]), e]
      exact ⟨rfl, rfl, rfl, rfl, hk, fun _ _ => Nat.le_refl _, .inr ⟨hmf, by rw [aAll_stop (by rw [ea]), ea], fun h => by dsimp only at h; rw [h0] at h; cases h⟩⟩
    have h0' : s.a.over = false := by simpa using h0
    by_cases h1 : s.a.want 0 = false ∧ s.a.want 1 = false
    · by_cases h2 : s.a.key 0 = s.a.key 1 ∧ s.a.pi < (s.a.ls 0).length
      · have e : jrStep s = ({ s with more := true }, false, 0) := by unfold jrStep; rw [if_neg h0, if_pos h1, if_pos h2]
        rw [jAll_stop (by rw [e]), e]
        exact ⟨rfl, rfl, rfl, rfl, hk, fun _ _ => Nat.le_refl _, .inl ⟨rfl, rfl, ⟨h0', h1, h2.1, h2.2⟩, rfl⟩⟩
      · have e : jrStep s = ({ s with a := s.a.next, more := false }, true, 0) := by unfold jrStep; rw [if_neg h0, if_pos h1, if_neg h2]
        have ea := aStep_none s.by_ s.most s.a h0' h1
        have hp : s.a.pairs s.by_ = [] := by
          unfold JA.pairs
          split
          · next hkey => exact pairs_none _ _ _ _ _ _ (by rcases Nat.lt_or_ge s.a.pi (s.a.ls 0).length with h | h; exact absurd ⟨hkey, h⟩ h2; exact h)
          · rfl
        have hmu := jrStep_mu s (by rw [e])
        rw [e] at hmu
        have h := ih { s with a := s.a.next, more := false } (by dsimp only at hmu ⊢; omega) hN (hk.next h1) (fun h => by cases h)
        rw [jAll_go (by rw [e]), e]
        refine ⟨h.by_, h.most, h.beg, h.en, h.keep, h.lens, ?_⟩
        rw [aAll_go (by rw [ea]), ea]
        dsimp only
        rw [hp, List.nil_append]
        exact h.out
    · have e : jrStep s = ({ s with a := (aStep s.by_ s.most s.a).2.1, at_ := if (aStep s.by_ s.most s.a).2.2.1 = false ∧ (aStep s.by_ s.most s.a).2.1.over = false then s.a.wk else s.at_ }, (aStep s.by_ s.most s.a).2.2) := by unfold jrStep; rw [if_neg h0, if_neg h1]
      have hmf : s.more = false := by
        cases h : s.more with
        | false => rfl
        | true => exact absurd (hm h).2 h1
      have hg := aStep_grp s.by_ s.most s.a h0' h1
      have hkp := aStep_keep s.by_ s.most hN s.a hk
      cases hc : (aStep s.by_ s.most s.a).2.2.1 with
      | true =>
        have hgo : (jrStep s).2.1 = true := by rw [e]; exact hc
        have hmu := jrStep_mu s hgo
        rw [e] at hmu
        have h := ih (jrStep s).1 (by rw [e]; dsimp only at hmu ⊢; omega) (by rw [e]; exact hN) (by rw [e]; exact hkp.1) (fun h => by rw [e] at h; dsimp only at h; rw [hmf] at h; cases h)
        rw [jAll_go hgo]
        rw [e] at h ⊢
        refine ⟨h.by_, h.most, h.beg, h.en.trans (aStep_en _ _ _), h.keep, fun k hk => Nat.le_trans (h.lens k hk) (hkp.2.1 k hk), ?_⟩
        rw [aAll_go hc, hg.1, List.nil_append]
        exact h.out
      | false =>
        have hgo : (jrStep s).2.1 = false := by rw [e]; exact hc
        rw [jAll_stop hgo, e]
        refine ⟨rfl, rfl, rfl, aStep_en _ _ _, hkp.1, hkp.2.1, .inr ⟨hmf, ?_, fun ho => ?_⟩⟩
        · rw [aAll_stop hc, hg.1]
        · dsimp only at ho ⊢
          obtain ⟨_, _, _, _, eS⟩ := aStep_wait_eq s.by_ s.most s.a hc ho
          rw [if_pos ⟨hc, ho⟩, eS]
          exact ⟨rfl, rfl⟩
end Go.Proofs.Ytkgmbomfkdkofaa
