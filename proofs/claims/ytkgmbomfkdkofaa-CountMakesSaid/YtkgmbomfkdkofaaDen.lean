/- What the laws say, in plain Lean: denotations, and what they are held against. -/
import Derived.Test.YtkgmbomfkdkofaaPureLines
namespace Go.Proofs.Ytkgmbomfkdkofaa

/-- What comes of inputs: what goes out by each port, which input is wanted then, the error. -/
structure Den where
  outs : Nat → Bs
  need : Int
  err : Int

/-- Drive has come to just that. -/
structure DEnd (M : Mach) (den : Den) (bound : Int) (d : DS M.σ) : Prop where
  outs : d.outs = den.outs
  need : d.need = den.need
  err : d.err = den.err
  bad : d.bad = false
  held : d.held ≤ bound
  fin : 0 ≤ M.held d.st

/-- What penstocklaw04.Same asks. -/
def SameOk (den : Den) (ins want : List Strm) : Prop :=
  (∀ i, i < 4 → den.outs i = ((want[i]?).map Strm.bs).getD []) ∧
  ∀ w ∈ want, (w.ended = true ∧ den.need = -1 ∧ den.err = 0) ∨
    (w.ended = false ∧ den.need = -1 ∧ den.err = w.code ∧ den.err ≠ 0) ∨
    (w.ended = false ∧ den.err = 0 ∧ ∃ k : Nat, den.need = (k : Int) ∧ ∃ h : k < ins.length, w.code = ins[k].code ∧ w.stage = ins[k].stage ∧ w.id = ins[k].id)

/-- What the Grows laws ask of two denotations. -/
def GrowOk (g h : Den) : Prop :=
  (∀ i, i < 4 → g.outs i <+: h.outs i ∧ (g.need = -1 → g.outs i = h.outs i)) ∧ (g.need = -1 → h.need = -1 ∧ h.err = g.err)

/-- A stream of which there is more. -/
def Grow (s s' : Strm) : Prop := (s.ended = true → s' = s) ∧ s.bs <+: s'.bs

/-! ## What the document says of lines -/

/-- penstockref04.Read. -/
structure RdL where
  lines : List Bs
  all : Bool
  code : Int
  stage : Int
  id : Int

def refLines (s : Strm) : RdL :=
  if (cutS [] s.bs).2.2 = true then ⟨(cutS [] s.bs).1, false, 20, -1, 0⟩
  else if s.ended = true then ⟨(cutS [] s.bs).1 ++ (if (cutS [] s.bs).2.1 = [] then [] else [(cutS [] s.bs).2.1]), true, 0, 0, 0⟩
  else ⟨(cutS [] s.bs).1, false, s.code, s.stage, s.id⟩

/-- penstockref04.Out. -/
def refOut (b : Bs) (all : Bool) (c st id : Int) : List Strm :=
  if all = true then [⟨b, true, 0, 0, 0⟩] else [⟨b, false, c, st, id⟩]

theorem refLines_len (s : Strm) : ∀ l ∈ (refLines s).lines, l.length ≤ 64 := by
  have h := cutS_len s.bs [] (by simp)
  unfold refLines
  split
  · exact h.2
  · split
    · intro l hl
      simp only [List.mem_append] at hl
      rcases hl with hl | hl
      · exact h.2 l hl
      · split at hl
        · simp at hl
        · simp only [List.mem_singleton] at hl; subst hl; exact h.1
    · exact h.2

/-- How much the lines are. -/
theorem refLines_sum (s : Strm) : ((refLines s).lines.map List.length).sum ≤ s.bs.length ∧ (refLines s).lines.length ≤ s.bs.length := by
  have h := cutS_sum s.bs []
  simp at h
  unfold refLines
  split
  · dsimp only; omega
  · split
    · dsimp only
      split
      · simp; omega
      · rename_i hne
        have : 0 < (cutS [] s.bs).2.1.length := List.length_pos_iff.2 hne
        simp
        omega
    · dsimp only; omega

/-- A round of Drive that reads the input k. -/
theorem dstep_in (M : Mach) (ins : List Strm) (cuts : List Int) (n : Nat) (d : DS M.σ) {k : Nat} (hn : d.need = (k : Int)) (hk : k < ins.length) (h3 : k ≤ 3) :
    dstep M ins cuts n d = (if d.taken k < (ins[k]'hk).bs.length then
        ((({ d with taken := upd d.taken k (min (ins[k]'hk).bs.length (d.taken k + cutN cuts n)) } : DS M.σ).put (M.feed d.st (k : Int) (((ins[k]'hk).bs.take (min (ins[k]'hk).bs.length (d.taken k + cutN cuts n))).drop (d.taken k)))).look M, true)
      else if (ins[k]'hk).ended = true ∧ d.told k = false then
        ((({ d with told := upd d.told k true } : DS M.σ).put (M.fin d.st (k : Int))).look M, true)
      else (d, false)) := by
  have h4 : (k : Int).toNat = k := by simp
  unfold dstep
  rw [hn, if_neg (by omega), if_neg (by omega), if_neg (by omega), h4, List.getElem?_eq_getElem hk]

theorem dstep_one (M : Mach) (s : Strm) (cuts : List Int) (n : Nat) (d : DS M.σ) (hn : d.need = 0) :
    dstep M [s] cuts n d = (if d.taken 0 < s.bs.length then
        ((({ d with taken := upd d.taken 0 (min s.bs.length (d.taken 0 + cutN cuts n)) } : DS M.σ).put (M.feed d.st 0 ((s.bs.take (min s.bs.length (d.taken 0 + cutN cuts n))).drop (d.taken 0)))).look M, true)
      else if s.ended = true ∧ d.told 0 = false then
        ((({ d with told := upd d.told 0 true } : DS M.σ).put (M.fin d.st 0)).look M, true)
      else (d, false)) := dstep_in M [s] cuts n d (k := 0) hn (by simp) (by omega)

/-! ## Machines of lines -/

def linesDen (k : LK) (t0 : k.τ) (s : Strm) : Den := ⟨collect (fun _ => []) (linesAll k t0 s).1, (linesAll k t0 s).2.1, (linesAll k t0 s).2.2⟩

theorem lines_dend (k : LK) (I : k.τ → Prop) (bound : Nat) (H : LKok k I bound) (t0 : k.τ) (h0 : I t0) (s : Strm) (cuts : List Int) (hs : s.bs.length ≤ 50000) (hx : ∀ t, 0 ≤ k.heldX t) :
    DEnd k.mach (linesDen k t0 s) ((64 + bound : Nat) : Int) (drive k.mach { over := false, beg := [], t := t0 } [s] cuts) := by
  have h := lines_drive k I bound H t0 h0 s cuts hs
  refine ⟨h.outs, h.need, h.err, h.bad, by have := h.held; omega, ?_⟩
  have := hx (drive k.mach { over := false, beg := [], t := t0 } [s] cuts).st.t
  show 0 ≤ (((drive k.mach { over := false, beg := [], t := t0 } [s] cuts).st.beg.length : Nat) : Int) + _
  omega

theorem collect_prefix (a b : Outs) (j : Nat) : collect (fun _ => []) a j <+: collect (fun _ => []) (a ++ b) j := by
  rw [← collect_append]
  exact ⟨_, rfl⟩

theorem lines_grow (k : LK) (t0 : k.τ) (s s' : Strm) (h : Grow s s') : GrowOk (linesDen k t0 s) (linesDen k t0 s') := by
  obtain ⟨h1, m, hm⟩ := h
  by_cases hend : s.ended = true
  · rw [h1 hend]
    exact ⟨fun i _ => ⟨List.prefix_refl _, fun _ => rfl⟩, fun h => ⟨h, rfl⟩⟩
  · have hc := cutS_append s.bs [] m
    rw [hm] at hc
    by_cases hf : (cutS [] s.bs).2.2 = true
    · rw [if_pos hf] at hc
      have e : linesAll k t0 s' = linesAll k t0 s := by
        unfold linesAll
        simp only [hc, hf, if_true]
      unfold linesDen
      rw [e]
      exact ⟨fun i _ => ⟨List.prefix_refl _, fun _ => rfl⟩, fun h => ⟨h, rfl⟩⟩
    · rw [if_neg hf] at hc
      have e1 : linesAll k t0 s = ((eachAll k t0 (cutS [] s.bs).1).1, 0, 0) := by
        unfold linesAll
        simp [hf, hend]
      have e2 : ∃ r, (linesAll k t0 s').1 = (eachAll k t0 (cutS [] s.bs).1).1 ++ r := by
        have hl : (cutS [] s'.bs).1 = (cutS [] s.bs).1 ++ (cutS (cutS [] s.bs).2.1 m).1 := by rw [hc]
        unfold linesAll
        dsimp only
        rw [hl, eachAll_append]
        split
        · exact ⟨_, rfl⟩
        · split
          · exact ⟨_, List.append_assoc _ _ _⟩
          · exact ⟨_, rfl⟩
      obtain ⟨r, e2⟩ := e2
      unfold linesDen
      rw [e1, e2]
      refine ⟨fun i _ => ⟨collect_prefix _ _ _, fun h => ?_⟩, fun h => ?_⟩
      · exact absurd (show (0 : Int) = -1 from h) (by decide)
      · exact absurd (show (0 : Int) = -1 from h) (by decide)

/-- The lines as the document reads them, handed to a kind. -/
theorem linesAll_ref (k : LK) (t0 : k.τ) (s : Strm) : linesAll k t0 s =
    ((eachAll k t0 (refLines s).lines).1 ++ (if (refLines s).all = true then (k.last (eachAll k t0 (refLines s).lines).2).1 else []),
      (if (cutS [] s.bs).2.2 = true ∨ s.ended = true then -1 else 0), (if (cutS [] s.bs).2.2 = true then 20 else 0)) := by
  unfold linesAll refLines
  by_cases hf : (cutS [] s.bs).2.2 = true
  · simp [hf]
  · by_cases he : s.ended = true
    · by_cases hb : (cutS [] s.bs).2.1 = []
      · simp [hf, he, hb]
      · simp [hf, he, hb, eachAll_append, eachAll, List.append_assoc]
    · simp [hf, he]

/-- What the document says of a kind of lines with one output. -/
theorem lines_same (k : LK) (t0 : k.τ) (s : Strm) (b : Bs) (hb : ∀ j : Nat, collect (fun _ => []) (linesAll k t0 s).1 j = if j = 0 then b else []) :
    SameOk (linesDen k t0 s) [s] (refOut b (refLines s).all (refLines s).code (refLines s).stage (refLines s).id) := by
  have hr := linesAll_ref k t0 s
  refine ⟨fun i hi => ?_, fun w hw => ?_⟩
  · show collect (fun _ => []) (linesAll k t0 s).1 i = _
    rw [hb i]
    unfold refOut
    by_cases h0 : i = 0
    · subst h0; cases (refLines s).all <;> rfl
    · rw [if_neg h0]
      obtain ⟨j, rfl⟩ : ∃ j, i = j + 1 := ⟨i - 1, by omega⟩
      cases (refLines s).all <;> rfl
  · unfold linesDen
    rw [hr]
    unfold refLines refOut at hw
    by_cases hf : (cutS [] s.bs).2.2 = true
    · simp [hf] at hw
      subst hw
      exact .inr (.inl ⟨rfl, by simp [hf], by simp [hf], by simp [hf]⟩)
    · by_cases he : s.ended = true
      · simp [hf, he] at hw
        subst hw
        exact .inl ⟨rfl, by simp [he], by simp [hf]⟩
      · simp [hf, he] at hw
        subst hw
        exact .inr (.inr ⟨rfl, by simp [hf], 0, by simp [hf, he], by simp, rfl, rfl, rfl⟩)
end Go.Proofs.Ytkgmbomfkdkofaa
