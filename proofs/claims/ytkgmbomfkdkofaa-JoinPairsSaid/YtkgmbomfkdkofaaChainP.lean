/- chain's machine, in plain Lean. -/
import Derived.Test.YtkgmbomfkdkofaaDen
namespace Go.Proofs.Ytkgmbomfkdkofaa

structure ChS where
  ins : Int
  at_ : Int
  over : Bool

abbrev chainM : Mach where
  σ := ChS
  need s := if s.over = true then -1 else s.at_
  held _ := 0
  feed s port b := if s.over = true then ([], 4, s) else if port ≠ s.at_ then ([], 1, s) else if b.length = 0 ∨ b.length > 32 then ([], 1, s) else ([(0, b)], 0, s)
  fin s port := if s.over = true then ([], 4, s) else if port ≠ s.at_ then ([], 1, s) else ([], 0, { s with at_ := port + 1, over := decide (port + 1 = s.ins) })
  more s := ([], if s.over = true then 4 else 1, s)

/-- One input behind the other, from the i-th on: the text, and which input is wanted then. -/
def chainGo : List Strm → Nat → Bs × Int
  | [], _ => ([], -1)
  | s :: r, i => if s.ended = true then (s.bs ++ (chainGo r (i + 1)).1, (chainGo r (i + 1)).2) else (s.bs, (i : Int))

/-- What has come out. -/
def outs0 (b : Bs) : Nat → Bs := fun j => if j = 0 then b else []
def chainDen (ins : List Strm) : Den := ⟨outs0 (chainGo ins 0).1, (chainGo ins 0).2, 0⟩

/-- What the document says of chain. -/
def chainMeansGo : List Strm → Bs → List Strm
  | [], b => refOut b true 0 0 0
  | s :: r, b => if s.ended = true then chainMeansGo r (b ++ s.bs) else refOut (b ++ s.bs) false s.code s.stage s.id
def chainMeans (ins : List Strm) : List Strm := chainMeansGo ins []

structure ChMid (ins : List Strm) (i : Nat) (d : DS ChS) : Prop where
  lt : i < ins.length
  st : d.st = ⟨ins.length, i, false⟩
  need : d.need = i
  err : d.err = 0
  bad : d.bad = false
  held : d.held ≤ 0
  told : ∀ j, i ≤ j → d.told j = false
  later : ∀ j, i < j → d.taken j = 0
  le : d.taken i ≤ (ins[i]'lt).bs.length

theorem collect_outs0 (a b : Bs) : collect (outs0 a) [(0, b)] = outs0 (a ++ b) := by
  funext j
  unfold collect outs0
  by_cases h : j = 0
  · subst h; simp
  · rw [if_neg h, if_neg h]; simp; omega

theorem chain_loop (ins : List Strm) (h3 : ins.length ≤ 4) (cuts : List Int) : ∀ (f n : Nat) (d : DS ChS) (i : Nat) (h : ChMid ins i d) (b : Bs), d.outs = outs0 (b ++ (ins[i]'h.lt).bs.take (d.taken i)) →
    ((ins.drop i).map fun s => s.bs.length).sum - d.taken i + (ins.length - i) + 1 ≤ f →
    DEnd chainM ⟨outs0 (b ++ (chainGo (ins.drop i) i).1), (chainGo (ins.drop i) i).2, 0⟩ 0 (dloop chainM ins cuts f n d) := by
  intro f
  induction f with
  | zero => intro n d i h b ho hf; omega
  | succ f ih =>
    intro n d i h b ho hf
    have hlt := h.lt
    have hdrop : ins.drop i = ins[i] :: ins.drop (i + 1) := List.drop_eq_getElem_cons hlt
    have hne : d.need ≠ -1 := by rw [h.need]; omega
    have hst0 := dstep_in chainM ins cuts n d h.need hlt (by omega)
    have hgo : (chainGo (ins.drop i) i) = if (ins[i]).ended = true then ((ins[i]).bs ++ (chainGo (ins.drop (i + 1)) (i + 1)).1, (chainGo (ins.drop (i + 1)) (i + 1)).2) else ((ins[i]).bs, (i : Int)) := by rw [hdrop, chainGo]
    rw [hdrop] at hf
    simp only [List.map_cons, List.sum_cons] at hf
    have hcut := cutN_bd cuts n
    by_cases hb : d.taken i < (ins[i]).bs.length
    · have hch : (((ins[i]).bs.take (min (ins[i]).bs.length (d.taken i + cutN cuts n))).drop (d.taken i)).length = min (ins[i]).bs.length (d.taken i + cutN cuts n) - d.taken i := by simp
      generalize hto : min (ins[i]).bs.length (d.taken i + cutN cuts n) = to at *
      have hfeed : chainM.feed d.st (i : Int) (((ins[i]).bs.take to).drop (d.taken i)) = ([(0, ((ins[i]).bs.take to).drop (d.taken i))], 0, d.st) := by
        rw [h.st]
        dsimp only
        rw [if_neg (by simp), if_neg (by simp), if_neg (by omega)]
      have hstep : dstep chainM ins cuts n d = ((({ d with taken := upd d.taken i to } : DS ChS).put ([(0, ((ins[i]).bs.take to).drop (d.taken i))], 0, d.st)).look chainM, true) := by
        rw [hst0, if_pos hb, hfeed]
      rw [dloop_go h.err hne hstep]
      have hok : OkOuts [((0 : Int), ((ins[i]).bs.take to).drop (d.taken i))] := by
        refine ⟨by simp only [List.map_cons, List.map_nil, List.sum_cons, List.sum_nil]; omega, fun o ho => ?_⟩
        simp only [List.mem_singleton] at ho
        subst ho
        refine ⟨by simp, by simp, fun e => ?_⟩
        have : (((ins[i]).bs.take to).drop (d.taken i)).length = 0 := by
          have e2 : ((ins[i]).bs.take to).drop (d.taken i) = [] := e
          rw [e2]; rfl
        omega
      rw [DS.put_ok (σ := chainM.σ) _ _ hok]
      have hst2 := h.st
      refine ih _ _ i ⟨hlt, by exact hst2, ?_, by rfl, by exact h.bad, ?_, by exact h.told, fun j hj => ?_, ?_⟩ b ?_ ?_
      · show chainM.need d.st = _
        rw [h.st]; rfl
      · have := h.held
        show max d.held 0 ≤ 0
        omega
      · show upd d.taken i to j = 0
        unfold upd
        rw [if_neg (by omega)]
        exact h.later j hj
      · show upd d.taken i to i ≤ _
        simp only [upd, if_true]
        omega
      · show collect d.outs _ = outs0 (b ++ List.take (upd d.taken i to i) _)
        rw [ho, collect_outs0]
        simp only [upd, if_true]
        congr 1
        rw [List.append_assoc, ← take_split _ _ _ (by omega)]
      · show _ - upd d.taken i to i + _ + 1 ≤ f
        rw [hdrop]
        simp only [upd, if_true, List.map_cons, List.sum_cons]
        omega
    · have htk : d.taken i = (ins[i]).bs.length := by have := h.le; omega
      have hall : (ins[i]).bs.take (d.taken i) = (ins[i]).bs := by rw [htk, List.take_length]
      rw [hall] at ho
      by_cases hend : (ins[i]).ended = true
      · have hfin : chainM.fin d.st (i : Int) = ([], 0, ⟨ins.length, (i : Int) + 1, decide ((i : Int) + 1 = ins.length)⟩) := by
          rw [h.st]
          dsimp only
          rw [if_neg (by simp), if_neg (by simp)]
        have hstep : dstep chainM ins cuts n d = ((({ d with told := upd d.told i true } : DS ChS).put (([] : Outs), (0 : Int), (⟨ins.length, (i : Int) + 1, decide ((i : Int) + 1 = ins.length)⟩ : ChS))).look chainM, true) := by
          rw [hst0, if_neg hb, if_pos ⟨hend, h.told i (Nat.le_refl _)⟩, hfin]
        rw [dloop_go h.err hne hstep, DS.put_ok (σ := chainM.σ) _ _ ⟨by simp, fun o ho => by cases ho⟩, hgo, if_pos hend, ← List.append_assoc]
        have hh := h.held
        by_cases hlast : i + 1 = ins.length
        · have hz : ins.drop (i + 1) = [] := List.drop_eq_nil_of_le (by omega)
          rw [hz, dloop_end (M := chainM) (.inr (by
            show chainM.need ⟨ins.length, (i : Int) + 1, decide ((i : Int) + 1 = ins.length)⟩ = -1
            rw [decide_eq_true (by omega)]; rfl))]
          refine ⟨?_, ?_, rfl, h.bad, ?_, ?_⟩
          · show collect d.outs [] = _
            rw [collect_nil, ho, chainGo, List.append_nil]
          · show chainM.need ⟨ins.length, (i : Int) + 1, decide ((i : Int) + 1 = ins.length)⟩ = -1
            rw [decide_eq_true (by omega)]; rfl
          · show max d.held 0 ≤ 0
            omega
          · show (0 : Int) ≤ 0
            omega
        · have hd : decide ((i : Int) + 1 = ins.length) = false := decide_eq_false (by omega)
          refine ih _ _ (i + 1) ⟨by omega, ?_, ?_, by rfl, by exact h.bad, ?_, fun j hj => ?_, by exact fun j hj => h.later j (by omega), ?_⟩ _ ?_ ?_
          · show (⟨ins.length, (i : Int) + 1, decide ((i : Int) + 1 = ins.length)⟩ : ChS) = _
            rw [hd]; rfl
          · show chainM.need ⟨ins.length, (i : Int) + 1, decide ((i : Int) + 1 = ins.length)⟩ = _
            rw [hd]; rfl
          · show max d.held 0 ≤ 0
            omega
          · show upd d.told i true j = false
            unfold upd
            rw [if_neg (by omega)]
            exact h.told j (by omega)
          · show d.taken (i + 1) ≤ _
            rw [h.later (i + 1) (by omega)]
            omega
          · show collect d.outs [] = outs0 (_ ++ List.take (d.taken (i + 1)) _)
            refine (collect_nil _).trans (ho.trans (congrArg outs0 ?_))
            simp [h.later (i + 1) (Nat.lt_succ_self i)]
          · show _ - d.taken (i + 1) + _ + 1 ≤ f
            rw [h.later (i + 1) (by omega)]
            omega
      · have hstep : dstep chainM ins cuts n d = (d, false) := by
          rw [hst0, if_neg hb, if_neg (fun h => hend h.1)]
        rw [dloop_stop h.err hne hstep, hgo, if_neg hend]
        exact ⟨ho, h.need, h.err, h.bad, h.held, by show (0 : Int) ≤ 0; omega⟩

theorem sum_len_le (l : List Strm) (c : Nat) (h : ∀ s ∈ l, s.bs.length ≤ c) : (l.map fun s => s.bs.length).sum ≤ l.length * c := by
  induction l with
  | nil => simp
  | cons s r ih =>
    have h1 := h s (by simp)
    have h2 := ih (fun x hx => h x (by simp [hx]))
    simp only [List.map_cons, List.sum_cons, List.length_cons, Nat.succ_mul]
    omega

theorem chain_drive (ins : List Strm) (h1 : 1 ≤ ins.length) (h4 : ins.length ≤ 4) (hl : ∀ s ∈ ins, s.bs.length ≤ 10000) (cuts : List Int) :
    DEnd chainM (chainDen ins) 0 (drive chainM ⟨ins.length, 0, false⟩ ins cuts) := by
  have hs := sum_len_le ins 10000 hl
  have := chain_loop ins h4 cuts 100000 0 (dinit chainM ⟨ins.length, 0, false⟩) 0 ⟨by omega, rfl, rfl, rfl, rfl, Int.le_refl _, fun _ _ => rfl, fun _ _ => rfl, Nat.zero_le _⟩ [] (by simp [dinit]; funext j; unfold outs0; simp) (by
    show _ - 0 + _ + 1 ≤ _
    have : ins.length * 10000 ≤ 4 * 10000 := Nat.mul_le_mul_right _ h4
    simp only [List.drop_zero]
    omega)
  rw [List.nil_append, List.drop_zero] at this
  exact this

theorem chain_same_go (all : List Strm) : ∀ (r : List Strm) (i : Nat) (b : Bs), all.drop i = r →
    SameOk ⟨outs0 (b ++ (chainGo r i).1), (chainGo r i).2, 0⟩ all (chainMeansGo r b) := by
  intro r
  induction r with
  | nil =>
    intro i b _
    refine ⟨fun j hj => ?_, fun w hw => ?_⟩
    · simp only [chainGo, chainMeansGo, refOut, outs0, List.append_nil]
      obtain rfl | ⟨j, rfl⟩ : j = 0 ∨ ∃ k, j = k + 1 := by cases j <;> simp
      · rfl
      · rfl
    · simp only [chainMeansGo, refOut, List.mem_singleton, if_true] at hw
      subst hw
      exact .inl ⟨rfl, rfl, rfl⟩
  | cons s r ih =>
    intro i b hd
    have hlt : i < all.length := by
      rcases Nat.lt_or_ge i all.length with h | h
      · exact h
      · rw [List.drop_eq_nil_of_le h] at hd; cases hd
    have hd2 := List.drop_eq_getElem_cons hlt
    rw [hd] at hd2
    injection hd2 with e1 e2
    rw [chainGo, chainMeansGo]
    by_cases he : s.ended = true
    · rw [if_pos he, if_pos he]
      have := ih (i + 1) (b ++ s.bs) e2.symm
      rw [List.append_assoc] at this
      exact this
    · rw [if_neg he, if_neg he]
      refine ⟨fun j hj => ?_, fun w hw => ?_⟩
      · simp only [refOut, outs0]
        obtain rfl | ⟨j, rfl⟩ : j = 0 ∨ ∃ k, j = k + 1 := by cases j <;> simp
        · rfl
        · rfl
      · simp only [refOut] at hw
        rw [if_neg (by simp)] at hw
        simp only [List.mem_singleton] at hw
        subst hw
        refine .inr (.inr ⟨rfl, rfl, i, rfl, hlt, ?_, ?_, ?_⟩)
        · rw [← e1]
        · rw [← e1]
        · rw [← e1]

theorem chain_same (ins : List Strm) : SameOk (chainDen ins) ins (chainMeans ins) := by
  have := chain_same_go ins ins 0 [] rfl
  rw [List.nil_append] at this
  exact this

theorem chain_grow_go : ∀ (a b : List Strm), a.length = b.length → (∀ p ∈ a.zip b, Grow p.1 p.2) → ∀ i,
    (chainGo a i).1 <+: (chainGo b i).1 ∧ ((chainGo a i).2 = -1 → chainGo a i = chainGo b i) := by
  intro a
  induction a with
  | nil =>
    intro b hl _ i
    cases b with
    | nil => exact ⟨List.prefix_refl _, fun _ => rfl⟩
    | cons x r => simp at hl
  | cons s r ih =>
    intro b hl hg i
    cases b with
    | nil => simp at hl
    | cons s' r' =>
      have h1 : Grow s s' := hg (s, s') (by simp)
      have h2 := ih r' (by simpa using hl) (fun p hp => hg p (by simp [hp])) (i + 1)
      rw [chainGo, chainGo]
      by_cases he : s.ended = true
      · have := h1.1 he
        subst this
        rw [if_pos he, if_pos he]
        refine ⟨(List.prefix_append_right_inj _).2 h2.1, fun h => ?_⟩
        rw [h2.2 h]
      · rw [if_neg he]
        refine ⟨?_, fun h => ?_⟩
        · split
          · exact h1.2.trans (List.prefix_append _ _)
          · exact h1.2
        · exfalso
          have h : (i : Int) = -1 := h
          omega

theorem chain_grow (a b : List Strm) (hl : a.length = b.length) (hg : ∀ p ∈ a.zip b, Grow p.1 p.2) : GrowOk (chainDen a) (chainDen b) := by
  have h := chain_grow_go a b hl hg 0
  refine ⟨fun i _ => ⟨?_, fun hn => ?_⟩, fun hn => ?_⟩
  · show (if i = 0 then _ else _) <+: (if i = 0 then _ else _)
    split
    · exact h.1
    · exact List.prefix_refl _
  · show (if i = 0 then _ else _) = (if i = 0 then _ else _)
    rw [h.2 hn]
  · refine ⟨?_, rfl⟩
    show (chainGo b 0).2 = -1
    rw [← h.2 hn]; exact hn
end Go.Proofs.Ytkgmbomfkdkofaa
