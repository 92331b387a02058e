/- tee's machine, in plain Lean. -/
import Derived.Test.YtfbfcehjlaallaaChainP
namespace Go.Proofs.Ytfbfcehjlaallaa

structure TeS where
  outs : Nat
  over : Bool

def teeOuts (n : Nat) (b : Bs) : Outs := (List.range n).map fun (k : Nat) => ((k : Int), b)

abbrev teeM : Mach where
  σ := TeS
  need s := if s.over = true then -1 else 0
  held _ := 0
  feed s port b := if s.over = true then ([], 4, s) else if port ≠ 0 then ([], 1, s) else if b.length = 0 ∨ b.length > 32 then ([], 1, s) else (teeOuts s.outs b, 0, s)
  fin s port := if s.over = true then ([], 4, s) else if port ≠ 0 then ([], 1, s) else ([], 0, { s with over := true })
  more s := ([], if s.over = true then 4 else 1, s)

def teeDen (n : Nat) (s : Strm) : Den := ⟨fun j => if j < n then s.bs else [], if s.ended = true then -1 else 0, 0⟩

/-- What the document says of tee. -/
def teeMeans (n : Nat) (s : Strm) : List Strm := (List.range n).flatMap fun _ => refOut s.bs s.ended s.code s.stage s.id

theorem teeOuts_sum (n : Nat) (b : Bs) : ((teeOuts n b).map fun o => o.2.length).sum = n * b.length := by
  unfold teeOuts
  induction n with
  | zero => simp
  | succ n ih => rw [List.range_succ, List.map_append, List.map_append, List.sum_append, ih, Nat.succ_mul]; simp
theorem teeOuts_flat (n : Nat) (b : Bs) (j : Nat) : ((teeOuts n b).flatMap fun o => if o.1 = (j : Int) then o.2 else []) = if j < n then b else [] := by
  unfold teeOuts
  induction n with
  | zero => simp
  | succ n ih =>
    rw [List.range_succ, List.map_append, List.flatMap_append, ih]
    simp only [List.map_cons, List.map_nil, List.flatMap_cons, List.flatMap_nil, List.append_nil]
    by_cases h : j = n
    · subst h; simp
    · by_cases h2 : j < n
      · rw [if_pos h2, if_neg (by omega), if_pos (by omega), List.append_nil]
      · rw [if_neg h2, if_neg (by omega), if_neg (by omega)]; rfl

structure TeMid (n : Nat) (s : Strm) (d : DS TeS) : Prop where
  st : d.st = ⟨n, false⟩
  need : d.need = 0
  err : d.err = 0
  bad : d.bad = false
  held : d.held ≤ 0
  told : d.told 0 = false
  le : d.taken 0 ≤ s.bs.length
  outs : d.outs = fun j => if j < n then s.bs.take (d.taken 0) else []

theorem tee_loop (n : Nat) (h4 : n ≤ 4) (s : Strm) (cuts : List Int) : ∀ (f m : Nat) (d : DS TeS), TeMid n s d → s.bs.length - d.taken 0 + 2 ≤ f → DEnd teeM (teeDen n s) 0 (dloop teeM [s] cuts f m d) := by
  intro f
  induction f with
  | zero => intro m d h hf; omega
  | succ f ih =>
    intro m d h hf
    have hne : d.need ≠ -1 := by rw [h.need]; decide
    have hh := h.held
    have hcut := cutN_bd cuts m
    have hst0 := dstep_one teeM s cuts m d h.need
    by_cases hb : d.taken 0 < s.bs.length
    · have hch : ((s.bs.take (min s.bs.length (d.taken 0 + cutN cuts m))).drop (d.taken 0)).length = min s.bs.length (d.taken 0 + cutN cuts m) - d.taken 0 := by simp
      generalize hto : min s.bs.length (d.taken 0 + cutN cuts m) = to at *
      generalize hc : (s.bs.take to).drop (d.taken 0) = ch at *
      have hfeed : teeM.feed d.st 0 ch = (teeOuts n ch, 0, d.st) := by
        rw [h.st]
        dsimp only
        rw [if_neg (by simp), if_neg (by simp), if_neg (by omega)]
      have hstep : dstep teeM [s] cuts m d = ((({ d with taken := upd d.taken 0 to } : DS TeS).put (teeOuts n ch, 0, d.st)).look teeM, true) := by
        rw [hst0, if_pos hb, hfeed]
      rw [dloop_go h.err hne hstep]
      have hok : OkOuts (teeOuts n ch) := by
        refine ⟨by rw [teeOuts_sum]; have : n * ch.length ≤ 4 * 32 := Nat.mul_le_mul h4 (by omega); omega, fun o ho => ?_⟩
        unfold teeOuts at ho
        simp only [List.mem_map, List.mem_range] at ho
        obtain ⟨k, hk, rfl⟩ := ho
        refine ⟨by dsimp only; omega, by dsimp only; omega, fun e => ?_⟩
        have e2 : ch = [] := e
        rw [e2] at hch
        simp at hch
        omega
      rw [DS.put_ok (σ := teeM.σ) _ _ hok]
      refine ih _ _ ⟨by exact h.st, ?_, by rfl, by exact h.bad, ?_, by exact h.told, ?_, ?_⟩ ?_
      · show teeM.need d.st = 0
        rw [h.st]; rfl
      · show max d.held 0 ≤ 0
        omega
      · show upd d.taken 0 to 0 ≤ _
        simp only [upd, if_true]; omega
      · show collect d.outs _ = fun j => if j < n then s.bs.take (upd d.taken 0 to 0) else []
        funext j
        simp only [collect, upd, if_true]
        rw [teeOuts_flat, h.outs]
        dsimp only
        split
        · rw [take_split s.bs (d.taken 0) to (by omega), hc]
        · rfl
      · show _ - upd d.taken 0 to 0 + 2 ≤ f
        simp only [upd, if_true]; omega
    · have htk : d.taken 0 = s.bs.length := by have := h.le; omega
      have ho := h.outs
      rw [htk, List.take_length] at ho
      by_cases hend : s.ended = true
      · have hfin : teeM.fin d.st 0 = ([], 0, ⟨n, true⟩) := by
          rw [h.st]
          dsimp only
          rw [if_neg (by simp), if_neg (by simp)]
        have hstep : dstep teeM [s] cuts m d = ((({ d with told := upd d.told 0 true } : DS TeS).put (([] : Outs), (0 : Int), (⟨n, true⟩ : TeS))).look teeM, true) := by
          rw [hst0, if_neg hb, if_pos ⟨hend, h.told⟩, hfin]
        rw [dloop_go h.err hne hstep, DS.put_ok (σ := teeM.σ) _ _ ⟨by simp, fun o ho => by cases ho⟩, dloop_end (M := teeM) (.inr rfl)]
        refine ⟨?_, ?_, rfl, h.bad, ?_, ?_⟩
        · show collect d.outs [] = _
          rw [collect_nil, ho]; rfl
        · show (-1 : Int) = if s.ended = true then -1 else 0
          rw [if_pos hend]
        · show max d.held 0 ≤ 0
          omega
        · show (0 : Int) ≤ 0
          omega
      · have hstep : dstep teeM [s] cuts m d = (d, false) := by
          rw [hst0, if_neg hb, if_neg (fun h => hend h.1)]
        rw [dloop_stop h.err hne hstep]
        exact ⟨ho, by show d.need = if s.ended = true then -1 else 0; rw [if_neg hend]; exact h.need, h.err, h.bad, h.held, by show (0 : Int) ≤ 0; omega⟩

theorem tee_drive (n : Nat) (h4 : n ≤ 4) (s : Strm) (hs : s.bs.length ≤ 50000) (cuts : List Int) : DEnd teeM (teeDen n s) 0 (drive teeM ⟨n, false⟩ [s] cuts) :=
  tee_loop n h4 s cuts _ _ _ ⟨rfl, rfl, rfl, rfl, Int.le_refl _, rfl, Nat.zero_le _, by funext j; simp [dinit]⟩ (by simp [dinit]; omega)

theorem refOut_one (b : Bs) (all : Bool) (c st id : Int) : ∃ x, refOut b all c st id = [x] ∧ x.bs = b ∧ x.ended = all ∧ (all = false → x.code = c ∧ x.stage = st ∧ x.id = id) := by
  unfold refOut
  cases all
  · exact ⟨_, rfl, rfl, rfl, fun _ => ⟨rfl, rfl, rfl⟩⟩
  · exact ⟨_, rfl, rfl, rfl, fun h => by cases h⟩

theorem tee_same (n : Nat) (h4 : n ≤ 4) (s : Strm) : SameOk (teeDen n s) [s] (teeMeans n s) := by
  obtain ⟨x, hx, hb, he, hc⟩ := refOut_one s.bs s.ended s.code s.stage s.id
  have hm : teeMeans n s = List.replicate n x := by
    unfold teeMeans
    rw [hx]
    clear hx
    induction n with
    | zero => rfl
    | succ n ih => rw [List.range_succ, List.flatMap_append, ih (by omega), List.replicate_succ']; rfl
  rw [hm]
  refine ⟨fun i hi => ?_, fun w hw => ?_⟩
  · show (if i < n then s.bs else []) = _
    rw [List.getElem?_replicate]
    split
    · simp [hb]
    · rfl
  · have hw := List.eq_of_mem_replicate hw
    subst hw
    unfold teeDen
    cases hs : s.ended with
    | true => exact .inl ⟨he.trans hs, rfl, rfl⟩
    | false =>
      obtain ⟨h1, h2, h3⟩ := hc hs
      exact .inr (.inr ⟨he.trans hs, rfl, 0, rfl, by simp, h1, h2, h3⟩)

theorem tee_grow (n : Nat) (s s' : Strm) (h : Grow s s') : GrowOk (teeDen n s) (teeDen n s') := by
  by_cases he : s.ended = true
  · rw [h.1 he]
    exact ⟨fun i _ => ⟨List.prefix_refl _, fun _ => rfl⟩, fun h => ⟨h, rfl⟩⟩
  · refine ⟨fun i _ => ⟨?_, fun hn => ?_⟩, fun hn => ?_⟩
    · show (if i < n then s.bs else []) <+: (if i < n then s'.bs else [])
      split
      · exact h.2
      · exact List.prefix_refl _
    · exfalso
      have hn : (if s.ended = true then (-1 : Int) else 0) = -1 := hn
      rw [if_neg he] at hn
      cases hn
    · exfalso
      have hn : (if s.ended = true then (-1 : Int) else 0) = -1 := hn
      rw [if_neg he] at hn
      cases hn
end Go.Proofs.Ytfbfcehjlaallaa
