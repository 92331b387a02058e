import Derived.Test.YtkgmbomfkdkofaaPure
namespace Go.Proofs.Ytkgmbomfkdkofaa

/-- An answer that Drive takes: ports 0 to 3, no Out without bytes, at most 1024 bytes. -/
def OkOuts (l : Outs) : Prop := (l.map fun o => o.2.length).sum ≤ 1024 ∧ ∀ o ∈ l, 0 ≤ o.1 ∧ o.1 ≤ 3 ∧ o.2 ≠ []

/-- What has come out of each port. -/
def collect (outs : Nat → Bs) (l : Outs) : Nat → Bs := fun j => outs j ++ l.flatMap fun o => if o.1 = (j : Int) then o.2 else []

theorem collect_nil (outs : Nat → Bs) : collect outs [] = outs := by funext j; simp [collect]
theorem collect_append (outs : Nat → Bs) (a b : Outs) : collect (collect outs a) b = collect outs (a ++ b) := by
  funext j; simp [collect, List.append_assoc]

theorem putAll_ok (l : Outs) : ∀ (outs : Nat → Bs) (bad : Bool) (n : Nat), n + (l.map fun o => o.2.length).sum ≤ 1024 → (∀ o ∈ l, 0 ≤ o.1 ∧ o.1 ≤ 3 ∧ o.2 ≠ []) →
    putAll (outs, bad, n) l = (collect outs l, bad, n + (l.map fun o => o.2.length).sum) := by
  induction l with
  | nil => intro outs bad n _ _; simp [putAll, collect_nil]
  | cons o r ih =>
    intro outs bad n hn ho
    obtain ⟨h0, h3, hne⟩ := ho o (by simp)
    simp only [List.map_cons, List.sum_cons] at hn
    have h1 : put1 (outs, bad, n) o = (upd outs o.1.toNat (outs o.1.toNat ++ o.2), bad, n + o.2.length) := by
      unfold put1
      rw [if_neg (by simp only [not_or]; exact ⟨by omega, by omega, hne⟩)]
      have : decide (n + o.2.length > 1024) = false := decide_eq_false (by omega)
      simp [this]
    have h2 : collect (upd outs o.1.toNat (outs o.1.toNat ++ o.2)) r = collect outs (o :: r) := by
      funext j
      simp only [collect, List.flatMap_cons, upd]
      by_cases hj : j = o.1.toNat
      · subst hj
        have : o.1 = ((o.1.toNat : Nat) : Int) := by omega
        rw [if_pos rfl, if_pos this, List.append_assoc]
      · have : ¬ o.1 = (j : Int) := by omega
        rw [if_neg hj, if_neg this, List.nil_append]
    have h4 := ih (upd outs o.1.toNat (outs o.1.toNat ++ o.2)) bad (n + o.2.length) (by omega) (fun x hx => ho x (by simp [hx]))
    simp only [putAll] at h4 ⊢
    simp only [List.foldl_cons, h1]
    rw [h4, h2]
    simp [Nat.add_assoc]

theorem DS.put_ok {σ : Type} (d : DS σ) (a : Outs × Int × σ) (h : OkOuts a.1) : d.put a = { d with st := a.2.2, outs := collect d.outs a.1, err := a.2.1 } := by
  have := putAll_ok a.1 d.outs d.bad 0 (by simpa using h.1) h.2
  unfold DS.put
  rw [this]

/-- What is asked of a kind of machines of lines. -/
structure LKok (k : LK) (I : k.τ → Prop) (bound : Nat) : Prop where
  each : ∀ t l, I t → l.length ≤ 64 → I (k.each t l).2
  okEach : ∀ t ls, I t → (∀ l ∈ ls, l.length ≤ 64) → (ls.map List.length).sum + ls.length ≤ 96 → ls.length ≤ 32 → OkOuts (eachAll k t ls).1
  okLast : ∀ t b, I t → b.length ≤ 64 → OkOuts ((if b = [] then ([], t) else k.each t b).1 ++ (k.last (if b = [] then ([], t) else k.each t b).2).1)
  held : ∀ t, I t → 0 ≤ k.heldX t ∧ k.heldX t ≤ bound
  heldLast : ∀ t, I t → 0 ≤ k.heldX (k.last t).2 ∧ k.heldX (k.last t).2 ≤ bound

theorem eachAll_inv {k : LK} {I : k.τ → Prop} {bound : Nat} (H : LKok k I bound) (ls : List Bs) : ∀ t, I t → (∀ l ∈ ls, l.length ≤ 64) → I (eachAll k t ls).2 := by
  induction ls with
  | nil => intro t h _; exact h
  | cons l r ih => intro t h hl; exact ih _ (H.each t l h (hl l (by simp))) (fun x hx => hl x (by simp [hx]))

/-- What comes of a whole stream: (the outs in order, need, err). -/
def linesAll (k : LK) (t0 : k.τ) (s : Strm) : Outs × Int × Int :=
  let c := cutS [] s.bs
  let a := eachAll k t0 c.1
  if c.2.2 = true then (a.1, -1, 20)
  else if s.ended = true then
    let z := if c.2.1 = [] then ([], a.2) else k.each a.2 c.2.1
    (a.1 ++ (z.1 ++ (k.last z.2).1), -1, 0)
  else (a.1, 0, 0)

structure LMid (k : LK) (t0 : k.τ) (s : Strm) (bound : Nat) (d : DS (LS k.τ)) : Prop where
  le : d.taken 0 ≤ s.bs.length
  nf : (cutS [] (s.bs.take (d.taken 0))).2.2 = false
  st : d.st = { over := false, beg := (cutS [] (s.bs.take (d.taken 0))).2.1, t := (eachAll k t0 (cutS [] (s.bs.take (d.taken 0))).1).2 }
  outs : d.outs = collect (fun _ => []) (eachAll k t0 (cutS [] (s.bs.take (d.taken 0))).1).1
  need : d.need = 0
  err : d.err = 0
  bad : d.bad = false
  told : d.told 0 = false
  held : 0 ≤ d.held ∧ d.held ≤ 64 + bound

structure LEnd (k : LK) (t0 : k.τ) (s : Strm) (bound : Nat) (d : DS (LS k.τ)) : Prop where
  outs : d.outs = collect (fun _ => []) (linesAll k t0 s).1
  need : d.need = (linesAll k t0 s).2.1
  err : d.err = (linesAll k t0 s).2.2
  bad : d.bad = false
  held : 0 ≤ d.held ∧ d.held ≤ 64 + bound
  over : d.need = -1 → d.st.over = true

theorem take_split (bs : Bs) (m to : Nat) (h : m ≤ to) : bs.take to = bs.take m ++ (bs.take to).drop m := by
  have : bs.take m = (bs.take to).take m := by rw [List.take_take]; congr 1; omega
  rw [this, List.take_append_drop]

theorem lines_loop (k : LK) (I : k.τ → Prop) (bound : Nat) (H : LKok k I bound) (t0 : k.τ) (h0 : I t0) (s : Strm) (cuts : List Int) :
    ∀ (f n : Nat) (d : DS (LS k.τ)), LMid k t0 s bound d → s.bs.length - d.taken 0 + 2 ≤ f → LEnd k t0 s bound (dloop k.mach [s] cuts f n d) := by
  intro f
  induction f with
  | zero => intro n d _ hf; omega
  | succ f ih =>
    intro n d hm hf
    have hI : I (eachAll k t0 (cutS [] (s.bs.take (d.taken 0))).1).2 :=
      eachAll_inv H _ _ h0 (cutS_len _ [] (by simp)).2
    have hbeg : (cutS [] (s.bs.take (d.taken 0))).2.1.length ≤ 64 := (cutS_len _ [] (by simp)).1
    have hneed := hm.need
    have hne : d.need ≠ -1 := by rw [hneed]; decide
    by_cases hlt : d.taken 0 < s.bs.length
    · -- bytes
      have hcut := cutN_bd cuts n
      let to := min s.bs.length (d.taken 0 + cutN cuts n)
      have hto : to = min s.bs.length (d.taken 0 + cutN cuts n) := rfl
      have hto1 : d.taken 0 < to := by omega
      have hto2 : to ≤ s.bs.length := by omega
      have hto3 : to ≤ d.taken 0 + 32 := by omega
      let ch := (s.bs.take to).drop (d.taken 0)
      have hch : ch = (s.bs.take to).drop (d.taken 0) := rfl
      have hchl : ch.length = to - d.taken 0 := by rw [hch]; simp; omega
      have hsplit : s.bs.take to = s.bs.take (d.taken 0) ++ ch := take_split _ _ _ (by omega)
      have hstep : dstep k.mach [s] cuts n d = ((({ d with taken := upd d.taken 0 to } : DS k.mach.σ).put (k.mach.feed d.st 0 ch)).look k.mach, true) := by
        unfold dstep
        rw [hneed]
        simp [hlt, ← hto, ← hch]
      rw [dloop_go (M := k.mach) hm.err hne hstep]
      have hfeed : k.mach.feed d.st 0 ch = k.feed d.st 0 ch := rfl
      rw [hfeed, hm.st]
      have hcs := cutS_append (s.bs.take (d.taken 0)) [] ch
      rw [← hsplit, if_neg (by rw [hm.nf]; decide)] at hcs
      have hsum := cutS_sum ch (cutS [] (s.bs.take (d.taken 0))).2.1
      have hlen := cutS_len ch (cutS [] (s.bs.take (d.taken 0))).2.1 hbeg
      have hok : OkOuts (eachAll k (eachAll k t0 (cutS [] (s.bs.take (d.taken 0))).1).2 (cutS (cutS [] (s.bs.take (d.taken 0))).2.1 ch).1).1 :=
        H.okEach _ _ hI hlen.2 (by omega) (by have := cutS_count ch (cutS [] (s.bs.take (d.taken 0))).2.1; omega)
      have hI2 : I (eachAll k (eachAll k t0 (cutS [] (s.bs.take (d.taken 0))).1).2 (cutS (cutS [] (s.bs.take (d.taken 0))).2.1 ch).1).2 := eachAll_inv H _ _ hI hlen.2
      have hea := eachAll_append k (cutS [] (s.bs.take (d.taken 0))).1 t0 (cutS (cutS [] (s.bs.take (d.taken 0))).2.1 ch).1
      have hx := H.held _ hI2
      unfold LK.feed
      rw [if_neg (by simp), if_neg (by simp), if_neg (by omega)]
      by_cases hfail : (cutS (cutS [] (s.bs.take (d.taken 0))).2.1 ch).2.2 = true
      · -- a line that is too long
        simp only [hfail, if_true]
        rw [DS.put_ok (σ := k.mach.σ) _ _ hok]
        have hall : (cutS [] s.bs).2.2 = true ∧ (cutS [] s.bs).1 = (cutS [] (s.bs.take to)).1 := by
          have h2 := cutS_append (s.bs.take to) [] (s.bs.drop to)
          rw [List.take_append_drop] at h2
          have hf2 : (cutS [] (s.bs.take to)).2.2 = true := by rw [hcs]; exact hfail
          rw [if_pos hf2] at h2
          rw [h2]; exact ⟨hf2, rfl⟩
        rw [dloop_end (M := k.mach) (.inr rfl)]
        have hla : linesAll k t0 s = ((eachAll k t0 (cutS [] (s.bs.take to)).1).1, -1, 20) := by
          unfold linesAll; simp only [hall.1, hall.2, if_true]
        refine ⟨?_, ?_, ?_, hm.bad, ?_, fun _ => rfl⟩
        · rw [hla]
          simp only [DS.look, hm.outs, collect_append, hcs, hea]
        · rw [hla]; rfl
        · rw [hla]; rfl
        · have := hm.held
          simp only [DS.look, LK.mach, List.length_nil]
          omega
      · simp only [hfail]
        have hf3 : (cutS (cutS [] (s.bs.take (d.taken 0))).2.1 ch).2.2 = false := by simpa using hfail
        rw [if_neg (by simp), DS.put_ok (σ := k.mach.σ) _ _ hok]
        refine ih _ _ ?_ ?_
        · have htk : (upd d.taken 0 to) 0 = to := by simp [upd]
          refine ⟨?_, ?_, ?_, ?_, rfl, rfl, hm.bad, hm.told, ?_⟩
          · simp only [DS.look, htk]; exact hto2
          · simp only [DS.look, htk]; rw [hcs]; exact hf3
          · simp only [DS.look, htk]; rw [hcs, hea]
          · simp only [DS.look, htk, hm.outs, collect_append]; rw [hcs, hea]
          · have := hm.held
            have := hlen.1
            simp only [DS.look, LK.mach]
            omega
        · simp only [DS.look, upd, if_true]; omega
    · -- no more bytes
      have htk : d.taken 0 = s.bs.length := by have := hm.le; omega
      have hall : s.bs.take (d.taken 0) = s.bs := by rw [htk, List.take_length]
      by_cases hend : s.ended = true
      · have hstep : dstep k.mach [s] cuts n d = ((({ d with told := upd d.told 0 true } : DS k.mach.σ).put (k.mach.fin d.st 0)).look k.mach, true) := by
          unfold dstep
          rw [hneed]
          simp [htk, hend, hm.told]
        rw [dloop_go (M := k.mach) hm.err hne hstep]
        have hfin0 : k.mach.fin d.st 0 = k.fin d.st 0 := rfl
        rw [hfin0, hm.st]
        unfold LK.fin
        rw [if_neg (by simp), if_neg (by simp)]
        have hok := H.okLast _ _ hI hbeg
        rw [DS.put_ok (σ := k.mach.σ) _ _ hok]
        rw [dloop_end (M := k.mach) (.inr rfl)]
        have hnf := hm.nf
        rw [hall] at hnf
        have hla : linesAll k t0 s = ((eachAll k t0 (cutS [] s.bs).1).1 ++ ((if (cutS [] s.bs).2.1 = [] then ([], (eachAll k t0 (cutS [] s.bs).1).2) else k.each (eachAll k t0 (cutS [] s.bs).1).2 (cutS [] s.bs).2.1).1 ++ (k.last (if (cutS [] s.bs).2.1 = [] then ([], (eachAll k t0 (cutS [] s.bs).1).2) else k.each (eachAll k t0 (cutS [] s.bs).1).2 (cutS [] s.bs).2.1).2).1), -1, 0) := by
          unfold linesAll; simp [hnf, hend]
        refine ⟨?_, ?_, ?_, hm.bad, ?_, fun _ => rfl⟩
        · rw [hla]
          simp only [DS.look, hm.outs, collect_append, hall]
        · rw [hla]; rfl
        · rw [hla]; rfl
        · have := hm.held
          have hz : I ((if (cutS [] (s.bs.take (d.taken 0))).2.1 = [] then ([], (eachAll k t0 (cutS [] (s.bs.take (d.taken 0))).1).2) else k.each (eachAll k t0 (cutS [] (s.bs.take (d.taken 0))).1).2 (cutS [] (s.bs.take (d.taken 0))).2.1).2) := by
            split
            · exact hI
            · exact H.each _ _ hI hbeg
          have := H.heldLast _ hz
          simp only [DS.look, LK.mach, List.length_nil]
          omega
      · have hstep : dstep k.mach [s] cuts n d = (d, false) := by
          unfold dstep
          rw [hneed]
          simp [htk, hend]
        rw [dloop_stop (M := k.mach) hm.err hne hstep]
        have hnf := hm.nf
        rw [hall] at hnf
        have hla : linesAll k t0 s = ((eachAll k t0 (cutS [] s.bs).1).1, 0, 0) := by
          unfold linesAll; simp [hnf, hend]
        refine ⟨?_, ?_, ?_, hm.bad, hm.held, ?_⟩
        · rw [hla]
          have := hm.outs
          rw [hall] at this
          simpa using this
        · rw [hla]; exact hm.need
        · rw [hla]; exact hm.err
        · intro h; rw [hneed] at h; simp at h

theorem lines_drive (k : LK) (I : k.τ → Prop) (bound : Nat) (H : LKok k I bound) (t0 : k.τ) (h0 : I t0) (s : Strm) (cuts : List Int) (hs : s.bs.length ≤ 50000) :
    LEnd k t0 s bound (drive k.mach { over := false, beg := [], t := t0 } [s] cuts) := by
  refine lines_loop k I bound H t0 h0 s cuts _ _ _ ?_ ?_
  · exact ⟨Nat.zero_le _, by simp [dinit, cutS], by simp [dinit, cutS, eachAll], by simp [dinit, cutS, eachAll, collect_nil], rfl, rfl, rfl, rfl, by simp [dinit]; omega⟩
  · simp [dinit]; omega
end Go.Proofs.Ytkgmbomfkdkofaa
