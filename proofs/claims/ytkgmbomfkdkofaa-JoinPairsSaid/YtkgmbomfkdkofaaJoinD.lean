/- join, plain: Drive comes to what comes of its inputs; what the document says; more inputs. -/
import Derived.Test.YtkgmbomfkdkofaaJoinR
import Derived.Test.YtkgmbomfkdkofaaPasteL
import Derived.Test.YtkgmbomfkdkofaaPasteD
namespace Go.Proofs.Ytkgmbomfkdkofaa

def jStart (T : Nat → List Bs) (E : Nat → Bool) : JA := ⟨T, E, fun _ => [], fun _ => [], fun _ => true, 0, 0, false⟩
theorem jStart_keep (N : Nat) (T : Nat → List Bs) (E : Nat → Bool) (hT : ∀ k, k < 2 → ∀ l ∈ T k, l.length ≤ 64) : JKeep N (jStart T E) :=
  ⟨(fun _ _ h => by cases h), (fun _ _ => Nat.zero_le _), (fun _ => ⟨rfl, rfl⟩), (fun h => by cases h), hT, (fun _ _ l h => by cases h), fun _ _ => Nat.zero_le _⟩

/-- What join does with its inputs. -/
def joDen (c : UInt8) (N : Nat) (ins : List Strm) : Den :=
  ⟨outs0 (joinS (aAll c N (jStart (insT ins) (insE ins))).1),
   if (aAll c N (jStart (insT ins) (insE ins))).2.1.over = true then -1 else if failedS (sAt ins (aAll c N (jStart (insT ins) (insE ins))).2.1.wk) = true then -1 else ((aAll c N (jStart (insT ins) (insE ins))).2.1.wk : Int),
   if (aAll c N (jStart (insT ins) (insE ins))).2.1.over = true then (aAll c N (jStart (insT ins) (insE ins))).2.2 else if failedS (sAt ins (aAll c N (jStart (insT ins) (insE ins))).2.1.wk) = true then 20 else 0⟩

/-- More lines, more ends. -/
def Ex (T T' : Nat → List Bs) (E E' : Nat → Bool) : Prop := ∀ j, T j <+: T' j ∧ (E j = true → T' j = T j ∧ E' j = true)
theorem Ex.start {T T' : Nat → List Bs} {E E' : Nat → Bool} (h : Ex T T' E E') : ∃ m, jStart T' E' = (jStart T E).ext m E' ∧ JA.OkE E m E' ∧ ∀ k, T' k = T k ++ m k := by
  have key : ∀ k, T' k = T k ++ (T' k).drop (T k).length := fun k => by
    obtain ⟨x, hx⟩ := (h k).1
    rw [← hx, List.drop_left]
  refine ⟨fun k => (T' k).drop (T k).length, ?_, fun k hk => ?_, key⟩
  · have : T' = fun k => T k ++ (T' k).drop (T k).length := funext key
    unfold jStart JA.ext
    simp only [JA.mk.injEq, and_self, and_true]
    exact this
  · have := (h k).2 hk
    exact ⟨by show (T' k).drop (T k).length = []; rw [this.1]; simp, this.2⟩

theorem upd_id {α : Type} (f : Nat → α) (k : Nat) : upd f k (f k) = f := by funext j; unfold upd; split <;> simp_all
theorem waits_want {s : JA} (h : Waits s) : ¬ (s.want 0 = false ∧ s.want 1 = false) := fun hh => by
  have h1 := h.want
  have h2 := h.lt
  obtain e | e : s.wk = 0 ∨ s.wk = 1 := by omega
  · rw [e, hh.1] at h1; cases h1
  · rw [e, hh.2] at h1; cases h1
theorem waits_step (c : UInt8) (N : Nat) {s : JA} (h : Waits s) : aStep c N s = ([], s, false, 0) := by
  have hw := waits_want h
  have hg : s.grp c N = ⟨[], s.key s.wk, s.ls s.wk, 1, 0⟩ := by unfold JA.grp; rw [h.q, h.en, jgo]; rfl
  have hs : s.set s.wk ⟨[], s.key s.wk, s.ls s.wk, 1, 0⟩ = s := by
    unfold JA.set
    have e := upd_id s.q s.wk
    rw [h.q] at e
    dsimp only
    rw [e, upd_id, upd_id]
  unfold aStep
  rw [if_neg (by rw [h.over]; decide), if_neg hw, hg]
  dsimp only
  rw [if_neg (by decide), if_neg (by decide), if_pos rfl, hs]
theorem waits_all (c : UInt8) (N : Nat) {s : JA} (h : Waits s) : aAll c N s = ([], s, 0) := by
  have e := waits_step c N h
  rw [aAll_stop (by rw [e]), e]

/-- From what has come to all that there is. -/
theorem aAll_full {c : UInt8} {N : Nat} {T T' : Nat → List Bs} {E E' : Nat → Bool} (h : Ex T T' E E') {out : List Bs} {t : JA} {e : Int} (hg : aAll c N (jStart T E) = (out, t, e)) :
    (t.over = true → (aAll c N (jStart T' E')).1 = out ∧ (aAll c N (jStart T' E')).2.1.over = true ∧ (aAll c N (jStart T' E')).2.2 = e) ∧
    (t.over = false → Waits t ∧ e = 0 ∧ ∃ m, (∀ k, T' k = T k ++ m k) ∧ JA.OkE E m E' ∧ t.en = E ∧ aAll c N (jStart T' E') = (out ++ (aAll c N (t.ext m E')).1, (aAll c N (t.ext m E')).2)) := by
  obtain ⟨m, hm, hE, hk⟩ := h.start
  have hx := aAll_ext c N m E' _ (jStart T E) (Nat.lt_succ_self _) hE
  rw [← hm, hg] at hx
  dsimp only at hx
  refine ⟨fun ho => ?_, fun ho => ?_⟩
  · rw [hx.2.1 ho]; exact ⟨rfl, ho, rfl⟩
  · obtain ⟨h1, h2, h3⟩ := hx.2.2 ho
    exact ⟨h2, h1, m, hk, hE, hx.1, h3⟩

def BD (N : Nat) : Int := ((2 * (64 * N + 96) : Nat) : Int)

structure JoMid (c : UInt8) (N : Nat) (ins : List Strm) (d : DS JoS) (out : List Bs) : Prop where
  le : ∀ j, j < 2 → d.taken j ≤ (sAt ins j).bs.length
  told : ∀ j, j < 2 → d.told j = true → (sAt ins j).ended = true ∧ d.taken j = (sAt ins j).bs.length
  nf : ∀ j, j < 2 → (cutS [] ((sAt ins j).bs.take (d.taken j))).2.2 = false
  go : aAll c N (jStart (pT ins d.taken d.told) (pE ins d.taken d.told)) = (out ++ (aAll c N d.st.a).1, (aAll c N d.st.a).2)
  by_ : d.st.by_ = c
  most : d.st.most = N
  st : (d.st.more = true ∧ Due d.st.a) ∨ (d.st.more = false ∧ Waits d.st.a ∧ d.st.at_ = d.st.a.wk)
  beg : ∀ j, j < 2 → d.st.beg j = pB ins d.taken d.told j
  en : d.st.a.en = pE ins d.taken d.told
  keep : JKeep N d.st.a
  bnd : ∀ j, j < 2 → (d.st.beg j).length + lens (d.st.a.q j) ≤ 96
  outs : d.outs = outs0 (joinS out)
  need : d.need = joinM.need d.st
  err : d.err = 0
  bad : d.bad = false
  held : d.held ≤ BD N

theorem lens_mul (N : Nat) (l : List Bs) (h1 : l.length ≤ N) (h2 : ∀ x ∈ l, x.length ≤ 64) : lens l ≤ 64 * N := by
  have key : lens l ≤ l.length * 64 := by
    clear h1
    induction l with
    | nil => simp [lens]
    | cons x r ih =>
      have h3 := h2 x (by simp)
      have h4 := ih (fun y hy => h2 y (by simp [hy]))
      unfold lens at h4 ⊢
      simp only [List.map_cons, List.sum_cons, List.length_cons, Nat.succ_mul]
      omega
  have : l.length * 64 ≤ N * 64 := Nat.mul_le_mul_right _ h1
  omega
theorem jo_held (N : Nat) (s : JoS) (hk : JKeep N s.a) (hb : ∀ j, j < 2 → (s.beg j).length + lens (s.a.q j) ≤ 96) : joinM.held s ≤ BD N := by
  have key : ∀ j, j < 2 → joWt s j ≤ 64 * N + 96 := fun j hj => by
    have h1 := lens_mul N (s.a.ls j) (hk.few j hj) (hk.shl j hj)
    have h2 := hb j hj
    unfold joWt paWt
    have e : ((s.a.ls j).map List.length).sum = lens (s.a.ls j) := rfl
    have e2 : ((s.a.q j).map List.length).sum = lens (s.a.q j) := rfl
    rw [e]
    dsimp only
    rw [e2]
    split <;> omega
  have h0 := key 0 (by omega)
  have h1 := key 1 (by omega)
  show ((joWt s 0 + joWt s 1 : Nat) : Int) ≤ ((2 * (64 * N + 96) : Nat) : Int)
  omega

/-- A run from a place that came about: Drive goes on, or it has come to its end. -/
theorem jo_after (c : UInt8) (N : Nat) (ins : List Strm) (tk : Nat → Nat) (td : Nat → Bool) (s1 : JoS) (out : List Bs) (hN : 1 ≤ N) (hby : s1.by_ = c) (hms : s1.most = N) (hk1 : JKeep N s1.a) (hm1 : s1.more = true → s1.a.over = false ∧ s1.a.want 0 = false ∧ s1.a.want 1 = false)
    (hle : ∀ j, j < 2 → tk j ≤ (sAt ins j).bs.length) (htd : ∀ j, j < 2 → td j = true → (sAt ins j).ended = true ∧ tk j = (sAt ins j).bs.length) (hnf : ∀ j, j < 2 → (cutS [] ((sAt ins j).bs.take (tk j))).2.2 = false)
    (hgo : aAll c N (jStart (pT ins tk td) (pE ins tk td)) = (out ++ (aAll c N s1.a).1, (aAll c N s1.a).2)) (hbeg : ∀ j, j < 2 → s1.beg j = pB ins tk td j) (hen : s1.a.en = pE ins tk td) (hb : ∀ j, j < 2 → (s1.beg j).length + lens (s1.a.q j) ≤ 96)
    (held : Int) (hh : held ≤ BD N) (d' : DS JoS) (a1 : d'.st = (jAll s1).1) (a2 : d'.outs = outs0 (joinS out)) (a3 : d'.need = joinM.need (jAll s1).1) (a4 : d'.err = (jAll s1).2) (a5 : d'.bad = false) (a6 : d'.held = max held (joinM.held (jAll s1).1)) (a7 : d'.taken = tk) (a8 : d'.told = td) :
    JoMid c N ins d' out ∨ (DEnd joinM (joDen c N ins) (BD N) d' ∧ d'.need = -1) := by
  have hr := jAll_run _ s1 (Nat.lt_succ_self _) (by rw [hms]; exact hN) (by rw [hms]; exact hk1) hm1
  generalize jAll s1 = r at *
  have hkr : JKeep N r.1.a := by have := hr.keep; rw [hms] at this; exact this
  have hbr : ∀ j, j < 2 → (r.1.beg j).length + lens (r.1.a.q j) ≤ 96 := fun j hj => by
    have h1 := hb j hj
    have h2 := hr.lens j hj
    rw [hr.beg]; omega
  have hheld : d'.held ≤ BD N := by rw [a6]; exact Int.max_le.2 ⟨hh, jo_held N r.1 hkr hbr⟩
  have hro := hr.out
  rw [hby, hms] at hro
  have hmid : aAll c N s1.a = ((aAll c N r.1.a).1, (aAll c N r.1.a).2) → r.2 = 0 → (r.1.more = true ∧ Due r.1.a) ∨ (r.1.more = false ∧ Waits r.1.a ∧ r.1.at_ = r.1.a.wk) → JoMid c N ins d' out := fun h1 h2 h3 => by
    refine ⟨?_, ?_, ?_, ?_, ?_, ?_, ?_, ?_, ?_, ?_, ?_, a2, by rw [a3, a1], by rw [a4, h2], a5, hheld⟩
    · rw [a7]; exact hle
    · rw [a7, a8]; exact htd
    · rw [a7]; exact hnf
    · rw [a7, a8, a1, hgo, h1]
    · rw [a1, hr.by_, hby]
    · rw [a1, hr.most, hms]
    · rw [a1]; exact h3
    · rw [a1, a7, a8, hr.beg]; exact hbeg
    · rw [a1, a7, a8, hr.en]; exact hen
    · rw [a1]; exact hkr
    · rw [a1]; exact hbr
  rcases hro with ⟨h1, h2, h3, h4⟩ | ⟨h1, h2, h3⟩
  · exact .inl (hmid (by rw [h4]) h1 (.inl ⟨h2, h3⟩))
  · cases ho : r.1.a.over with
    | false =>
      have hw := (aAll_ext c N (fun _ => []) s1.a.en _ s1.a (Nat.lt_succ_self _) (fun k hk => ⟨rfl, hk⟩)).2.2 (by rw [h2]; exact ho)
      rw [h2] at hw
      have hwr : Waits r.1.a := hw.2.1
      exact .inl (hmid (by rw [h2, waits_all c N hwr, (h3 ho).2]) (h3 ho).2 (.inr ⟨h1, hwr, (h3 ho).1⟩))
    | true =>
      refine .inr ?_
      rw [h2, List.append_nil] at hgo
      have hf := (aAll_full (T' := insT ins) (E' := insE ins) (fun j => rd_grow (prt_grow (sAt ins j) (tk j) (td j))) hgo).1 ho
      have hnd : d'.need = -1 := by rw [a3]; show (if r.1.a.over = true then (-1 : Int) else _) = _; rw [if_pos ho]
      refine ⟨⟨?_, ?_, ?_, a5, hheld, by rw [a1]; show (0 : Int) ≤ ((_ : Nat) : Int); omega⟩, hnd⟩
      · rw [a2]; unfold joDen; dsimp only; rw [hf.1]
      · rw [hnd]; unfold joDen; dsimp only; rw [if_pos hf.2.1]
      · rw [a4]; unfold joDen; dsimp only; rw [if_pos hf.2.1, hf.2.2]
end Go.Proofs.Ytkgmbomfkdkofaa
namespace Go.Proofs.Ytkgmbomfkdkofaa

def workJ (ins : List Strm) (tk : Nat → Nat) (td : Nat → Bool) : Nat := sumR 2 fun j => ((sAt ins j).bs.length - tk j) + (if td j = true then 0 else 1)
def LF (c : UInt8) (N : Nat) (ins : List Strm) : Nat := (aAll c N (jStart (insT ins) (insE ins))).1.length

theorem JoMid.sub {c : UInt8} {N : Nat} {ins : List Strm} {d : DS JoS} {out : List Bs} (h : JoMid c N ins d out) : out.length + (aAll c N d.st.a).1.length ≤ LF c N ins := by
  have hf := aAll_full (T' := insT ins) (E' := insE ins) (fun j => rd_grow (prt_grow (sAt ins j) (d.taken j) (d.told j))) h.go
  unfold LF
  cases ho : (aAll c N d.st.a).2.1.over with
  | true => rw [(hf.1 ho).1, List.length_append]; exact Nat.le_refl _
  | false =>
    obtain ⟨_, _, m, _, _, _, he⟩ := hf.2 ho
    rw [he, List.length_append, List.length_append]
    omega

/-- More lines at the place where it waits. -/
theorem jo_ext {c : UInt8} {N : Nat} {ins : List Strm} {d : DS JoS} {out : List Bs} (h : JoMid c N ins d out) (hw : Waits d.st.a) {k : Nat} (hk : k = d.st.a.wk) (tk : Nat → Nat) (td : Nat → Bool) (b : Bs) (new : List Bs) (e : Bool)
    (hT : pT ins tk td = upd (pT ins d.taken d.told) k (pT ins d.taken d.told k ++ new)) (hE : pE ins tk td = upd (pE ins d.taken d.told) k e) :
    aAll c N (jStart (pT ins tk td) (pE ins tk td)) = (out ++ (aAll c N (d.st.setQ k b new e).a).1, (aAll c N (d.st.setQ k b new e).a).2) ∧ (d.st.setQ k b new e).a.en = pE ins tk td := by
  have hm : ∀ q : Nat → List Bs, upd q k (q k ++ new) = fun j => q j ++ (if j = k then new else []) := fun q => by
    funext j
    unfold upd
    by_cases hj : j = k
    · subst hj; simp
    · simp [hj]
  have e1 : jStart (pT ins tk td) (pE ins tk td) = (jStart (pT ins d.taken d.told) (pE ins d.taken d.told)).ext (fun j => if j = k then new else []) (pE ins tk td) := by
    rw [hT, hm]; rfl
  have e2 : (d.st.setQ k b new e).a = d.st.a.ext (fun j => if j = k then new else []) (pE ins tk td) := by
    unfold JoS.setQ JA.ext
    dsimp only
    rw [hm, h.en, hE]
  have hO : JA.OkE (jStart (pT ins d.taken d.told) (pE ins d.taken d.told)).en (fun j => if j = k then new else []) (pE ins tk td) := fun j hj => by
    have hj2 : pE ins d.taken d.told j = true := hj
    have hne : j ≠ k := fun e => by
      have := hw.en
      rw [← hk, ← e, h.en, hj2] at this
      cases this
    exact ⟨if_neg hne, by rw [hE, upd_ne _ _ hne]; exact hj2⟩
  have hg := h.go
  rw [waits_all c N hw, List.append_nil] at hg
  have hx := (aAll_ext c N (fun j => if j = k then new else []) (pE ins tk td) _ (jStart (pT ins d.taken d.told) (pE ins d.taken d.told)) (Nat.lt_succ_self _) hO).2.2 (by rw [hg]; exact hw.over)
  rw [hg] at hx
  refine ⟨?_, by rw [e2]; rfl⟩
  rw [e1, e2]
  exact hx.2.2

theorem keep_setQ {N : Nat} {s : JoS} (h : JKeep N s.a) (k : Nat) (b : Bs) (new : List Bs) (e : Bool) (hn : ∀ l ∈ new, l.length ≤ 64) : JKeep N (s.setQ k b new e).a :=
  ⟨h.unw, h.few, h.pz, h.pj, fun j hj l hl => by
    have hl2 : l ∈ upd s.a.q k (s.a.q k ++ new) j := hl
    unfold upd at hl2
    split at hl2
    · next hjk =>
      rcases List.mem_append.1 hl2 with h1 | h1
      · exact h.shq j hj l (by rw [hjk]; exact h1)
      · exact hn l h1
    · exact h.shq j hj l hl2, h.shl, h.shk⟩
theorem keep_over {N : Nat} {s : JA} (h : JKeep N s) : JKeep N { s with over := true } := ⟨h.unw, h.few, h.pz, h.pj, h.shq, h.shl, h.shk⟩

theorem due_line {c : UInt8} {N : Nat} {s : JoS} (hby : s.by_ = c) (hd : Due s.a) (hk : JKeep N s.a) :
    aAll c N s.a = (s.line :: (aAll c N s.adv.a).1, (aAll c N s.adv.a).2) ∧ JKeep N s.adv.a ∧ s.line.length ≤ 200 ∧ (s.adv.a.over = false ∧ s.adv.a.want 0 = false ∧ s.adv.a.want 1 = false) := by
  have hpj := hk.pj hd.none.1 hd.none.2
  have hp := pairs_adv c (s.a.key 0) (s.a.ls 0) (s.a.ls 1) s.a.pi s.a.pj hd.pi hpj
  have hl : s.line = plS c (s.a.key 0) ((s.a.ls 0)[s.a.pi]'hd.pi) ((s.a.ls 1)[s.a.pj]'hpj) := by
    unfold JoS.line
    rw [hby, List.getElem?_eq_getElem hd.pi, List.getElem?_eq_getElem hpj]
    rfl
  have e1 := aStep_none c N s.a hd.over hd.none
  have e2 := aStep_none c N s.adv.a hd.over hd.none
  have e3 : s.a.pairs c = s.line :: s.adv.a.pairs c := by
    unfold JA.pairs
    rw [if_pos hd.key, hp, ← hl]
    show _ = s.line :: (if s.a.key 0 = s.a.key 1 then _ else _)
    rw [if_pos hd.key]
    rfl
  have hadv : (advP (s.a.ls 1).length s.a.pi s.a.pj).2 < (s.a.ls 1).length := by
    unfold advP
    split
    · show 0 < _; omega
    · show s.a.pj + 1 < _; omega
  refine ⟨?_, ⟨hk.unw, hk.few, fun h => ?_, fun _ _ => hadv, hk.shq, hk.shl, hk.shk⟩, ?_, hd.over, hd.none⟩
  · rw [aAll_go (s := s.a) (by rw [e1]), e1, aAll_go (s := s.adv.a) (by rw [e2]), e2]
    dsimp only
    rw [e3]
    rfl
  · have h1 := hd.none
    have h2 : s.a.want 0 = true ∨ s.a.want 1 = true := h
    rw [h1.1, h1.2] at h2
    simp at h2
  · rw [hl]
    have h1 := hk.shl 0 (by omega) _ (List.getElem_mem hd.pi)
    have h2 := hk.shl 1 (by omega) _ (List.getElem_mem hpj)
    have h3 := hk.shk 0 (by omega)
    have h4 := (cutBy_len c ((s.a.ls 0)[s.a.pi]'hd.pi)).2
    have h5 := (cutBy_len c ((s.a.ls 1)[s.a.pj]'hpj)).2
    unfold plS
    simp only [List.length_append, List.length_singleton]
    omega

theorem workJ_lt (ins : List Strm) (tk tk' : Nat → Nat) (td td' : Nat → Bool) (k : Nat) (hk : k < 2) (h : ∀ j, j ≠ k → tk' j = tk j ∧ td' j = td j)
    (hl : ((sAt ins k).bs.length - tk' k) + (if td' k = true then 0 else 1) < ((sAt ins k).bs.length - tk k) + (if td k = true then 0 else 1)) : workJ ins tk' td' < workJ ins tk td :=
  sumR_lt 2 k (fun j => ((sAt ins j).bs.length - tk' j) + (if td' j = true then 0 else 1)) (fun j => ((sAt ins j).bs.length - tk j) + (if td j = true then 0 else 1)) hk (fun j _ hj => by rw [(h j hj).1, (h j hj).2]; exact Nat.le_refl _) hl

theorem join_loop (c : UInt8) (N : Nat) (hN : 1 ≤ N) (ins : List Strm) (h2 : ins.length = 2) (cuts : List Int) : ∀ (f n : Nat) (d : DS JoS) (out : List Bs), JoMid c N ins d out → workJ ins d.taken d.told + (LF c N ins - out.length) + 1 ≤ f →
    DEnd joinM (joDen c N ins) (BD N) (dloop joinM ins cuts f n d) := by
  intro f
  induction f with
  | zero => intro n d out h hf; omega
  | succ f ih =>
    intro n d out h hf
    have hsub := h.sub
    rcases h.st with ⟨hmore, hdue⟩ | ⟨hmore, hw, hat⟩
    · have hov : ¬ d.st.a.over = true := by rw [hdue.over]; decide
      have hnd : d.need = -2 := by rw [h.need]; show (if d.st.a.over = true then (-1 : Int) else if d.st.more = true then -2 else _) = -2; rw [if_neg hov, if_pos hmore]
      obtain ⟨g1, g2, g3, g4⟩ := due_line h.by_ hdue h.keep
      have hjm : joinM.more d.st = (tellS 0 [d.st.line], (jAll d.st.adv).2, (jAll d.st.adv).1) := by
        show joMore d.st = _
        unfold joMore
        rw [if_neg hov, if_neg (by rw [hmore]; decide)]
      have hst : dstep joinM ins cuts n d = ((d.put (tellS 0 [d.st.line], (jAll d.st.adv).2, (jAll d.st.adv).1)).look joinM, true) := by
        unfold dstep
        rw [if_pos hnd, hjm]
      have hok : OkOuts (tellS 0 [d.st.line]) := tellS_ok _ (by unfold joinS; simp; omega)
      rw [dloop_go h.err (by rw [hnd]; decide) hst, DS.put_ok (σ := joinM.σ) _ _ hok]
      rw [g1] at hsub
      simp only [List.length_cons] at hsub
      have ha := jo_after c N ins d.taken d.told d.st.adv (out ++ [d.st.line]) hN h.by_ h.most g2 (fun _ => g4) h.le h.told h.nf (by rw [h.go, g1]; simp) h.beg h.en h.bnd d.held h.held
        ⟨(jAll d.st.adv).1, collect d.outs (tellS 0 [d.st.line]), joinM.need (jAll d.st.adv).1, (jAll d.st.adv).2, max d.held (joinM.held (jAll d.st.adv).1), d.taken, d.bad, d.told⟩ rfl (by dsimp only; rw [h.outs, collect_tell, joinS_append]) rfl rfl h.bad rfl rfl rfl
      rcases ha with hm | ⟨hend, hneed⟩
      · refine ih _ _ (out ++ [d.st.line]) hm ?_
        show workJ ins d.taken d.told + (LF c N ins - (out ++ [d.st.line]).length) + 1 ≤ f
        rw [List.length_append, List.length_singleton]
        omega
      · have hz := dloop_end (M := joinM) (ins := ins) (cuts := cuts) (f := f) (n := n + 1) (.inr hneed)
        rw [← hz] at hend
        exact hend
    · obtain ⟨k, hkw⟩ : ∃ k, k = d.st.a.wk := ⟨_, rfl⟩
      have hk2 : k < 2 := by rw [hkw]; exact hw.lt
      have hk : k < ins.length := by omega
      have hov : ¬ d.st.a.over = true := by rw [hw.over]; decide
      have hsk : d.st.at_ = k := by rw [hat, hkw]
      have hneed : d.need = (k : Int) := by rw [h.need]; show (if d.st.a.over = true then (-1 : Int) else if d.st.more = true then -2 else (d.st.at_ : Int)) = _; rw [if_neg hov, if_neg (by rw [hmore]; decide), hsk]
      have hne : d.need ≠ -1 := by rw [hneed]; omega
      have hst0 := dstep_in joinM ins cuts n d hneed hk (by omega)
      have hs : ins[k] = sAt ins k := (sAt_get hk).symm
      rw [hs] at hst0
      have hcut := cutN_bd cuts n
      have hnfk := h.nf k hk2
      have henk : pE ins d.taken d.told k = false := by have := hw.en; rw [← hkw, h.en] at this; exact this
      have hqk : d.st.a.q k = [] := by have := hw.q; rw [← hkw] at this; exact this
      have hgw := h.go
      rw [waits_all c N hw, List.append_nil] at hgw
      have htdk : d.told k = false := by
        cases ht : d.told k with
        | false => rfl
        | true =>
          obtain ⟨h1, h2⟩ := h.told k hk2 ht
          rw [h2, List.take_length] at hnfk
          unfold pE at henk
          rw [ht] at henk
          have := (rd_ended (s := sAt ins k) hnfk h1).2.1
          rw [show prt (sAt ins k) (d.taken k) true = sAt ins k from rfl, this] at henk
          cases henk
      have hpk : prt (sAt ins k) (d.taken k) (d.told k) = ⟨(sAt ins k).bs.take (d.taken k), false, (sAt ins k).code, (sAt ins k).stage, (sAt ins k).id⟩ := by rw [htdk]; rfl
      have hop : rdT (prt (sAt ins k) (d.taken k) (d.told k)) = (cutS [] ((sAt ins k).bs.take (d.taken k))).1 ∧ rdE (prt (sAt ins k) (d.taken k) (d.told k)) = false ∧ rdB (prt (sAt ins k) (d.taken k) (d.told k)) = (cutS [] ((sAt ins k).bs.take (d.taken k))).2.1 := by
        rw [hpk]
        exact rd_open (s := ⟨(sAt ins k).bs.take (d.taken k), false, (sAt ins k).code, (sAt ins k).stage, (sAt ins k).id⟩) hnfk rfl
      have hBk : pB ins d.taken d.told k = (cutS [] ((sAt ins k).bs.take (d.taken k))).2.1 := hop.2.2
      have hTk : pT ins d.taken d.told k = (cutS [] ((sAt ins k).bs.take (d.taken k))).1 := hop.1
      have hbg : d.st.beg k = (cutS [] ((sAt ins k).bs.take (d.taken k))).2.1 := by rw [h.beg k hk2, hBk]
      have henk2 : d.st.a.en k = false := by rw [h.en]; exact henk
      have hbl := (cutS_len ((sAt ins k).bs.take (d.taken k)) [] (by simp)).1
      -- what all of it comes to, if no more of this input comes
      have hlast : insT ins k = pT ins d.taken d.told k → insE ins k = false → (aAll c N (jStart (insT ins) (insE ins))).1 = out ∧ (aAll c N (jStart (insT ins) (insE ins))).2.1.over = false ∧ (aAll c N (jStart (insT ins) (insE ins))).2.1.wk = k := fun h1 h2 => by
        obtain ⟨_, _, m, hmk, hO, hen, he⟩ := (aAll_full (T' := insT ins) (E' := insE ins) (fun j => rd_grow (prt_grow (sAt ins j) (d.taken j) (d.told j))) hgw).2 hw.over
        have hmk0 : m k = [] := by
          have e1 := hmk k
          have e2 : insT ins k = pT ins d.taken d.told k ++ m k := e1
          rw [h1] at e2
          have := congrArg List.length e2
          rw [List.length_append] at this
          exact List.eq_nil_of_length_eq_zero (by omega)
        have hww : Waits (d.st.a.ext m (insE ins)) := by
          refine ⟨hw.over, hw.want, ?_, ?_, hw.lt⟩
          · show d.st.a.q d.st.a.wk ++ m d.st.a.wk = []
            rw [← hkw, hqk, hmk0]; rfl
          · show insE ins d.st.a.wk = false
            rw [← hkw]; exact h2
        rw [he, waits_all c N hww]
        exact ⟨by simp, hw.over, hkw.symm⟩
      by_cases hb : d.taken k < (sAt ins k).bs.length
      · rw [if_pos hb] at hst0
        have hch : (((sAt ins k).bs.take (min (sAt ins k).bs.length (d.taken k + cutN cuts n))).drop (d.taken k)).length = min (sAt ins k).bs.length (d.taken k + cutN cuts n) - d.taken k := by simp
        have hsp := take_split (sAt ins k).bs (d.taken k) (min (sAt ins k).bs.length (d.taken k + cutN cuts n)) (by omega)
        have hto1 : d.taken k < min (sAt ins k).bs.length (d.taken k + cutN cuts n) := by omega
        have hto2 : min (sAt ins k).bs.length (d.taken k + cutN cuts n) ≤ (sAt ins k).bs.length := by omega
        have hto3 : min (sAt ins k).bs.length (d.taken k + cutN cuts n) ≤ d.taken k + 32 := by omega
        generalize min (sAt ins k).bs.length (d.taken k + cutN cuts n) = to at *
        generalize hcc : ((sAt ins k).bs.take to).drop (d.taken k) = ch at *
        have hca := cutS_append ((sAt ins k).bs.take (d.taken k)) [] ch
        rw [← hsp, if_neg (by rw [hnfk]; decide)] at hca
        have hsum := cutS_sum ch (cutS [] ((sAt ins k).bs.take (d.taken k))).2.1
        have hlen64 := (cutS_len ch (cutS [] ((sAt ins k).bs.take (d.taken k))).2.1 hbl).2
        cases hf2 : (cutS (cutS [] ((sAt ins k).bs.take (d.taken k))).2.1 ch).2.2 with
        | true =>
          have hnone := cutS_fail_none ch _ (by omega) hf2
          have hbeg := cutS_failed ch _ hf2
          have hs1 : (d.st.setQ k [] [] false).a = d.st.a := by
            unfold JoS.setQ
            dsimp only
            have e1 := upd_id d.st.a.en k
            rw [henk2] at e1
            rw [List.append_nil, upd_id, e1]
          have hj1 : jrStep (d.st.setQ k [] [] false) = ({ (d.st.setQ k [] [] false) with at_ := d.st.a.wk }, false, 0) := by
            unfold jrStep
            have e1 := waits_step d.st.by_ d.st.most hw
            rw [hs1, if_neg hov, if_neg (waits_want hw), show (d.st.setQ k [] [] false).by_ = d.st.by_ from rfl, show (d.st.setQ k [] [] false).most = d.st.most from rfl, e1]
            dsimp only
            rw [if_pos ⟨rfl, hw.over⟩]
            rw [← hs1]
            rfl
          have hj2 : jAll (d.st.setQ k [] [] false) = ({ (d.st.setQ k [] [] false) with at_ := d.st.a.wk }, 0) := by rw [jAll_stop (by rw [hj1]), hj1]
          have hfeed : joinM.feed d.st (k : Int) ch = ([], 20, ({ (d.st.setQ k [] [] false) with at_ := d.st.a.wk } : JoS).stop) := by
            show joFeed d.st (k : Int) ch = _
            unfold joFeed
            rw [if_neg hov, if_neg (by rw [hsk, hmore]; simp), if_neg (by omega), hsk, hbg, hnone, hbeg, henk2, hj2, if_pos ⟨hf2, rfl, by show (d.st.setQ k [] [] false).a.over = false; rw [hs1]; exact hw.over⟩]
          rw [hfeed] at hst0
          rw [dloop_go h.err hne hst0, DS.put_ok (σ := joinM.σ) _ _ ⟨by simp, fun o ho => by cases ho⟩]
          rw [dloop_end (M := joinM) (.inr rfl)]
          have hheld := jo_held N ({ (d.st.setQ k [] [] false) with at_ := d.st.a.wk } : JoS).stop (by show JKeep N { (d.st.setQ k [] [] false).a with over := true }; rw [hs1]; exact keep_over h.keep) (fun j hj => by
            show (upd d.st.beg k [] j).length + lens ((d.st.setQ k [] [] false).a.q j) ≤ 96
            rw [hs1]
            have := h.bnd j hj
            unfold upd
            split
            · simp; omega
            · exact this)
          have hfull : (cutS [] (sAt ins k).bs).2.2 = true ∧ (cutS [] (sAt ins k).bs).1 = (cutS [] ((sAt ins k).bs.take (d.taken k))).1 := by
            have h2 := cutS_append ((sAt ins k).bs.take to) [] ((sAt ins k).bs.drop to)
            rw [List.take_append_drop, if_pos (by rw [hca]; exact hf2)] at h2
            rw [h2, hca, hnone]
            exact ⟨hf2, by simp⟩
          have hrf := rd_fail hfull.1
          obtain ⟨l1, l2, l3⟩ := hlast (by show rdT (sAt ins k) = _; rw [hrf.1, hfull.2, ← hTk]) hrf.2
          have hden : joDen c N ins = ⟨outs0 (joinS out), -1, 20⟩ := by
            unfold joDen
            rw [l1, l2, l3]
            simp [show failedS (sAt ins k) = true from hfull.1]
          refine ⟨?_, ?_, ?_, h.bad, ?_, ?_⟩
          · rw [hden]
            show collect d.outs [] = _
            rw [collect_nil, h.outs]
          · rw [hden]; rfl
          · rw [hden]; rfl
          · exact Int.max_le.2 ⟨h.held, hheld⟩
          · show (0 : Int) ≤ ((_ : Nat) : Int); omega
        | false =>
          have hfeed : joinM.feed d.st (k : Int) ch = ([], (jAll (d.st.setQ k (cutS (cutS [] ((sAt ins k).bs.take (d.taken k))).2.1 ch).2.1 (cutS (cutS [] ((sAt ins k).bs.take (d.taken k))).2.1 ch).1 false)).2, (jAll (d.st.setQ k (cutS (cutS [] ((sAt ins k).bs.take (d.taken k))).2.1 ch).2.1 (cutS (cutS [] ((sAt ins k).bs.take (d.taken k))).2.1 ch).1 false)).1) := by
            show joFeed d.st (k : Int) ch = _
            unfold joFeed
            rw [if_neg hov, if_neg (by rw [hsk, hmore]; simp), if_neg (by omega), hsk, hbg, henk2, if_neg (by rw [hf2]; simp)]
          rw [hfeed] at hst0
          have hnfto : (cutS [] ((sAt ins k).bs.take to)).2.2 = false := by rw [hca]; exact hf2
          have hprt : prt (sAt ins k) (upd d.taken k to k) (d.told k) = ⟨(sAt ins k).bs.take to, false, (sAt ins k).code, (sAt ins k).stage, (sAt ins k).id⟩ := by rw [htdk, upd_same]; rfl
          have hop2 : rdT (prt (sAt ins k) (upd d.taken k to k) (d.told k)) = (cutS [] ((sAt ins k).bs.take to)).1 ∧ rdE (prt (sAt ins k) (upd d.taken k to k) (d.told k)) = false ∧ rdB (prt (sAt ins k) (upd d.taken k to k) (d.told k)) = (cutS [] ((sAt ins k).bs.take to)).2.1 := by
            rw [hprt]
            exact rd_open (s := ⟨(sAt ins k).bs.take to, false, (sAt ins k).code, (sAt ins k).stage, (sAt ins k).id⟩) hnfto rfl
          rw [hca] at hop2
          have hot : ∀ j, j ≠ k → upd d.taken k to j = d.taken j := fun j hj => upd_ne _ _ hj
          have hT : pT ins (upd d.taken k to) d.told = upd (pT ins d.taken d.told) k (pT ins d.taken d.told k ++ (cutS (cutS [] ((sAt ins k).bs.take (d.taken k))).2.1 ch).1) := by
            funext j
            by_cases hjk : j = k
            · subst hjk; rw [upd_same, hTk]; exact hop2.1
            · rw [upd_ne _ _ hjk]; unfold pT; rw [hot j hjk]
          have hE : pE ins (upd d.taken k to) d.told = upd (pE ins d.taken d.told) k false := by
            funext j
            by_cases hjk : j = k
            · subst hjk; rw [upd_same]; exact hop2.2.1
            · rw [upd_ne _ _ hjk]; unfold pE; rw [hot j hjk]
          obtain ⟨hgo2, hen2⟩ := jo_ext h hw hkw (upd d.taken k to) d.told (cutS (cutS [] ((sAt ins k).bs.take (d.taken k))).2.1 ch).2.1 (cutS (cutS [] ((sAt ins k).bs.take (d.taken k))).2.1 ch).1 false hT hE
          rw [dloop_go h.err hne hst0, DS.put_ok (σ := joinM.σ) _ _ ⟨by simp, fun o ho => by cases ho⟩]
          generalize hs1 : d.st.setQ k (cutS (cutS [] ((sAt ins k).bs.take (d.taken k))).2.1 ch).2.1 (cutS (cutS [] ((sAt ins k).bs.take (d.taken k))).2.1 ch).1 false = s1 at *
          have ha := jo_after c N ins (upd d.taken k to) d.told s1 out hN (by rw [← hs1]; exact h.by_) (by rw [← hs1]; exact h.most) (by rw [← hs1]; exact keep_setQ h.keep _ _ _ _ hlen64) (fun hm => by rw [← hs1] at hm; change d.st.more = true at hm; rw [hmore] at hm; cases hm)
            (fun j hj => by by_cases hjk : j = k
                            · subst hjk; rw [upd_same]; exact hto2
                            · rw [hot j hjk]; exact h.le j hj)
            (fun j hj ht => by have hjk : j ≠ k := fun e => by rw [e, htdk] at ht; cases ht
                               rw [hot j hjk]; exact h.told j hj ht)
            (fun j hj => by by_cases hjk : j = k
                            · subst hjk; rw [upd_same]; exact hnfto
                            · rw [hot j hjk]; exact h.nf j hj)
            hgo2
            (fun j hj => by rw [← hs1]
                            show upd d.st.beg k _ j = rdB (prt (sAt ins j) (upd d.taken k to j) (d.told j))
                            by_cases hjk : j = k
                            · subst hjk; rw [upd_same]; exact hop2.2.2.symm
                            · rw [upd_ne _ _ hjk, hot j hjk]; exact h.beg j hj)
            hen2
            (fun j hj => by rw [← hs1]
                            show (upd d.st.beg k _ j).length + lens (upd d.st.a.q k _ j) ≤ 96
                            by_cases hjk : j = k
                            · subst hjk
                              rw [upd_same, upd_same, hqk, List.nil_append]
                              unfold lens; omega
                            · rw [upd_ne _ _ hjk, upd_ne _ _ hjk]; exact h.bnd j hj)
            d.held h.held ⟨(jAll s1).1, collect d.outs [], joinM.need (jAll s1).1, (jAll s1).2, max d.held (joinM.held (jAll s1).1), upd d.taken k to, d.bad, d.told⟩ rfl (by dsimp only; rw [collect_nil, h.outs]) rfl rfl h.bad rfl rfl rfl
          rcases ha with hm | ⟨hend, hneed⟩
          · refine ih _ _ out hm ?_
            have := workJ_lt ins d.taken (upd d.taken k to) d.told d.told k hk2 (fun j hj => ⟨hot j hj, rfl⟩) (by rw [upd_same]; omega)
            show workJ ins (upd d.taken k to) d.told + (LF c N ins - out.length) + 1 ≤ f
            omega
          · have hz := dloop_end (M := joinM) (ins := ins) (cuts := cuts) (f := f) (n := n + 1) (.inr hneed)
            rw [← hz] at hend
            exact hend
      · have htk : d.taken k = (sAt ins k).bs.length := by have := h.le k hk2; omega
        have hall : (sAt ins k).bs.take (d.taken k) = (sAt ins k).bs := by rw [htk, List.take_length]
        rw [if_neg hb] at hst0
        rw [hall] at hnfk hBk hTk hbg hbl
        cases hend : (sAt ins k).ended with
        | false =>
          rw [if_neg (by rw [hend]; simp)] at hst0
          rw [dloop_stop h.err hne hst0]
          have hop3 := rd_open hnfk hend
          obtain ⟨l1, l2, l3⟩ := hlast (by show rdT (sAt ins k) = _; rw [hop3.1, ← hTk]) hop3.2.1
          have hden : joDen c N ins = ⟨outs0 (joinS out), k, 0⟩ := by
            unfold joDen
            rw [l1, l2, l3]
            simp [show failedS (sAt ins k) = false from hnfk]
          exact ⟨by rw [hden]; exact h.outs, by rw [hden]; exact hneed, by rw [hden]; exact h.err, h.bad, h.held, by show (0 : Int) ≤ ((_ : Nat) : Int); omega⟩
        | true =>
          rw [if_pos ⟨hend, htdk⟩] at hst0
          have hfin : joinM.fin d.st (k : Int) = ([], (jAll (d.st.setQ k [] (if (cutS [] (sAt ins k).bs).2.1 = [] then [] else [(cutS [] (sAt ins k).bs).2.1]) true)).2, (jAll (d.st.setQ k [] (if (cutS [] (sAt ins k).bs).2.1 = [] then [] else [(cutS [] (sAt ins k).bs).2.1]) true)).1) := by
            show joFin d.st (k : Int) = _
            unfold joFin
            rw [if_neg hov, if_neg (by rw [hsk, hmore]; simp), hsk, hbg]
          rw [hfin] at hst0
          have hed := rd_ended hnfk hend
          have hot : ∀ j, j ≠ k → upd d.told k true j = d.told j := fun j hj => upd_ne _ _ hj
          have hprt : ∀ t, prt (sAt ins k) t (upd d.told k true k) = sAt ins k := fun t => by rw [upd_same]; rfl
          have hT : pT ins d.taken (upd d.told k true) = upd (pT ins d.taken d.told) k (pT ins d.taken d.told k ++ (if (cutS [] (sAt ins k).bs).2.1 = [] then [] else [(cutS [] (sAt ins k).bs).2.1])) := by
            funext j
            by_cases hjk : j = k
            · subst hjk; rw [upd_same, hTk]; show rdT (prt (sAt ins j) (d.taken j) (upd d.told j true j)) = _; rw [hprt]; exact hed.1
            · rw [upd_ne _ _ hjk]; unfold pT; rw [hot j hjk]
          have hE : pE ins d.taken (upd d.told k true) = upd (pE ins d.taken d.told) k true := by
            funext j
            by_cases hjk : j = k
            · subst hjk; rw [upd_same]; show rdE (prt (sAt ins j) (d.taken j) (upd d.told j true j)) = _; rw [hprt]; exact hed.2.1
            · rw [upd_ne _ _ hjk]; unfold pE; rw [hot j hjk]
          obtain ⟨hgo2, hen2⟩ := jo_ext h hw hkw d.taken (upd d.told k true) [] (if (cutS [] (sAt ins k).bs).2.1 = [] then [] else [(cutS [] (sAt ins k).bs).2.1]) true hT hE
          have hn64 : ∀ l ∈ (if (cutS [] (sAt ins k).bs).2.1 = [] then [] else [(cutS [] (sAt ins k).bs).2.1]), l.length ≤ 64 := fun l hl => by
            split at hl
            · cases hl
            · simp only [List.mem_singleton] at hl; subst hl; exact hbl
          have hn96 : lens (if (cutS [] (sAt ins k).bs).2.1 = [] then [] else [(cutS [] (sAt ins k).bs).2.1]) ≤ 96 := by
            split
            · simp [lens]
            · simp [lens]; omega
          rw [dloop_go h.err hne hst0, DS.put_ok (σ := joinM.σ) _ _ ⟨by simp, fun o ho => by cases ho⟩]
          generalize hs1 : d.st.setQ k [] (if (cutS [] (sAt ins k).bs).2.1 = [] then [] else [(cutS [] (sAt ins k).bs).2.1]) true = s1 at *
          have ha := jo_after c N ins d.taken (upd d.told k true) s1 out hN (by rw [← hs1]; exact h.by_) (by rw [← hs1]; exact h.most) (by rw [← hs1]; exact keep_setQ h.keep _ _ _ _ hn64) (fun hm => by rw [← hs1] at hm; change d.st.more = true at hm; rw [hmore] at hm; cases hm)
            h.le
            (fun j hj ht => by by_cases hjk : j = k
                               · subst hjk; exact ⟨hend, htk⟩
                               · rw [hot j hjk] at ht; exact h.told j hj ht)
            h.nf hgo2
            (fun j hj => by rw [← hs1]
                            show upd d.st.beg k [] j = rdB (prt (sAt ins j) (d.taken j) (upd d.told k true j))
                            by_cases hjk : j = k
                            · subst hjk; rw [upd_same, hprt]; exact hed.2.2.symm
                            · rw [upd_ne _ _ hjk, hot j hjk]; exact h.beg j hj)
            hen2
            (fun j hj => by rw [← hs1]
                            show (upd d.st.beg k [] j).length + lens (upd d.st.a.q k _ j) ≤ 96
                            by_cases hjk : j = k
                            · subst hjk
                              rw [upd_same, upd_same, hqk, List.nil_append, List.length_nil, Nat.zero_add]
                              exact hn96
                            · rw [upd_ne _ _ hjk, upd_ne _ _ hjk]; exact h.bnd j hj)
            d.held h.held ⟨(jAll s1).1, collect d.outs [], joinM.need (jAll s1).1, (jAll s1).2, max d.held (joinM.held (jAll s1).1), d.taken, d.bad, upd d.told k true⟩ rfl (by dsimp only; rw [collect_nil, h.outs]) rfl rfl h.bad rfl rfl rfl
          rcases ha with hm | ⟨hend, hneed⟩
          · refine ih _ _ out hm ?_
            have := workJ_lt ins d.taken d.taken d.told (upd d.told k true) k hk2 (fun j hj => ⟨rfl, hot j hj⟩) (by rw [upd_same, htdk]; simp)
            show workJ ins d.taken (upd d.told k true) + (LF c N ins - out.length) + 1 ≤ f
            omega
          · have hz := dloop_end (M := joinM) (ins := ins) (cuts := cuts) (f := f) (n := n + 1) (.inr hneed)
            rw [← hz] at hend
            exact hend

def join0 (c : UInt8) (N : Nat) : JoS := ⟨c, N, jStart (fun _ => []) (fun _ => false), fun _ => [], false, 0⟩

theorem join_drive (c : UInt8) (N : Nat) (hN : 1 ≤ N) (hN14 : N ≤ 14) (ins : List Strm) (h2 : ins.length = 2) (hl : ∀ s ∈ ins, s.bs.length ≤ 4000) (cuts : List Int) :
    DEnd joinM (joDen c N ins) (BD N) (drive joinM (join0 c N) ins cuts) := by
  have hT : ∀ j, pT ins (fun _ => 0) (fun _ => false) j = [] ∧ pE ins (fun _ => 0) (fun _ => false) j = false ∧ pB ins (fun _ => 0) (fun _ => false) j = [] := fun j => by
    have := rd_open (s := prt (sAt ins j) 0 false) (by simp [prt, cutS]) rfl
    exact ⟨this.1.trans (by simp [prt, cutS]), this.2.1, this.2.2.trans (by simp [prt, cutS])⟩
  have eT : pT ins (fun _ => 0) (fun _ => false) = fun _ => [] := funext fun j => (hT j).1
  have eE : pE ins (fun _ => 0) (fun _ => false) = fun _ => false := funext fun j => (hT j).2.1
  have hw : Waits (join0 c N).a := ⟨rfl, rfl, rfl, rfl, wk_lt _⟩
  have hlen : ∀ j, j < 2 → (sAt ins j).bs.length ≤ 4000 := fun j hj => by rw [sAt_get (by omega)]; exact hl _ (List.getElem_mem _)
  have hks := jStart_keep N (insT ins) (insE ins) (fun k _ l h => refLines_len (sAt ins k) l h)
  have hLF := (aAll_count c N hN _ (jStart (insT ins) (insE ins)) (Nat.lt_succ_self _) hks).1
  have h0 : (insT ins 0).length ≤ 4000 := Nat.le_trans (refLines_sum (sAt ins 0)).2 (hlen 0 (by omega))
  have h1 : N * (0 + (insT ins 0).length) ≤ 14 * 4000 := Nat.mul_le_mul hN14 (by omega)
  have h3 : LF c N ins ≤ 14 * 4000 := Nat.le_trans hLF h1
  have h4 : workJ ins (fun _ => 0) (fun _ => false) ≤ 2 * 4001 := by
    have e := sumR_le 2 (fun j => ((sAt ins j).bs.length - 0) + (if false = true then 0 else 1)) (fun _ => 4001) (fun j hj => by have := hlen j hj; simp; omega)
    rw [sumR_const] at e
    exact e
  refine join_loop c N hN ins h2 cuts 100000 0 (dinit joinM (join0 c N)) [] ⟨(fun j _ => Nat.zero_le _), (fun j _ h => by cases h), (fun j _ => by show (cutS [] (List.take 0 _)).2.2 = false; rfl), ?_, rfl, rfl, .inr ⟨rfl, hw, rfl⟩, (fun j _ => (hT j).2.2.symm), eE.symm, jStart_keep N _ _ (fun k _ l h => by cases h), (fun j _ => by show (0 : Nat) + lens [] ≤ 96; simp [lens]), ?_, rfl, rfl, rfl, ?_⟩ ?_
  · show aAll c N (jStart (pT ins (fun _ => 0) (fun _ => false)) (pE ins (fun _ => 0) (fun _ => false))) = _
    rw [eT, eE]
    show aAll c N (join0 c N).a = ([] ++ (aAll c N (join0 c N).a).1, (aAll c N (join0 c N).a).2)
    simp
  · funext j
    show ([] : Bs) = outs0 (joinS []) j
    unfold outs0 joinS
    simp
  · show (0 : Int) ≤ ((_ : Nat) : Int)
    omega
  · show workJ ins (fun _ => 0) (fun _ => false) + (LF c N ins - 0) + 1 ≤ 100000
    omega
end Go.Proofs.Ytkgmbomfkdkofaa
namespace Go.Proofs.Ytkgmbomfkdkofaa

/-- What the document says of join. -/
def joMeans (c : UInt8) (N : Nat) (ins : List Strm) : List Strm :=
  if (aAll c N (jStart (insT ins) (insE ins))).2.1.over = true then
    (if (aAll c N (jStart (insT ins) (insE ins))).2.2 = 0 then refOut (joinS (aAll c N (jStart (insT ins) (insE ins))).1) true 0 0 0 else refOut (joinS (aAll c N (jStart (insT ins) (insE ins))).1) false (aAll c N (jStart (insT ins) (insE ins))).2.2 (-1) 0)
  else refOut (joinS (aAll c N (jStart (insT ins) (insE ins))).1) false (refLines (sAt ins (aAll c N (jStart (insT ins) (insE ins))).2.1.wk)).code (refLines (sAt ins (aAll c N (jStart (insT ins) (insE ins))).2.1.wk)).stage (refLines (sAt ins (aAll c N (jStart (insT ins) (insE ins))).2.1.wk)).id

theorem aAll_waits {c : UInt8} {N : Nat} {T : Nat → List Bs} {E : Nat → Bool} {out : List Bs} {t : JA} {e : Int} (hg : aAll c N (jStart T E) = (out, t, e)) (ho : t.over = false) : Waits t ∧ e = 0 ∧ t.en = E := by
  have hx := aAll_ext c N (fun _ => []) E _ (jStart T E) (Nat.lt_succ_self _) (fun k hk => ⟨rfl, hk⟩)
  rw [hg] at hx
  exact ⟨(hx.2.2 ho).2.1, (hx.2.2 ho).1, hx.1⟩
/-- No more comes of the input that it waits for. -/
theorem aAll_last {c : UInt8} {N : Nat} {T T' : Nat → List Bs} {E E' : Nat → Bool} (h : Ex T T' E E') {out : List Bs} {t : JA} {e : Int} (hg : aAll c N (jStart T E) = (out, t, e)) (ho : t.over = false) (h1 : T' t.wk = T t.wk) (h2 : E' t.wk = false) :
    ∃ t' e', aAll c N (jStart T' E') = (out, t', e') ∧ t'.over = false ∧ t'.wk = t.wk := by
  obtain ⟨hw, _, m, hmk, hO, hen, he⟩ := (aAll_full h hg).2 ho
  have hmk0 : m t.wk = [] := by
    have e2 := hmk t.wk
    rw [h1] at e2
    have := congrArg List.length e2
    rw [List.length_append] at this
    exact List.eq_nil_of_length_eq_zero (by omega)
  have hww : Waits (t.ext m E') := by
    refine ⟨hw.over, hw.want, ?_, h2, hw.lt⟩
    show t.q t.wk ++ m t.wk = []
    rw [hw.q, hmk0]; rfl
  rw [waits_all c N hww, List.append_nil] at he
  exact ⟨_, _, he, hw.over, rfl⟩

theorem jgo_err (c : UInt8) (N : Nat) (en : Bool) : ∀ (q : List Bs) (key : Bs) (ls : List Bs), (jgo c N en key ls q).err = 0 ∨ (jgo c N en key ls q).err = 21 ∨ (jgo c N en key ls q).err = 22 := by
  intro q
  induction q with
  | nil => intro key ls; exact .inl rfl
  | cons s r ih =>
    intro key ls
    rw [jgo]
    split
    · exact ih _ _
    · split
      · exact .inr (.inr rfl)
      · split
        · exact .inl rfl
        · split
          · exact .inr (.inl rfl)
          · exact ih _ _

theorem same_den {d : Den} {b : Bs} {n e : Int} {ins w : List Strm} (hd : d = ⟨outs0 b, n, e⟩) (h : SameOk ⟨outs0 b, n, e⟩ ins w) : SameOk d ins w := hd ▸ h
theorem join_same (c : UInt8) (N : Nat) (ins : List Strm) (h2 : ins.length = 2) : SameOk (joDen c N ins) ins (joMeans c N ins) := by
  obtain ⟨out, t, e, hg⟩ : ∃ out t e, aAll c N (jStart (insT ins) (insE ins)) = (out, t, e) := ⟨_, _, _, rfl⟩
  unfold joDen joMeans
  rw [hg]
  dsimp only
  cases ho : t.over with
  | true =>
    refine same_den (b := joinS out) (n := -1) (e := e) (by simp) ?_
    rw [if_pos rfl]
    by_cases he : e = 0
    · rw [if_pos he]
      refine ⟨fun i hi => outs_means _ _ _ _ _ i hi, fun w hw => ?_⟩
      simp only [refOut, if_true, List.mem_singleton] at hw
      subst hw
      exact .inl ⟨rfl, rfl, he⟩
    · rw [if_neg he]
      refine ⟨fun i hi => outs_means _ _ _ _ _ i hi, fun w hw => ?_⟩
      unfold refOut at hw
      rw [if_neg (by decide)] at hw
      simp only [List.mem_singleton] at hw
      subst hw
      exact .inr (.inl ⟨rfl, rfl, rfl, he⟩)
  | false =>
    obtain ⟨hw, _, hen⟩ := aAll_waits hg ho
    have hk : t.wk < ins.length := by have := hw.lt; omega
    have hE : insE ins t.wk = false := by rw [← hen]; exact hw.en
    generalize t.wk = k at *
    cases hf : failedS (sAt ins k) with
    | true =>
      have hf' : (cutS [] (sAt ins k).bs).2.2 = true := hf
      have hc : (refLines (sAt ins k)).code = 20 := by unfold refLines; rw [if_pos hf']
      refine same_den (b := joinS out) (n := -1) (e := 20) (by simp) ?_
      rw [if_neg (by decide)]
      refine ⟨fun i hi => outs_means _ _ _ _ _ i hi, fun w hw2 => ?_⟩
      unfold refOut at hw2
      rw [if_neg (by decide)] at hw2
      simp only [List.mem_singleton] at hw2
      subst hw2
      exact .inr (.inl ⟨rfl, rfl, hc.symm, (by show (20 : Int) ≠ 0; decide)⟩)
    | false =>
      have he : (sAt ins k).ended = false := by
        cases he : (sAt ins k).ended with
        | false => rfl
        | true =>
          have := (rd_ended (s := sAt ins k) hf he).2.1
          unfold insE at hE
          rw [this] at hE
          cases hE
      have hc : refLines (sAt ins k) = ⟨(cutS [] (sAt ins k).bs).1, false, (sAt ins k).code, (sAt ins k).stage, (sAt ins k).id⟩ := by
        unfold refLines
        rw [if_neg (by show ¬ failedS (sAt ins k) = true; rw [hf]; decide), if_neg (by rw [he]; decide)]
      refine same_den (b := joinS out) (n := (k : Int)) (e := 0) (by simp) ?_
      rw [if_neg (by decide)]
      refine ⟨fun i hi => outs_means _ _ _ _ _ i hi, fun w hw2 => ?_⟩
      unfold refOut at hw2
      rw [if_neg (by decide)] at hw2
      simp only [List.mem_singleton] at hw2
      subst hw2
      refine .inr (.inr ⟨rfl, rfl, k, rfl, hk, ?_, ?_, ?_⟩)
      · rw [hc, sAt_get hk]
      · rw [hc, sAt_get hk]
      · rw [hc, sAt_get hk]

theorem join_grow (c : UInt8) (N : Nat) (a b : List Strm) (h2 : a.length = 2) (hl : a.length = b.length) (hg : ∀ p ∈ a.zip b, Grow p.1 p.2) : GrowOk (joDen c N a) (joDen c N b) := by
  have hgr : ∀ j, Grow (sAt a j) (sAt b j) := fun j => by
    by_cases hj : j < a.length
    · exact sAt_grow hl hg j hj
    · unfold sAt
      rw [List.getElem?_eq_none (by omega), List.getElem?_eq_none (by omega)]
      exact grow_refl _
  have hx : Ex (insT a) (insT b) (insE a) (insE b) := fun j => rd_grow (hgr j)
  obtain ⟨out, t, e, hga⟩ : ∃ out t e, aAll c N (jStart (insT a) (insE a)) = (out, t, e) := ⟨_, _, _, rfl⟩
  cases ho : t.over with
  | true =>
    have hf := (aAll_full hx hga).1 ho
    unfold joDen
    rw [hf.1, hf.2.1, hf.2.2, hga]
    dsimp only
    rw [ho]
    exact ⟨fun i _ => ⟨List.prefix_refl _, fun _ => rfl⟩, fun _ => ⟨rfl, rfl⟩⟩
  | false =>
    obtain ⟨hw, he0, hen⟩ := aAll_waits hga ho
    have hE : insE a t.wk = false := by rw [← hen]; exact hw.en
    cases hf : failedS (sAt a t.wk) with
    | true =>
      have hf' : (cutS [] (sAt a t.wk).bs).2.2 = true := hf
      have hfb : failedS (sAt b t.wk) = true ∧ rdT (sAt b t.wk) = rdT (sAt a t.wk) ∧ rdE (sAt b t.wk) = false := by
        have hgk := hgr t.wk
        cases hend : (sAt a t.wk).ended with
        | true => rw [hgk.1 hend]; exact ⟨hf, rfl, (rd_fail hf').2⟩
        | false =>
          obtain ⟨m, hm⟩ := hgk.2
          have hc := cutS_append (sAt a t.wk).bs [] m
          rw [hm, if_pos hf'] at hc
          have h2 : (cutS [] (sAt b t.wk).bs).2.2 = true := by rw [hc]; exact hf'
          refine ⟨h2, ?_, (rd_fail h2).2⟩
          rw [(rd_fail h2).1, (rd_fail hf').1, hc]
      obtain ⟨t', e', hgb, ho', hwk'⟩ := aAll_last hx hga ho hfb.2.1 hfb.2.2
      unfold joDen
      rw [hga, hgb]
      dsimp only
      rw [ho, ho', hwk', hf, hfb.1]
      exact ⟨fun i _ => ⟨List.prefix_refl _, fun _ => rfl⟩, fun _ => ⟨rfl, rfl⟩⟩
    | false =>
      obtain ⟨_, _, m, _, _, _, he⟩ := (aAll_full hx hga).2 ho
      unfold joDen
      rw [hga, he]
      dsimp only
      rw [ho, hf]
      refine ⟨fun i _ => ⟨?_, fun h => ?_⟩, fun h => ?_⟩
      · show outs0 (joinS out) i <+: outs0 (joinS (out ++ _)) i
        rw [joinS_append]
        unfold outs0
        split
        · exact List.prefix_append _ _
        · exact List.prefix_refl _
      · simp at h
      · simp at h
end Go.Proofs.Ytkgmbomfkdkofaa
