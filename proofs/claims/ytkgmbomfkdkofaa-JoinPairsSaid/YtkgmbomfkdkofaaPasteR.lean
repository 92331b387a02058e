/- paste: what comes of its inputs, however they are cut. -/
import Derived.Test.YtkgmbomfkdkofaaPasteQ
namespace Go.Proofs.Ytkgmbomfkdkofaa

def strm0 : Strm := ⟨[], false, 0, 0, 0⟩
def sAt (ins : List Strm) (j : Nat) : Strm := (ins[j]?).getD strm0
def rdT (s : Strm) : List Bs := (refLines s).lines
def rdE (s : Strm) : Bool := (refLines s).all
def rdB (s : Strm) : Bs := if s.ended = true then [] else (cutS [] s.bs).2.1
def failedS (s : Strm) : Bool := (cutS [] s.bs).2.2
def prt (s : Strm) (t : Nat) (told : Bool) : Strm := if told = true then s else ⟨s.bs.take t, false, s.code, s.stage, s.id⟩

theorem cutS_fail_len (a : Bs) : ∀ g : Bs, (cutS g a).2.2 = true → 65 ≤ g.length + a.length := by
  induction a with
  | nil => intro g h; simp [cutS] at h
  | cons x r ih =>
    intro g
    simp only [cutS]
    by_cases hx : x = 10
    · simp only [hx, if_true]
      intro h
      have := ih [] h
      simp at this ⊢
      omega
    · simp only [hx, if_false]
      by_cases hg : g.length = 64
      · intro _; simp; omega
      · simp only [hg, if_false]
        intro h
        have := ih _ h
        simp at this ⊢
        omega
theorem cutS_fail_none (a : Bs) : ∀ g : Bs, a.length < 65 → (cutS g a).2.2 = true → (cutS g a).1 = [] := by
  induction a with
  | nil => intro g _ h; simp [cutS] at h
  | cons x r ih =>
    intro g hl
    simp only [cutS]
    simp only [List.length_cons] at hl
    by_cases hx : x = 10
    · simp only [hx, if_true]
      intro h
      have := cutS_fail_len r [] h
      simp at this
      omega
    · simp only [hx, if_false]
      by_cases hg : g.length = 64
      · simp [hg]
      · simp only [hg, if_false]
        exact ih _ (by omega)

theorem rd_fail {s : Strm} (h : (cutS [] s.bs).2.2 = true) : rdT s = (cutS [] s.bs).1 ∧ rdE s = false := by
  unfold rdT rdE refLines; rw [if_pos h]; exact ⟨rfl, rfl⟩
theorem rd_open {s : Strm} (h : (cutS [] s.bs).2.2 = false) (he : s.ended = false) : rdT s = (cutS [] s.bs).1 ∧ rdE s = false ∧ rdB s = (cutS [] s.bs).2.1 := by
  unfold rdT rdE rdB refLines; rw [if_neg (by rw [h]; decide), if_neg (by rw [he]; decide)]; exact ⟨rfl, rfl, by rw [if_neg (by rw [he]; decide)]⟩
theorem rd_ended {s : Strm} (h : (cutS [] s.bs).2.2 = false) (he : s.ended = true) : rdT s = (cutS [] s.bs).1 ++ (if (cutS [] s.bs).2.1 = [] then [] else [(cutS [] s.bs).2.1]) ∧ rdE s = true ∧ rdB s = [] := by
  unfold rdT rdE rdB refLines; rw [if_neg (by rw [h]; decide), if_pos he]; exact ⟨rfl, rfl, by rw [if_pos he]⟩

theorem rd_grow {s s' : Strm} (h : Grow s s') : rdT s <+: rdT s' ∧ (rdE s = true → rdT s' = rdT s ∧ rdE s' = true) := by
  cases he : s.ended with
  | true => rw [h.1 he]; exact ⟨List.prefix_refl _, fun h => ⟨rfl, h⟩⟩
  | false =>
    obtain ⟨m, hm⟩ := h.2
    have hc := cutS_append s.bs [] m
    rw [hm] at hc
    cases hf : (cutS [] s.bs).2.2 with
    | true =>
      rw [if_pos hf] at hc
      have h1 := rd_fail hf
      have h2 := rd_fail (s := s') (by rw [hc]; exact hf)
      rw [h1.1, h2.1, hc, h1.2]
      exact ⟨List.prefix_refl _, fun h => by cases h⟩
    | false =>
      rw [if_neg (by rw [hf]; decide)] at hc
      have h1 := rd_open hf he
      rw [h1.1, h1.2.1]
      refine ⟨?_, fun h => by cases h⟩
      cases hf' : (cutS [] s'.bs).2.2 with
      | true => rw [(rd_fail hf').1, hc]; exact ⟨_, rfl⟩
      | false =>
        cases he' : s'.ended with
        | true => rw [(rd_ended hf' he').1, hc]; exact ⟨_, (List.append_assoc _ _ _).symm⟩
        | false => rw [(rd_open hf' he').1, hc]; exact ⟨_, rfl⟩

theorem grow_refl (s : Strm) : Grow s s := ⟨fun _ => rfl, List.prefix_refl _⟩
theorem prt_grow (s : Strm) (t : Nat) (told : Bool) : Grow (prt s t told) s := by
  cases told
  · exact ⟨(fun h => by simp [prt] at h), List.take_prefix _ _⟩
  · exact grow_refl s
theorem take_prefix_take (l : Bs) {t t' : Nat} (h : t ≤ t') : l.take t <+: l.take t' := ⟨(l.take t').drop t, (take_split l t t' h).symm⟩
theorem prt_more (s : Strm) {t t' : Nat} (h : t ≤ t') (told : Bool) : Grow (prt s t false) (prt s t' told) := by
  cases told
  · exact ⟨(fun he => by simp [prt] at he), take_prefix_take _ h⟩
  · exact prt_grow s t false

theorem sAt_get {ins : List Strm} {j : Nat} (h : j < ins.length) : sAt ins j = ins[j] := by unfold sAt; rw [List.getElem?_eq_getElem h]; rfl

def FU (M n : Nat) : Nat := (M + 2) * (n + 2) + n
theorem enough_FU (M n r k : Nat) : Enough M n r k (FU M n) := by
  unfold Enough FU
  have : (M + 1 - r) * (n + 2) ≤ (M + 1) * (n + 2) := Nat.mul_le_mul_right _ (by omega)
  have e : (M + 2) * (n + 2) = (M + 1) * (n + 2) + (n + 2) := Nat.succ_mul _ _
  omega
theorem pgo_stop (by_ : Bs) (n : Nat) (T : Nat → List Bs) (E : Nat → Bool) (M r k : Nat) (hk : k < n) (h1 : (T k).length ≤ r) (h2 : E k = false) : pgo by_ n T E (FU M n) r k = ([], r, k, false) := by
  obtain ⟨f, hf⟩ : ∃ f, FU M n = f + 1 := ⟨FU M n - 1, by unfold FU; have : 0 < (M + 2) * (n + 2) := Nat.mul_pos (by omega) (by omega); omega⟩
  rw [hf, pgo, if_neg (by omega), if_neg (by rw [h2]; simp; omega)]

def bytesOf (ins : List Strm) : Nat := (ins.map fun s => s.bs.length).sum
theorem bytes_le {ins : List Strm} {s : Strm} (h : s ∈ ins) : s.bs.length ≤ bytesOf ins := by
  unfold bytesOf
  induction ins with
  | nil => cases h
  | cons x r ih =>
    simp only [List.map_cons, List.sum_cons]
    rcases List.mem_cons.1 h with rfl | h
    · omega
    · have := ih h; omega
def insT (ins : List Strm) (j : Nat) : List Bs := rdT (sAt ins j)
def insE (ins : List Strm) (j : Nat) : Bool := rdE (sAt ins j)
theorem insT_le (ins : List Strm) : ∀ j, j < ins.length → (insT ins j).length ≤ bytesOf ins := fun j hj => by
  unfold insT
  rw [sAt_get hj]
  exact Nat.le_trans (refLines_sum _).2 (bytes_le (List.getElem_mem hj))

def pasteGo (by_ : Bs) (ins : List Strm) : List Bs × Nat × Nat × Bool := pgo by_ ins.length (insT ins) (insE ins) (FU (bytesOf ins) ins.length) 0 0
def goDen (ins : List Strm) (x : List Bs × Nat × Nat × Bool) : Den :=
  ⟨outs0 (joinS x.1), if x.2.2.2 = true then -1 else if failedS (sAt ins x.2.2.1) = true then -1 else (x.2.2.1 : Int), if x.2.2.2 = true then 0 else if failedS (sAt ins x.2.2.1) = true then 20 else 0⟩
def pasteDen (by_ : Bs) (ins : List Strm) : Den := goDen ins (pasteGo by_ ins)

section
variable (ins : List Strm) (tk : Nat → Nat) (td : Nat → Bool)
def pT (j : Nat) : List Bs := rdT (prt (sAt ins j) (tk j) (td j))
def pE (j : Nat) : Bool := rdE (prt (sAt ins j) (tk j) (td j))
def pB (j : Nat) : Bs := rdB (prt (sAt ins j) (tk j) (td j))
theorem pT_ext : Ext ins.length (pT ins tk td) (insT ins) (pE ins tk td) (insE ins) := fun _ _ => rd_grow (prt_grow _ _ _)
theorem pT_le : ∀ j, j < ins.length → (pT ins tk td j).length ≤ bytesOf ins := fun j hj => Nat.le_trans (List.IsPrefix.length_le (pT_ext ins tk td j hj).1) (insT_le ins j hj)
end

structure PaMid (by_ : Bs) (ins : List Strm) (d : DS PaS) (r k : Nat) (out : List Bs) : Prop where
  le : ∀ j, j < ins.length → d.taken j ≤ (sAt ins j).bs.length
  told : ∀ j, j < ins.length → d.told j = true → (sAt ins j).ended = true ∧ d.taken j = (sAt ins j).bs.length
  nf : ∀ j, j < ins.length → (cutS [] ((sAt ins j).bs.take (d.taken j))).2.2 = false
  go : pgo by_ ins.length (pT ins d.taken d.told) (pE ins d.taken d.told) (FU (bytesOf ins) ins.length) 0 0 = (out, r, k, false)
  at_ : PaAt by_ ins.length (pT ins d.taken d.told) (pE ins d.taken d.told) (pB ins d.taken d.told) r k false d.st
  sat : d.st.at_ = k
  outs : d.outs = outs0 (joinS out)
  need : d.need = k
  err : d.err = 0
  bad : d.bad = false
  held : d.held ≤ ((ins.length * 96 : Nat) : Int)
  bnd : ∀ j, j < ins.length → (pB ins d.taken d.told j).length + lens ((pT ins d.taken d.told j).drop r) ≤ 96 ∧ ((pT ins d.taken d.told j).drop r).length ≤ 32

theorem lens_drop_mono (l : List Bs) : ∀ r r', r ≤ r' → lens (l.drop r') ≤ lens (l.drop r) := by
  intro r r' h
  induction r' with
  | zero => obtain rfl : r = 0 := by omega
            exact Nat.le_refl _
  | succ r' ih =>
    rcases Nat.lt_or_ge r (r' + 1) with h1 | h1
    · exact Nat.le_trans (lens_drop_le l r') (ih (by omega))
    · obtain rfl : r = r' + 1 := by omega
      exact Nat.le_refl _

theorem tellS_ok (rows : List Bs) (h : (joinS rows).length ≤ 1024) : OkOuts (tellS 0 rows) := by
  unfold tellS
  split
  · exact ⟨by simp, fun o ho => by cases ho⟩
  · rename_i hne
    refine ⟨by simpa using h, fun o ho => ?_⟩
    simp only [List.mem_singleton] at ho
    subst ho
    refine ⟨by simp, by simp, fun e => ?_⟩
    cases rows with
    | nil => exact hne rfl
    | cons x r =>
      have e : joinS (x :: r) = [] := e
      unfold joinS at e
      simp at e
theorem collect_tell (a : Bs) (rows : List Bs) : collect (outs0 a) (tellS 0 rows) = outs0 (a ++ joinS rows) := by
  unfold tellS
  split
  · rename_i h; subst h; rw [collect_nil]; simp [joinS]
  · exact collect_outs0 a _
theorem joinS_append (a b : List Bs) : joinS (a ++ b) = joinS a ++ joinS b := by unfold joinS; rw [List.flatMap_append]

/-- The rows that a piece of input gives, and what is kept then. -/
theorem pa_rows (by_ : Bs) (hby : by_.length ≤ 1) (ins : List Strm) (h4 : ins.length ≤ 4) (T : Nat → List Bs) (E : Nat → Bool) (B : Nat → Bs) (hM : ∀ j, j < ins.length → (T j).length ≤ bytesOf ins) (r k : Nat) (hk : k < ins.length) (s : PaS)
    (hs : PaAt by_ ins.length T E B r k false s) (hb : ∀ j, j < ins.length → (B j).length + lens ((T j).drop r) ≤ 96 ∧ ((T j).drop r).length ≤ 32) :
    ∃ rows r' k' ov, pgo by_ ins.length T E (FU (bytesOf ins) ins.length) r k = (rows, r', k', ov) ∧ (paAll s).1 = rows ∧ PaAt by_ ins.length T E B r' k' ov (paAll s).2 ∧ (ov = false → (paAll s).2.at_ = k') ∧ OkOuts (tellS 0 rows) ∧
      (pasteM.held (paAll s).2 ≤ ((ins.length * 96 : Nat) : Int)) ∧ ∀ j, j < ins.length → (B j).length + lens ((T j).drop r') ≤ 96 ∧ ((T j).drop r').length ≤ 32 := by
  have h1 := paAll_pgo by_ ins.length T E B _ hM _ r k s (by omega) (enough_FU (bytesOf ins) ins.length r k) hs
  have h2 := pgo_len by_ hby ins.length T E (FU (bytesOf ins) ins.length) r k
  have hkn : (pgo by_ ins.length T E (FU (bytesOf ins) ins.length) r k).2.2.1 ≤ ins.length := by
    have : ∀ f r k, k ≤ ins.length → (pgo by_ ins.length T E f r k).2.2.1 ≤ ins.length := by
      intro f
      induction f with
      | zero => intro r k h; exact h
      | succ f ih =>
        intro r k h
        rw [pgo]
        split
        · split
          · exact ih _ _ (by omega)
          · exact h
        · split
          · exact ih _ _ (by omega)
          · exact h
    exact this _ _ _ (by omega)
  generalize pgo by_ ins.length T E (FU (bytesOf ins) ins.length) r k = x at *
  obtain ⟨rows, r', k', ov⟩ := x
  dsimp only at *
  have hrr : r ≤ r' := by omega
  have hb' : ∀ j, j < ins.length → (B j).length + lens ((T j).drop r') ≤ 96 ∧ ((T j).drop r').length ≤ 32 := fun j hj => by
    have := hb j hj
    have := lens_drop_mono (T j) r r' hrr
    simp only [List.length_drop] at *
    omega
  refine ⟨rows, r', k', ov, rfl, h1.1, h1.2.1, h1.2.2, ?_, ?_, hb'⟩
  · apply tellS_ok
    have hs1 : sumR ins.length (fun j => lens ((T j).drop r)) ≤ ins.length * 96 := by
      rw [← sumR_const]
      exact sumR_le _ _ _ fun j hj => by have := (hb j hj).1; omega
    have hn : rows.length ≤ 32 := by
      by_cases h0 : rows = []
      · subst h0; simp
      · obtain ⟨j, hj, hr⟩ := h2.2.2 h0
        have := (hb j hj).2
        simp only [List.length_drop] at this
        omega
    have : rows.length * (ins.length + 1) ≤ 32 * 5 := Nat.mul_le_mul hn (by omega)
    omega
  · have := pa_held h1.2.1 hkn 96 (fun j hj => (hb' j hj).1)
    show (((((paAll s).2.qs.map paWt).sum + ((paAll s).2.row.map List.length).sum : Nat)) : Int) ≤ _
    omega
end Go.Proofs.Ytkgmbomfkdkofaa
