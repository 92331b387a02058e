/- paste: what the machine's states keep. -/
import Derived.Test.YtkgmbomfkdkofaaPasteD
namespace Go.Proofs.Ytkgmbomfkdkofaa

structure PQOk (q : PQ) : Prop where
  few : q.ls.length ≤ 32
  short : ∀ l ∈ q.ls, l.length ≤ 64
structure PaOk (n : Nat) (s : PaS) : Prop where
  len : s.qs.length = n
  n1 : 1 ≤ n
  n4 : n ≤ 4
  row : s.row.length ≤ n
  by_ : s.by_.length ≤ 1
  qs : ∀ q ∈ s.qs, PQOk q
  rows : ∀ x ∈ s.row, x.length ≤ 64
/-- The wanted input has no line ahead. -/
def PaW (s : PaS) : Prop := s.over = false → ∃ q, s.qs[s.at_]? = some q ∧ q.ls = [] ∧ q.ended = false

theorem paStep_ok {n : Nat} {s : PaS} (h : PaOk n s) : PaOk n (paStep s).2.1 ∧ (∀ x ∈ (paStep s).1, x.length ≤ 1000) ∧ (paStep s).1.length ≤ 1 ∧ ((paStep s).2.2 = false → PaW (paStep s).2.1) ∧ ((paStep s).2.2 = false → (paStep s).1 = []) := by
  unfold paStep
  by_cases h0 : s.over = true
  · rw [if_pos h0]
    exact ⟨h, (fun x hx => by cases hx), by simp, (fun _ ho => by rw [h0] at ho; cases ho), fun _ => rfl⟩
  rw [if_neg h0]
  by_cases h1 : s.row.length = s.qs.length
  · rw [if_pos h1]
    by_cases h2 : s.any = true
    · rw [if_pos h2]
      refine ⟨⟨h.len, h.n1, h.n4, Nat.zero_le _, h.by_, h.qs, fun x hx => by cases hx⟩, fun x hx => ?_, by simp, (fun hx => by cases hx), fun hx => by cases hx⟩
      simp only [List.mem_singleton] at hx
      subst hx
      have h3 := joinBy_len s.by_ s.row
      have h4 : lens s.row ≤ s.row.length * 64 := by
        have : ∀ l : List Bs, (∀ x ∈ l, x.length ≤ 64) → lens l ≤ l.length * 64 := by
          intro l
          induction l with
          | nil => intro _; simp [lens]
          | cons x r ih =>
            intro hl
            have a := hl x (by simp)
            have b := ih (fun y hy => hl y (by simp [hy]))
            unfold lens at b ⊢
            simp only [List.map_cons, List.sum_cons, List.length_cons, Nat.succ_mul]
            omega
        exact this _ h.rows
      have h5 : s.row.length * s.by_.length ≤ s.row.length * 1 := Nat.mul_le_mul_left _ h.by_
      have := h.row
      have := h.n4
      omega
    · rw [if_neg h2]
      exact ⟨⟨h.len, h.n1, h.n4, h.row, h.by_, h.qs, h.rows⟩, (fun x hx => by cases hx), by simp, (fun _ ho => by cases ho), fun _ => rfl⟩
  rw [if_neg h1]
  have hrn := h.row
  have hln := h.len
  cases hq : s.qs[s.row.length]? with
  | none =>
    have := List.getElem?_eq_none_iff.1 hq
    omega
  | some q =>
    have hqo := h.qs q (List.mem_of_getElem? hq)
    dsimp only
    cases hl : q.ls with
    | cons l r =>
      dsimp only
      have hf := hqo.few
      have hs := hqo.short
      rw [hl] at hf hs
      refine ⟨⟨by rw [List.length_set]; exact h.len, h.n1, h.n4, by simp; omega, h.by_, fun x hx => ?_, fun x hx => ?_⟩, (fun x hx => by cases hx), by simp, (fun hx => by cases hx), fun hx => by cases hx⟩
      · rcases List.mem_or_eq_of_mem_set hx with hx | rfl
        · exact h.qs x hx
        · exact ⟨by simp at hf ⊢; omega, fun y hy => hs y (by simp [hy])⟩
      · rcases List.mem_append.1 hx with hx | hx
        · exact h.rows x hx
        · simp only [List.mem_singleton] at hx; subst hx; exact hs x (by simp)
    | nil =>
      dsimp only
      by_cases he : q.ended = true
      · rw [if_pos he]
        refine ⟨⟨h.len, h.n1, h.n4, by simp; omega, h.by_, h.qs, fun x hx => ?_⟩, (fun x hx => by cases hx), by simp, (fun hx => by cases hx), fun hx => by cases hx⟩
        rcases List.mem_append.1 hx with hx | hx
        · exact h.rows x hx
        · simp only [List.mem_singleton] at hx; subst hx; simp
      · rw [if_neg he]
        exact ⟨⟨h.len, h.n1, h.n4, h.row, h.by_, h.qs, h.rows⟩, (fun x hx => by cases hx), by simp, (fun _ _ => ⟨q, hq, hl, by simpa using he⟩), fun _ => rfl⟩

theorem paAll_ok {n : Nat} : ∀ (m : Nat) (s : PaS), paMu s < m → PaOk n s → PaOk n (paAll s).2 ∧ PaW (paAll s).2 ∧ (∀ x ∈ (paAll s).1, x.length ≤ 1000) ∧ (paAll s).1.length ≤ paMu s := by
  intro m
  induction m with
  | zero => intro s h; omega
  | succ m ih =>
    intro s hm h
    have h1 := paStep_ok h
    cases hc : (paStep s).2.2 with
    | true =>
      have h2 := paStep_mu s hc
      have h3 := ih _ (by omega) h1.1
      rw [paAll_go hc]
      refine ⟨h3.1, h3.2.1, fun x hx => ?_, ?_⟩
      · rcases List.mem_append.1 hx with hx | hx
        · exact h1.2.1 x hx
        · exact h3.2.2.1 x hx
      · have := h1.2.2.1
        have := h3.2.2.2
        simp only [List.length_append]
        omega
    | false =>
      rw [paAll_stop hc]
      refine ⟨h1.1, h1.2.2.2.1 hc, h1.2.1, ?_⟩
      rw [h1.2.2.2.2 hc]
      exact Nat.zero_le _

theorem paMu_le {n : Nat} {s : PaS} (h : PaOk n s) : paMu s ≤ 2000 := by
  have h1 : ∀ l : List PQ, (∀ q ∈ l, PQOk q) → (l.map fun q => q.ls.length).sum ≤ l.length * 32 := by
    intro l
    induction l with
    | nil => intro _; simp
    | cons q r ih =>
      intro hl
      have a := (hl q (by simp)).few
      have b := ih (fun y hy => hl y (by simp [hy]))
      simp only [List.map_cons, List.sum_cons, List.length_cons, Nat.succ_mul]
      omega
  have h2 := h1 s.qs h.qs
  have h4 := h.n4
  have h3 : paLines s ≤ 128 := by
    unfold paLines
    have : s.qs.length * 32 ≤ 4 * 32 := Nat.mul_le_mul_right _ (by rw [h.len]; exact h4)
    omega
  unfold paMu
  have h5 : paLines s * (s.qs.length + 2) ≤ 128 * 6 := Nat.mul_le_mul h3 (by rw [h.len]; omega)
  have h6 := h.len
  split <;> omega

theorem joinS_le (l : List Bs) (c : Nat) (h : ∀ x ∈ l, x.length ≤ c) : (joinS l).length ≤ l.length * (c + 1) := by
  induction l with
  | nil => simp [joinS]
  | cons x r ih =>
    have a := h x (by simp)
    have b := ih (fun y hy => h y (by simp [hy]))
    have e : (joinS (x :: r)).length = x.length + 1 + (joinS r).length := by unfold joinS; rw [List.flatMap_cons]; simp; omega
    rw [e]
    simp only [List.length_cons, Nat.succ_mul]
    omega

/-- The wanted input gets more: still a state that may be. -/
theorem PaOk.setQ {n : Nat} {s : PaS} (h : PaOk n s) (k : Nat) (q : PQ) (hq : PQOk q) : PaOk n (s.setQ k q) :=
  ⟨by show (s.qs.set k q).length = n; rw [List.length_set]; exact h.len, h.n1, h.n4, h.row, h.by_, fun x hx => by
    rcases List.mem_or_eq_of_mem_set (show x ∈ s.qs.set k q from hx) with hx | rfl
    · exact h.qs x hx
    · exact hq, h.rows⟩
end Go.Proofs.Ytkgmbomfkdkofaa
