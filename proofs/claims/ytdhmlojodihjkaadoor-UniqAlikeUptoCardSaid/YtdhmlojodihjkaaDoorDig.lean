/- Numerals, and what they are worth; lines that are joined. -/
import Derived.Test.YtdhmlojodihjkaaDoorDen
import Derived.Lib.ItoaMem
namespace Go.Proofs.YtdhmlojodihjkaaDoor
open Go

/-- What digits are worth. -/
def digV (l : Bs) : Nat := l.foldl (fun n d => n * 10 + (d.toNat - 48)) 0
theorem digV_snoc (l : Bs) (d : UInt8) : digV (l ++ [d]) = digV l * 10 + (d.toNat - 48) := by simp [digV]
theorem foldl_le (l : Bs) : ∀ n, n ≤ l.foldl (fun n d => n * 10 + (d.toNat - 48)) n := by
  induction l with
  | nil => intro n; exact Nat.le_refl _
  | cons d r ih => intro n; have := ih (n * 10 + (d.toNat - 48)); simp only [List.foldl_cons]; omega
theorem digV_le (a b : Bs) : digV a ≤ digV (a ++ b) := by
  unfold digV
  rw [List.foldl_append]
  exact foldl_le b _

theorem digit_val (n : Nat) (h : n < 10) : (UInt8.ofNat (48 + n)).toNat = 48 + n := by rw [UInt8.toNat_ofNat']; omega

theorem decDigits_all (u : Nat) : digV (Lib.decDigits u) = u ∧ ∀ d ∈ Lib.decDigits u, 48 ≤ d.toNat ∧ d.toNat ≤ 57 := by
  induction u using Nat.strongRecOn with
  | _ u ih =>
    rw [Lib.decDigits]
    split
    · rename_i h
      have := digit_val u h
      refine ⟨?_, fun d hd => ?_⟩
      · show 0 * 10 + ((UInt8.ofNat (48 + u)).toNat - 48) = u
        rw [this]; omega
      · simp only [List.mem_singleton] at hd
        subst hd
        rw [this]; omega
    · rename_i h
      have h2 := ih (u / 10) (by omega)
      have := digit_val (u % 10) (by omega)
      refine ⟨?_, fun d hd => ?_⟩
      · rw [digV_snoc, h2.1, this]; omega
      · rcases List.mem_append.1 hd with hd | hd
        · exact h2.2 d hd
        · simp only [List.mem_singleton] at hd
          subst hd
          rw [this]; omega
theorem decDigits_ne (u : Nat) : Lib.decDigits u ≠ [] := by
  rw [Lib.decDigits]
  split <;> simp
/-- A numeral of more than one digit does not begin with 0. -/
theorem decDigits_head (u : Nat) : (Lib.decDigits u).length = 1 ∨ ∃ d r, Lib.decDigits u = d :: r ∧ d ≠ 48 := by
  induction u using Nat.strongRecOn with
  | _ u ih =>
    by_cases h : u < 10
    · left; rw [Lib.decDigits, dif_pos h]; rfl
    · right
      have e : Lib.decDigits u = Lib.decDigits (u / 10) ++ [UInt8.ofNat (48 + u % 10)] := by rw [Lib.decDigits, dif_neg h]
      rw [e]
      rcases ih (u / 10) (by omega) with h1 | ⟨d, r, h1, h2⟩
      · obtain ⟨d, hd⟩ := List.length_eq_one_iff.1 h1
        refine ⟨d, _, by rw [hd]; rfl, fun h0 => ?_⟩
        have hv := (decDigits_all (u / 10)).1
        rw [hd, h0] at hv
        have : digV [48] = 0 := rfl
        omega
      · exact ⟨d, _, by rw [h1]; rfl, h2⟩

/-! ## Lines -/

theorem cutS_line (x : Bs) : ∀ (g r : Bs), (∀ b ∈ x, b ≠ 10) → g.length + x.length ≤ 64 → cutS g (x ++ 10 :: r) = ((g ++ x) :: (cutS [] r).1, (cutS [] r).2) := by
  induction x with
  | nil => intro g r _ _; simp [cutS]
  | cons b x ih =>
    intro g r hx hl
    simp only [List.length_cons] at hl
    rw [List.cons_append, cutS, if_neg (hx b (by simp)), if_neg (by omega), ih (g ++ [b]) r (fun c hc => hx c (by simp [hc])) (by simp; omega)]
    simp

/-- A line as it may be. -/
def LineOk (x : Bs) : Prop := x.length ≤ 64 ∧ ∀ b ∈ x, b ≠ 10
theorem cutS_join (xs : List Bs) (h : ∀ x ∈ xs, LineOk x) : cutS [] (xs.flatMap fun x => x ++ [10]) = (xs, [], false) := by
  induction xs with
  | nil => rfl
  | cons x r ih =>
    have hx := h x (by simp)
    rw [List.flatMap_cons, List.append_assoc, List.singleton_append, cutS_line x [] _ hx.2 (by simpa using hx.1), ih (fun y hy => h y (by simp [hy]))]
    rfl
theorem refLines_join (xs : List Bs) (h : ∀ x ∈ xs, LineOk x) : refLines ⟨xs.flatMap fun x => x ++ [10], true, 0, 0, 0⟩ = ⟨xs, true, 0, 0, 0⟩ := by
  unfold refLines
  dsimp only
  rw [cutS_join xs h]
  simp

theorem cutS_ok (a : Bs) : ∀ (g : Bs), LineOk g → (∀ l ∈ (cutS g a).1, LineOk l) ∧ LineOk (cutS g a).2.1 := by
  induction a with
  | nil => intro g h; exact ⟨fun l hl => (by cases hl), h⟩
  | cons x r ih =>
    intro g h
    simp only [cutS]
    by_cases hx : x = 10
    · simp only [hx, if_true]
      have := ih [] ⟨by simp, fun b hb => by cases hb⟩
      refine ⟨fun l hl => ?_, this.2⟩
      rcases List.mem_cons.1 hl with rfl | hl
      · exact h
      · exact this.1 l hl
    · simp only [hx, if_false]
      by_cases hg : g.length = 64
      · simp only [hg, if_true]
        exact ⟨fun l hl => (by cases hl), ⟨by simp, fun b hb => (by cases hb)⟩⟩
      · simp only [hg, if_false]
        have := h.1
        exact ih _ ⟨by simp; omega, fun b hb => by
          rcases List.mem_append.1 hb with hb | hb
          · exact h.2 b hb
          · simp at hb; subst hb; exact hx⟩
theorem refLines_ok (s : Strm) : ∀ l ∈ (refLines s).lines, LineOk l := by
  have h := cutS_ok s.bs [] ⟨by simp, fun b hb => by cases hb⟩
  unfold refLines
  split
  · exact h.1
  · split
    · intro l hl
      rcases List.mem_append.1 hl with hl | hl
      · exact h.1 l hl
      · split at hl
        · cases hl
        · simp only [List.mem_singleton] at hl; subst hl; exact h.2
    · exact h.1
theorem refLines_ended (bs : Bs) (h : (refLines ⟨bs, true, 0, 0, 0⟩).all = true) : (cutS [] bs).2.2 = false := by
  unfold refLines at h
  dsimp only at h
  by_cases hf : (cutS [] bs).2.2 = true
  · rw [if_pos hf] at h; cases h
  · simpa using hf
end Go.Proofs.YtdhmlojodihjkaaDoor
