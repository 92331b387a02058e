/- paste: rows as the document builds them, field by field. -/
import Derived.Test.YtamhebjejgcbjaaPasteD
namespace Go.Proofs.Ytamhebjejgcbjaa

theorem joinBy_snoc (b : Bs) (x : Bs) : ∀ l : List Bs, joinBy b (l ++ [x]) = if l = [] then x else joinBy b l ++ b ++ x
  | [] => rfl
  | [y] => by simp [joinBy]
  | y :: z :: r => by
    have h := joinBy_snoc b x (z :: r)
    rw [if_neg (by simp)] at h
    rw [if_neg (by simp), List.cons_append, List.cons_append, joinBy, ← List.cons_append, h, joinBy]
    simp

def fld (T : Nat → List Bs) (r j : Nat) : Bs := ((T j)[r]?).getD []
def rowP (b : Bs) (T : Nat → List Bs) (r k : Nat) : Bs := joinBy b ((List.range k).map (fld T r))
theorem rowP_zero (b : Bs) (T : Nat → List Bs) (r : Nat) : rowP b T r 0 = [] := rfl
theorem rowP_one (b : Bs) (T : Nat → List Bs) (r : Nat) : rowP b T r 1 = fld T r 0 := rfl
theorem rowP_succ (b : Bs) (T : Nat → List Bs) (r k : Nat) (hk : 0 < k) : rowP b T r (k + 1) = rowP b T r k ++ b ++ fld T r k := by
  unfold rowP
  rw [List.range_succ, List.map_append, List.map_singleton, joinBy_snoc, if_neg (by simp; omega)]
theorem fld_len (T : Nat → List Bs) (hT : ∀ j, ∀ l ∈ T j, l.length ≤ 64) (r j : Nat) : (fld T r j).length ≤ 64 := by
  unfold fld
  cases h : (T j)[r]? with
  | none => simp
  | some x => exact hT j x (List.mem_of_getElem? h)
theorem rowP_len (b : Bs) (hb : b.length ≤ 1) (T : Nat → List Bs) (hT : ∀ j, ∀ l ∈ T j, l.length ≤ 64) (r : Nat) : ∀ k, (rowP b T r k).length ≤ k * 65 := by
  intro k
  induction k with
  | zero => rw [rowP_zero]; simp
  | succ k ih =>
    have h1 := fld_len T hT r k
    rcases Nat.eq_zero_or_pos k with h | h
    · subst h; rw [rowP_one]; omega
    · rw [rowP_succ b T r k h, List.length_append, List.length_append]; omega
theorem someT_succ (T : Nat → List Bs) (r k : Nat) : someT (k + 1) T r = (someT k T r || decide (r < (T k).length)) := by
  unfold someT
  rw [List.range_succ]; simp

/-- Where the document's loops stand. -/
structure PaPl (b : Bs) (n : Nat) (T : Nat → List Bs) (E : Nat → Bool) (M F r k : Nat) (rows : List Bs) : Prop where
  go : ∃ f, Enough M n r k f ∧ pgo b n T E F 0 0 = (rows ++ (pgo b n T E f r k).1, (pgo b n T E f r k).2)
  le : k ≤ n
  len : rows.length = r
  few : r ≤ M
namespace PaPl
variable {b : Bs} {n : Nat} {T : Nat → List Bs} {E : Nat → Bool} {M F r k : Nat} {rows : List Bs}
theorem start (h : Enough M n 0 0 F) : PaPl b n T E M F 0 0 [] := ⟨⟨F, h, by simp⟩, Nat.zero_le _, rfl, Nat.zero_le _⟩
theorem col (h : PaPl b n T E M F r k rows) (hk : k < n) (hd : r < (T k).length ∨ E k = true) : PaPl b n T E M F r (k + 1) rows := by
  obtain ⟨⟨f, hf, hg⟩, h1, h2, h3⟩ := h
  cases f with
  | zero => unfold Enough at hf; omega
  | succ f =>
    rw [pgo, if_neg (by omega), if_pos hd] at hg
    exact ⟨⟨f, enough_col hk hf, hg⟩, hk, h2, h3⟩
theorem stop (h : PaPl b n T E M F r k rows) (hk : k < n) (hd : ¬ r < (T k).length) (he : E k = false) : pgo b n T E F 0 0 = (rows, r, k, false) := by
  obtain ⟨⟨f, hf, hg⟩, h1, h2, h3⟩ := h
  cases f with
  | zero => unfold Enough at hf; omega
  | succ f =>
    rw [pgo, if_neg (by omega), if_neg (by rw [he]; simp; omega)] at hg
    simpa using hg
theorem fin (h : PaPl b n T E M F r n rows) (hs : someT n T r = false) : pgo b n T E F 0 0 = (rows, r, n, true) := by
  obtain ⟨⟨f, hf, hg⟩, h1, h2, h3⟩ := h
  cases f with
  | zero => unfold Enough at hf; omega
  | succ f =>
    rw [pgo, if_pos rfl, if_neg (by rw [hs]; decide)] at hg
    simpa using hg
theorem row (h : PaPl b n T E M F r n rows) (hM : ∀ j, j < n → (T j).length ≤ M) (hs : someT n T r = true) : PaPl b n T E M F (r + 1) 0 (rows ++ [rowP b T r n]) := by
  obtain ⟨⟨f, hf, hg⟩, h1, h2, h3⟩ := h
  cases f with
  | zero => unfold Enough at hf; omega
  | succ f =>
    rw [pgo, if_pos rfl, if_pos hs] at hg
    refine ⟨⟨f, enough_row hM hs hf, ?_⟩, Nat.zero_le _, by simp [h2], ?_⟩
    · rw [hg]
      simp only [List.append_assoc, List.cons_append, List.nil_append]
      rfl
    · obtain ⟨j, hj, hr⟩ := someT_of hs
      have := hM j hj
      omega
end PaPl
theorem rows_len (b : Bs) (hb : b.length ≤ 1) (n : Nat) (hn : n ≤ 4) (T : Nat → List Bs) (hT : ∀ j, ∀ l ∈ T j, l.length ≤ 64) (rows : List Bs) (h : ∀ x ∈ rows, ∃ r, x = rowP b T r n) : (joinS rows).length ≤ rows.length * 300 := by
  induction rows with
  | nil => simp [joinS]
  | cons x r ih =>
    have h2 := ih (fun y hy => h y (by simp [hy]))
    obtain ⟨q, rfl⟩ := h x (by simp)
    have h3 := rowP_len b hb T hT q n
    have h4 : n * 65 ≤ 4 * 65 := Nat.mul_le_mul_right _ hn
    have e : (joinS (rowP b T q n :: r)).length = (rowP b T q n).length + 1 + (joinS r).length := by unfold joinS; rw [List.flatMap_cons]; simp; omega
    rw [e, List.length_cons, Nat.succ_mul]
    omega
end Go.Proofs.Ytamhebjejgcbjaa
