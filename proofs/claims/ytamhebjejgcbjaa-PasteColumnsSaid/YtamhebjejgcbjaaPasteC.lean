/- PasteColumns, plain: the rows, piece by piece. -/
import Derived.Test.YtamhebjejgcbjaaPasteS
namespace Go.Proofs.Ytamhebjejgcbjaa

def piece (c : Bs) (n : Nat) (T : Nat → List Bs) (r i : Nat) : Bs := fld T r i ++ (if i + 1 = n then [10] else c)
def rowTxt (c : Bs) (n : Nat) (T : Nat → List Bs) (r : Nat) : Bs := (List.range n).flatMap (piece c n T r)
theorem pre_txt (c : Bs) (n : Nat) (T : Nat → List Bs) (r : Nat) : ∀ k, k < n → (List.range k).flatMap (piece c n T r) = if k = 0 then [] else rowP c T r k ++ c := by
  intro k
  induction k with
  | zero => intro _; rfl
  | succ k ih =>
    intro hk
    have e : (List.range k).flatMap (piece c n T r) ++ piece c n T r k = rowP c T r (k + 1) ++ c := by
      rw [ih (by omega)]
      unfold piece
      rw [if_neg (by omega : ¬ k + 1 = n)]
      rcases Nat.eq_zero_or_pos k with h | h
      · subst h
        rw [if_pos rfl, rowP_one]; rfl
      · rw [if_neg (by omega), rowP_succ c T r k h]
        simp
    rw [List.range_succ, List.flatMap_append, if_neg (Nat.succ_ne_zero k), ← e]
    simp
theorem rowTxt_eq (c : Bs) (n : Nat) (hn : 1 ≤ n) (T : Nat → List Bs) (r : Nat) : rowTxt c n T r = rowP c T r n ++ [10] := by
  obtain ⟨k, rfl⟩ : ∃ k, n = k + 1 := ⟨n - 1, by omega⟩
  unfold rowTxt
  rw [List.range_succ, List.flatMap_append, pre_txt c (k + 1) T r k (by omega)]
  rcases Nat.eq_zero_or_pos k with h | h
  · subst h
    rw [if_pos rfl, rowP_one]
    simp [piece]
  · rw [if_neg (by omega), rowP_succ c T r k h]
    simp [piece]

def restR (c : Bs) (n : Nat) (T : Nat → List Bs) (R r : Nat) : Bs := ((List.range R).drop r).flatMap (rowTxt c n T)
def restI (c : Bs) (n : Nat) (T : Nat → List Bs) (R r i : Nat) : Bs := ((List.range n).drop i).flatMap (piece c n T r) ++ restR c n T R (r + 1)
theorem restR_step (c : Bs) (n : Nat) (T : Nat → List Bs) {R r : Nat} (h : r < R) : restR c n T R r = restI c n T R r 0 := by
  unfold restR restI
  rw [List.drop_eq_getElem_cons (by simpa using h), List.flatMap_cons]
  simp [rowTxt, restR]
theorem restR_end (c : Bs) (n : Nat) (T : Nat → List Bs) (R : Nat) : restR c n T R R = [] := by
  unfold restR
  rw [List.drop_of_length_le (by simp)]; rfl
theorem restI_step (c : Bs) (n : Nat) (T : Nat → List Bs) (R r : Nat) {i : Nat} (h : i < n) : restI c n T R r i = piece c n T r i ++ restI c n T R r (i + 1) := by
  unfold restI
  rw [List.drop_eq_getElem_cons (by simpa using h), List.flatMap_cons]
  simp
theorem restI_end (c : Bs) (n : Nat) (T : Nat → List Bs) (R r : Nat) : restI c n T R r n = restR c n T R (r + 1) := by
  unfold restI
  rw [List.drop_of_length_le (by simp)]; rfl

/-- How many lines the longest has. -/
def mxT (T : Nat → List Bs) : Nat → Nat
  | 0 => 0
  | n + 1 => max (mxT T n) (T n).length
theorem someT_mx (T : Nat → List Bs) (r : Nat) : ∀ n, someT n T r = decide (r < mxT T n) := by
  intro n
  induction n with
  | zero => simp [someT, mxT]
  | succ n ih =>
    rw [someT_succ, ih, mxT, ← Bool.decide_or]
    congr 1
    exact propext (by omega)

theorem PaPl.cols {b : Bs} {n : Nat} {T : Nat → List Bs} {E : Nat → Bool} {M F r : Nat} {rows : List Bs} (h : PaPl b n T E M F r 0 rows) (hE : ∀ j, j < n → E j = true) : ∀ k, k ≤ n → PaPl b n T E M F r k rows := by
  intro k
  induction k with
  | zero => intro _; exact h
  | succ k ih => intro hk; exact (ih (by omega)).col (by omega) (.inr (hE k (by omega)))
theorem pgo_all (b : Bs) (n : Nat) (T : Nat → List Bs) (E : Nat → Bool) (M F : Nat) (hM : ∀ j, j < n → (T j).length ≤ M) (hE : ∀ j, j < n → E j = true) : ∀ d r, r + d = mxT T n → PaPl b n T E M F r 0 ((List.range r).map fun r => rowP b T r n) →
    pgo b n T E F 0 0 = ((List.range (mxT T n)).map (fun r => rowP b T r n), mxT T n, n, true) := by
  intro d
  induction d with
  | zero =>
    intro r hr h
    obtain rfl : r = mxT T n := hr
    exact (h.cols hE n (Nat.le_refl _)).fin (by rw [someT_mx]; simp)
  | succ d ih =>
    intro r hr h
    have h2 := (h.cols hE n (Nat.le_refl _)).row hM (by rw [someT_mx]; simp; omega)
    refine ih (r + 1) (by omega) ?_
    rw [List.range_succ, List.map_append]
    exact h2

theorem col_den (c : UInt8) (ins : List Strm) (h1 : 1 ≤ ins.length) (hall : ∀ j, j < ins.length → insE ins j = true) :
    (pasteDen [c] ins).need = -1 ∧ (pasteDen [c] ins).err = 0 ∧ (pasteDen [c] ins).outs 0 = restR [c] ins.length (insT ins) (mxT (insT ins) ins.length) 0 := by
  have h := pgo_all [c] ins.length (insT ins) (insE ins) _ (FU (bytesOf ins) ins.length) (insT_le ins) hall _ 0 (Nat.zero_add _) (PaPl.start (enough_FU _ _ 0 0))
  have e : pasteGo [c] ins = ((List.range (mxT (insT ins) ins.length)).map (fun r => rowP [c] (insT ins) r ins.length), mxT (insT ins) ins.length, ins.length, true) := h
  unfold pasteDen
  rw [e]
  refine ⟨rfl, rfl, ?_⟩
  show joinS _ = _
  unfold joinS restR
  rw [List.drop_zero, List.flatMap_map]
  rw [List.flatMap_def, List.flatMap_def]
  congr 1
  apply List.map_congr_left
  intro r _
  exact (rowTxt_eq [c] ins.length h1 (insT ins) r).symm

theorem flat_len {α : Type} (f : α → Bs) (b : Nat) : ∀ l : List α, (∀ x ∈ l, (f x).length ≤ b) → (l.flatMap f).length ≤ l.length * b
  | [], _ => by simp
  | x :: r, h => by
    have h1 := h x (by simp)
    have h2 := flat_len f b r (fun y hy => h y (by simp [hy]))
    rw [List.flatMap_cons, List.length_append, List.length_cons, Nat.succ_mul]
    omega
theorem piece_len (c : Bs) (hc : c.length ≤ 1) (n : Nat) (T : Nat → List Bs) (hT : ∀ j, ∀ l ∈ T j, l.length ≤ 64) (r i : Nat) : (piece c n T r i).length ≤ 65 := by
  have h1 := fld_len T hT r i
  unfold piece
  rw [List.length_append]
  split
  · simp; omega
  · omega
theorem restR_len (c : Bs) (hc : c.length ≤ 1) (n : Nat) (hn : n ≤ 4) (T : Nat → List Bs) (hT : ∀ j, ∀ l ∈ T j, l.length ≤ 64) (R r : Nat) : (restR c n T R r).length ≤ R * 260 := by
  have h1 : ∀ x, (rowTxt c n T x).length ≤ 260 := fun x => by
    have h2 := flat_len (piece c n T x) 65 (List.range n) (fun i _ => piece_len c hc n T hT x i)
    rw [List.length_range] at h2
    have h3 : n * 65 ≤ 4 * 65 := Nat.mul_le_mul_right _ hn
    exact Nat.le_trans h2 h3
  have h4 := flat_len (rowTxt c n T) 260 ((List.range R).drop r) (fun x _ => h1 x)
  have h5 : ((List.range R).drop r).length * 260 ≤ R * 260 := Nat.mul_le_mul_right _ (by simp)
  exact Nat.le_trans h4 h5
theorem restI_len (c : Bs) (hc : c.length ≤ 1) (n : Nat) (hn : n ≤ 4) (T : Nat → List Bs) (hT : ∀ j, ∀ l ∈ T j, l.length ≤ 64) (R r i : Nat) : (restI c n T R r i).length ≤ R * 260 + 260 := by
  have h2 := flat_len (piece c n T r) 65 ((List.range n).drop i) (fun x _ => piece_len c hc n T hT r x)
  have h3 : ((List.range n).drop i).length * 65 ≤ 4 * 65 := Nat.mul_le_mul_right _ (by simp; omega)
  have h4 := restR_len c hc n hn T hT R (r + 1)
  unfold restI
  rw [List.length_append, Nat.add_comm (R * 260) 260]
  exact Nat.add_le_add (Nat.le_trans h2 h3) h4
end Go.Proofs.Ytamhebjejgcbjaa
