/- What uniq's machine does, in plain Lean: the document's text of uniq. -/
import Derived.Test.YtfbfcehjlaallaaDoorUniqM
import Derived.Test.YtfbfcehjlaallaaDoorDen
namespace Go.Proofs.YtfbfcehjlaallaaDoor
open Go Go.RowKit

/-- All goes to port 0. -/
def P0 (o : Outs) : Prop := ∀ x ∈ o, x.1 = 0
theorem p0_nil : P0 [] := fun x h => by cases h
theorem p0_append {a b : Outs} (ha : P0 a) (hb : P0 b) : P0 (a ++ b) := fun x hx => by
  rcases List.mem_append.1 hx with h | h
  · exact ha x h
  · exact hb x h
def cat (o : Outs) : Bs := o.flatMap fun x => x.2
theorem cat_append (a b : Outs) : cat (a ++ b) = cat a ++ cat b := by simp [cat]
theorem collect_p0 (o : Outs) (h : P0 o) (j : Nat) : collect (fun _ => []) o j = if j = 0 then cat o else [] := by
  unfold collect cat
  rw [List.nil_append]
  induction o with
  | nil => simp
  | cons x r ih =>
    have hx := h x (by simp)
    have ih := ih (fun y hy => h y (by simp [hy]))
    rw [List.flatMap_cons, ih, hx]
    by_cases hj : j = 0
    · subst hj; simp
    · rw [if_neg (by omega), if_neg hj, if_neg hj]; rfl
theorem tellS_p0 (l : List Bs) : P0 (tellS 0 l) := by
  unfold tellS
  split
  · exact p0_nil
  · intro x hx; simp at hx; subst hx; rfl
theorem cat_tell (p : Int) (l : List Bs) : cat (tellS p l) = joinS l := by
  unfold tellS
  split
  · rename_i h; subst h; rfl
  · simp [cat]

theorem joinS_one (x : Bs) : joinS [x] = x ++ [10] := by simp [joinS]

def uPiece (l : Bs) (n : Nat) : Bs := Lib.itoa (n : Int) ++ [32] ++ l ++ [10]
def uRun (fin : Bool) : Bs → Nat → List Bs → Bs
  | l, n, [] => if fin = true then uPiece l n else []
  | l, n, x :: r => if x = l then uRun fin l (n + 1) r else uPiece l n ++ uRun fin x 1 r
def uRun0 : Bs → List Bs → Bs
  | _, [] => []
  | l, x :: r => if x = l then uRun0 l r else x ++ [10] ++ uRun0 x r
/-- The document's text: counts, whether the input has ended, the lines. -/
def uniqText (c fin : Bool) : List Bs → Bs
  | [] => []
  | l :: r => if c = true then uRun fin l 1 r else l ++ [10] ++ uRun0 l r

theorem uRun_skip (fin : Bool) (l : Bs) (r : List Bs) : ∀ m n, uRun fin l n (List.replicate m l ++ r) = uRun fin l (n + m) r := by
  intro m
  induction m with
  | zero => intro n; rfl
  | succ m ih =>
    intro n
    rw [List.replicate_succ, List.cons_append, uRun, if_pos rfl, ih, show n + 1 + m = n + (m + 1) by omega]
theorem uRun0_skip (l : Bs) (r : List Bs) : ∀ m, uRun0 l (List.replicate m l ++ r) = uRun0 l r := by
  intro m
  induction m with
  | zero => rfl
  | succ m ih => rw [List.replicate_succ, List.cons_append, uRun0, if_pos rfl, ih]

/-- One group: what the document says of it. -/
theorem uniqText_group (c fin : Bool) (l : Bs) (m : Nat) (r : List Bs) (hr : r.head? ≠ some l) :
    uniqText c fin (List.replicate (m + 1) l ++ r) = (if c = false then l ++ [10] else if r ≠ [] ∨ fin = true then uPiece l (m + 1) else []) ++ uniqText c fin r := by
  rw [List.replicate_succ, List.cons_append]
  cases c with
  | true =>
    simp only [uniqText, if_true]
    rw [uRun_skip]
    cases r with
    | nil =>
      cases fin
      · simp [uRun]
      · simp [uRun, Nat.add_comm]
    | cons x r =>
      have hx : ¬ x = l := fun e => hr (by simp [e])
      rw [uRun, if_neg hx]
      simp [Nat.add_comm]
  | false =>
    simp only [uniqText]
    rw [uRun0_skip]
    cases r with
    | nil => simp [uRun0]
    | cons x r =>
      have hx : ¬ x = l := fun e => hr (by simp [e])
      rw [uRun0, if_neg hx]
      simp

theorem uniqK_each (t : UT) (l : Bs) : uniqK.each t l = if 0 < t.n ∧ l = t.last then ([], { t with n := wrap64 (t.n + 1) }) else (if t.counts = true then uGroup t else tellS 0 [l], { t with last := l, n := 1 }) := rfl
theorem uniqK_last (t : UT) : uniqK.last t = (uGroup t, { t with n := 0 }) := rfl
theorem uGroup_p0 (t : UT) : P0 (uGroup t) := by
  unfold uGroup
  split
  · exact p0_nil
  · exact tellS_p0 _
theorem uGroup_cat (l : Bs) (n : Nat) (hn : 1 ≤ n) : cat (uGroup ⟨true, l, n⟩) = uPiece l n := by
  unfold uGroup
  rw [if_neg (by simp; omega), cat_tell, joinS_one]
  rfl
theorem wrap64_small (n : Nat) (h : n ≤ 1000000) : wrap64 ((n : Int) + 1) = ((n + 1 : Nat) : Int) := by unfold wrap64; omega

theorem each_p0 (ls : List Bs) : ∀ t, P0 (eachAll uniqK t ls).1 := by
  induction ls with
  | nil => intro t; exact p0_nil
  | cons l r ih =>
    intro t
    rw [eachAll]
    refine p0_append ?_ (ih _)
    rw [uniqK_each]
    split
    · exact p0_nil
    · dsimp only
      split
      · exact uGroup_p0 t
      · exact tellS_p0 _

theorem run_count (fin : Bool) (r : List Bs) : ∀ (l : Bs) (n : Nat), 1 ≤ n → n + r.length ≤ 1000000 →
    cat ((eachAll uniqK ⟨true, l, n⟩ r).1 ++ (if fin = true then (uniqK.last (eachAll uniqK ⟨true, l, n⟩ r).2).1 else [])) = uRun fin l n r := by
  induction r with
  | nil =>
    intro l n h1 _
    simp only [eachAll, List.nil_append, uRun]
    split
    · exact uGroup_cat l n h1
    · rfl
  | cons x r ih =>
    intro l n h1 h2
    simp only [List.length_cons] at h2
    rw [eachAll, uniqK_each, uRun]
    by_cases hx : x = l
    · rw [if_pos ⟨by dsimp only; omega, hx⟩, if_pos hx]
      dsimp only
      rw [wrap64_small n (by omega), List.nil_append]
      exact ih l (n + 1) (by omega) (by omega)
    · rw [if_neg (fun h => hx h.2), if_neg hx]
      dsimp only
      rw [if_pos rfl, List.append_assoc, cat_append, uGroup_cat l n h1]
      exact congrArg _ (ih x 1 (by omega) (by omega))

theorem run_plain (fin : Bool) (r : List Bs) : ∀ (l : Bs) (n : Nat), 1 ≤ n → n + r.length ≤ 1000000 →
    cat ((eachAll uniqK ⟨false, l, n⟩ r).1 ++ (if fin = true then (uniqK.last (eachAll uniqK ⟨false, l, n⟩ r).2).1 else [])) = uRun0 l r := by
  induction r with
  | nil =>
    intro l n h1 _
    simp only [eachAll, List.nil_append, uRun0]
    split
    · simp [uGroup, cat]
    · rfl
  | cons x r ih =>
    intro l n h1 h2
    simp only [List.length_cons] at h2
    rw [eachAll, uniqK_each, uRun0]
    by_cases hx : x = l
    · rw [if_pos ⟨by dsimp only; omega, hx⟩, if_pos hx]
      dsimp only
      rw [wrap64_small n (by omega), List.nil_append]
      exact ih l (n + 1) (by omega) (by omega)
    · rw [if_neg (fun h => hx h.2), if_neg hx]
      dsimp only
      rw [if_neg (by simp), List.append_assoc, cat_append, cat_tell, joinS_one]
      exact congrArg _ (ih x 1 (by omega) (by omega))

/-- What comes of lines, from the start on. -/
theorem uniq_run (c fin : Bool) (ls : List Bs) (h : ls.length ≤ 100000) :
    cat ((eachAll uniqK ⟨c, [], 0⟩ ls).1 ++ (if fin = true then (uniqK.last (eachAll uniqK ⟨c, [], 0⟩ ls).2).1 else [])) = uniqText c fin ls := by
  cases ls with
  | nil =>
    simp only [eachAll, List.nil_append, uniqText]
    split
    · simp [uGroup, cat]
    · rfl
  | cons l r =>
    simp only [List.length_cons] at h
    rw [eachAll, uniqK_each, if_neg (by simp)]
    cases c with
    | true =>
      have e : uGroup ⟨true, [], 0⟩ = [] := by simp [uGroup]
      simp only [uniqText, if_true]
      rw [e, List.nil_append]
      exact run_count fin r l 1 (by omega) (by omega)
    | false =>
      simp only [uniqText]
      rw [if_neg (by simp), List.append_assoc, cat_append, cat_tell, joinS_one]
      exact congrArg _ (run_plain fin r l 1 (by omega) (by omega))

/-- What uniq's stage of these parameters starts with. -/
def uniq0 (n : Int) : UT := ⟨n == 1, [], 0⟩

theorem uniq_ui0 (n : Int) : UI (uniq0 n) := ⟨by simp [uniq0], by simp [uniq0], by simp [uniq0]⟩

theorem uGroup_sum2 (t : UT) (h : UI t) : ((uGroup t).map fun o => o.2.length).sum ≤ t.last.length + 23 := by
  unfold uGroup
  split
  · simp
  · rw [tellS_sum]
    have h1 := Lib.itoa_length_le t.n h.2.1 h.2.2
    simp [joinS]
    omega

theorem ok_p0 (o : Outs) (h : P0 o) (h1 : ∀ x ∈ o, x.2 ≠ []) (h2 : (o.map fun x => x.2.length).sum ≤ 1024) : OkOuts o :=
  ⟨h2, fun x hx => by have := h x hx; exact ⟨by omega, by omega, h1 x hx⟩⟩
theorem tellS_ne (p : Int) (l : List Bs) : ∀ x ∈ tellS p l, x.2 ≠ [] := by
  unfold tellS
  split
  · intro x h; cases h
  · rename_i h
    intro x hx
    simp at hx
    subst hx
    cases l with
    | nil => exact absurd rfl h
    | cons a r => simp [joinS]
theorem uGroup_ne (t : UT) : ∀ x ∈ uGroup t, x.2 ≠ [] := by
  unfold uGroup
  split
  · intro x h; cases h
  · exact tellS_ne _ _
theorem each_ne (t : UT) (l : Bs) : ∀ x ∈ (uniqK.each t l).1, x.2 ≠ [] := by
  rw [uniqK_each]
  split
  · intro x h; cases h
  · dsimp only
    split
    · exact uGroup_ne t
    · exact tellS_ne _ _
theorem eachAll_ne (ls : List Bs) : ∀ t, ∀ x ∈ (eachAll uniqK t ls).1, x.2 ≠ [] := by
  induction ls with
  | nil => intro t x h; cases h
  | cons l r ih =>
    intro t x hx
    rw [eachAll] at hx
    rcases List.mem_append.1 hx with h | h
    · exact each_ne t l x h
    · exact ih _ x h

theorem each_sum (t : UT) (l : Bs) (h : UI t) (hl : l.length ≤ 64) : ((uniqK.each t l).1.map fun o => o.2.length).sum + (uniqK.each t l).2.last.length ≤ t.last.length + 2 * l.length + 23 := by
  rw [uniqK_each]
  split
  · rename_i hh; simp
    omega
  · dsimp only
    split
    · have := uGroup_sum2 t h; omega
    · rw [tellS_sum]; simp [joinS]; omega
theorem eachAll_sum (ls : List Bs) : ∀ t, UI t → (∀ l ∈ ls, l.length ≤ 64) → ((eachAll uniqK t ls).1.map fun o => o.2.length).sum ≤ t.last.length + 2 * (ls.map List.length).sum + 23 * ls.length := by
  induction ls with
  | nil => intro t _ _; simp [eachAll]
  | cons l r ih =>
    intro t h hl
    have h1 := each_sum t l h (hl l (by simp))
    have h2 := ih (uniqK.each t l).2 (uniq_small.keep t l h (hl l (by simp))) (fun x hx => hl x (by simp [hx]))
    show (((uniqK.each t l).1 ++ (eachAll uniqK (uniqK.each t l).2 r).1).map _).sum ≤ _
    rw [List.map_append, List.sum_append, List.map_cons, List.sum_cons, List.length_cons]
    omega

theorem uniq_ok : LKok uniqK UI 64 where
  each t l h hl := uniq_small.keep t l h hl
  okEach t ls h hl h1 h2 := ok_p0 _ (each_p0 ls t) (eachAll_ne ls t) (by
    have := eachAll_sum ls t h hl
    have := h.1
    omega)
  okLast t b h hb := by
    split
    · rw [uniqK_last]
      exact ok_p0 _ (p0_append p0_nil (uGroup_p0 _)) (by simpa using uGroup_ne t) (by have := uGroup_sum2 t h; have := h.1; simp; omega)
    · have hk := uniq_small.keep t b h hb
      have hs := each_sum t b h hb
      have hs2 := uGroup_sum2 _ hk
      have h3 := each_p0 [b] t
      simp only [eachAll, List.append_nil] at h3
      rw [uniqK_last]
      refine ok_p0 _ (p0_append h3 (uGroup_p0 _)) (fun x hx => ?_) ?_
      · rcases List.mem_append.1 hx with hx | hx
        · exact each_ne t b x hx
        · exact uGroup_ne _ x hx
      · have := h.1
        have h4 : ((uniqK.each t b).1.map fun o => o.2.length).sum + ((uGroup (uniqK.each t b).2).map fun o => o.2.length).sum ≤ 1024 := by omega
        rw [List.map_append, List.sum_append]
        exact h4
  held t h := by
    have := h.1
    show 0 ≤ (t.last.length : Int) ∧ (t.last.length : Int) ≤ (64 : Nat)
    omega
  heldLast t h := by
    have := h.1
    show 0 ≤ (t.last.length : Int) ∧ (t.last.length : Int) ≤ (64 : Nat)
    omega

/-- What the document says of uniq. -/
def uniqMeans (n : Int) (s : Strm) : List Strm := refOut (uniqText (n == 1) (refLines s).all (refLines s).lines) (refLines s).all (refLines s).code (refLines s).stage (refLines s).id

abbrev uniqDen (n : Int) (s : Strm) : Den := linesDen uniqK (uniq0 n) s

theorem uniq_outs (n : Int) (s : Strm) (hs : s.bs.length ≤ 50000) (j : Nat) : (uniqDen n s).outs j = if j = 0 then uniqText (n == 1) (refLines s).all (refLines s).lines else [] := by
  have hr := linesAll_ref uniqK (uniq0 n) s
  have hl := (refLines_sum s).2
  show collect (fun _ => []) (linesAll uniqK (uniq0 n) s).1 j = _
  rw [hr]
  dsimp only
  rw [collect_p0, ← uniq_run (n == 1) (refLines s).all (refLines s).lines (by omega)]
  · rfl
  · refine p0_append (each_p0 _ _) ?_
    split
    · exact uGroup_p0 _
    · exact p0_nil

theorem uniq_same (n : Int) (s : Strm) (hs : s.bs.length ≤ 50000) : SameOk (uniqDen n s) [s] (uniqMeans n s) :=
  lines_same _ _ _ _ (uniq_outs n s hs)

theorem uniq_drive (n : Int) (s : Strm) (hs : s.bs.length ≤ 50000) (cuts : List Int) : DEnd uniqK.mach (uniqDen n s) 128 (drive uniqK.mach { over := false, beg := [], t := uniq0 n } [s] cuts) :=
  lines_dend uniqK UI 64 uniq_ok (uniq0 n) (uniq_ui0 n) s cuts hs (fun t => by show 0 ≤ (t.last.length : Int); omega)
end Go.Proofs.YtfbfcehjlaallaaDoor
