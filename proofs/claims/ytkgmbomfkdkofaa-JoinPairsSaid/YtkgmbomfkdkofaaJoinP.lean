/- join's machine, in plain Lean: lines of one key, from two inputs. -/
import Derived.Test.YtkgmbomfkdkofaaPasteR
namespace Go.Proofs.Ytkgmbomfkdkofaa
open Go

def cutBy (c : UInt8) : Bs → Bs × Bs
  | [] => ([], [])
  | x :: r => if x = c then ([], r) else (x :: (cutBy c r).1, (cutBy c r).2)
abbrev keyS (c : UInt8) (s : Bs) : Bs := (cutBy c s).1
abbrev restS (c : UInt8) (s : Bs) : Bs := (cutBy c s).2
abbrev ltB (a b : Bs) : Bool := Op.bytesLess a b
def leB (a b : Bs) : Bool := ltB a b || a == b

/-- What reading a group has come to: 0 whole, 1 waits, 2 none. -/
structure GR where
  rest : List Bs
  key : Bs
  ls : List Bs
  what : Nat
  err : Int
def jgo (c : UInt8) (N : Nat) (en : Bool) : Bs → List Bs → List Bs → GR
  | key, ls, [] => ⟨[], key, ls, if en = true then (if ls = [] then 2 else 0) else 1, 0⟩
  | key, ls, s :: r =>
    if ls = [] then jgo c N en (keyS c s) [s] r
    else if ltB (keyS c s) key = true then ⟨s :: r, key, ls, 0, 22⟩
    else if leB (keyS c s) key = false then ⟨s :: r, key, ls, 0, 0⟩
    else if ls.length = N then ⟨s :: r, key, ls, 0, 21⟩
    else jgo c N en key (ls ++ [s]) r

theorem jgo_ext (c : UInt8) (N : Nat) (en2 : Bool) (q2 : List Bs) : ∀ (q : List Bs) (key : Bs) (ls : List Bs),
    ((jgo c N false key ls q).what = 1 → (jgo c N false key ls q).rest = [] ∧ (jgo c N false key ls q).err = 0 ∧ jgo c N en2 key ls (q ++ q2) = jgo c N en2 (jgo c N false key ls q).key (jgo c N false key ls q).ls q2) ∧
    ((jgo c N false key ls q).what ≠ 1 → jgo c N en2 key ls (q ++ q2) = { jgo c N false key ls q with rest := (jgo c N false key ls q).rest ++ q2 }) := by
  intro q
  induction q with
  | nil => intro key ls; exact ⟨fun _ => ⟨rfl, rfl, rfl⟩, fun h => absurd rfl h⟩
  | cons s r ih =>
    intro key ls
    rw [List.cons_append, jgo, jgo]
    by_cases h0 : ls = []
    · rw [if_pos h0, if_pos h0]; exact ih _ _
    · rw [if_neg h0, if_neg h0]
      by_cases h1 : ltB (keyS c s) key = true
      · rw [if_pos h1, if_pos h1]; exact ⟨fun h => by simp at h, fun _ => rfl⟩
      · rw [if_neg h1, if_neg h1]
        by_cases h2 : leB (keyS c s) key = false
        · rw [if_pos h2, if_pos h2]; exact ⟨fun h => by simp at h, fun _ => rfl⟩
        · rw [if_neg h2, if_neg h2]
          by_cases h3 : ls.length = N
          · rw [if_pos h3, if_pos h3]; exact ⟨fun h => by simp at h, fun _ => rfl⟩
          · rw [if_neg h3, if_neg h3]; exact ih _ _
theorem jgo_len (c : UInt8) (N : Nat) (en : Bool) : ∀ (q : List Bs) (key : Bs) (ls : List Bs),
    (jgo c N en key ls q).rest.length ≤ q.length ∧ (ls = [] → (jgo c N en key ls q).what = 0 → (jgo c N en key ls q).rest.length < q.length) ∧ ((jgo c N en key ls q).what = 0 → (jgo c N en key ls q).ls ≠ []) ∧ (ls ≠ [] → (jgo c N en key ls q).ls ≠ []) := by
  intro q
  induction q with
  | nil =>
    intro key ls
    rw [jgo]
    refine ⟨Nat.le_refl _, fun h hw => ?_, fun hw h => ?_, fun h => h⟩
    · dsimp only at hw
      rw [if_pos h] at hw
      split at hw <;> cases hw
    · dsimp only at hw h
      rw [if_pos h] at hw
      split at hw <;> cases hw
  | cons s r ih =>
    intro key ls
    rw [jgo]
    by_cases h0 : ls = []
    · rw [if_pos h0]
      have := ih (keyS c s) [s]
      simp only [List.length_cons]
      exact ⟨by omega, fun _ _ => by omega, this.2.2.1, fun h => absurd h0 h⟩
    · rw [if_neg h0]
      by_cases h1 : ltB (keyS c s) key = true
      · rw [if_pos h1]; exact ⟨Nat.le_refl _, fun h => absurd h h0, fun _ => h0, fun h => h⟩
      · rw [if_neg h1]
        by_cases h2 : leB (keyS c s) key = false
        · rw [if_pos h2]; exact ⟨Nat.le_refl _, fun h => absurd h h0, fun _ => h0, fun h => h⟩
        · rw [if_neg h2]
          by_cases h3 : ls.length = N
          · rw [if_pos h3]; exact ⟨Nat.le_refl _, fun h => absurd h h0, fun _ => h0, fun h => h⟩
          · rw [if_neg h3]
            have := ih key (ls ++ [s])
            simp only [List.length_cons]
            exact ⟨by omega, fun h => absurd h h0, this.2.2.1, fun _ => this.2.2.2 (by simp)⟩

/-! ## Groups of two inputs -/

structure JA where
  q : Nat → List Bs
  en : Nat → Bool
  key : Nat → Bs
  ls : Nat → List Bs
  want : Nat → Bool
  pi : Nat
  pj : Nat
  over : Bool

def plS (c : UInt8) (key x y : Bs) : Bs := key ++ [c] ++ restS c x ++ [c] ++ restS c y
def pairsFrom (c : UInt8) (key : Bs) (la lb : List Bs) (i j : Nat) : List Bs :=
  match la.drop i with
  | [] => []
  | x :: r => (lb.drop j).map (plS c key x) ++ r.flatMap fun x => lb.map (plS c key x)
def advP (nb i j : Nat) : Nat × Nat := if j + 1 = nb then (i + 1, 0) else (i, j + 1)
theorem pairs_adv (c : UInt8) (key : Bs) (la lb : List Bs) (i j : Nat) (hi : i < la.length) (hj : j < lb.length) :
    pairsFrom c key la lb i j = plS c key la[i] lb[j] :: pairsFrom c key la lb (advP lb.length i j).1 (advP lb.length i j).2 := by
  unfold pairsFrom advP
  rw [List.drop_eq_getElem_cons hi]
  dsimp only
  rw [List.drop_eq_getElem_cons hj, List.map_cons, List.cons_append]
  congr 1
  by_cases h : j + 1 = lb.length
  · rw [if_pos h, List.drop_of_length_le (by omega), List.map_nil, List.nil_append]
    dsimp only
    by_cases h2 : i + 1 < la.length
    · rw [List.drop_eq_getElem_cons h2]
      dsimp only
      rw [List.drop_zero, List.flatMap_cons]
    · rw [List.drop_of_length_le (by omega)]; rfl
  · rw [if_neg h]
    dsimp only
    rw [List.drop_eq_getElem_cons hi]
theorem pairs_none (c : UInt8) (key : Bs) (la lb : List Bs) (i j : Nat) (hi : la.length ≤ i) : pairsFrom c key la lb i j = [] := by
  unfold pairsFrom
  rw [List.drop_of_length_le hi]

namespace JA
def set (s : JA) (k : Nat) (g : GR) : JA := { s with q := upd s.q k g.rest, key := upd s.key k g.key, ls := upd s.ls k g.ls }
def wk (s : JA) : Nat := if s.want 0 = true then 0 else 1
def wants (s : JA) (k : Nat) : Bool := if k = 0 then leB (s.key 0) (s.key 1) else leB (s.key 1) (s.key 0)
def next (s : JA) : JA := { s with want := s.wants, pi := 0, pj := 0, ls := fun k => if s.wants k = true then [] else s.ls k }
def grp (c : UInt8) (N : Nat) (s : JA) : GR := jgo c N (s.en s.wk) (s.key s.wk) (s.ls s.wk) (s.q s.wk)
def pairs (c : UInt8) (s : JA) : List Bs := if s.key 0 = s.key 1 then pairsFrom c (s.key 0) (s.ls 0) (s.ls 1) s.pi s.pj else []
end JA

/-- One step of it, all pairs at once: what comes out, whether it goes on, its error. -/
def aStep (c : UInt8) (N : Nat) (s : JA) : List Bs × JA × Bool × Int :=
  if s.over = true then ([], s, false, 0)
  else if s.want 0 = false ∧ s.want 1 = false then (s.pairs c, s.next, true, 0)
  else if (s.grp c N).err ≠ 0 then ([], { s.set s.wk (s.grp c N) with over := true }, false, (s.grp c N).err)
  else if (s.grp c N).what = 2 then ([], { s.set s.wk (s.grp c N) with over := true }, false, 0)
  else if (s.grp c N).what = 1 then ([], s.set s.wk (s.grp c N), false, 0)
  else ([], { s.set s.wk (s.grp c N) with want := upd s.want s.wk false }, true, 0)

def aRun (c : UInt8) (N : Nat) : Nat → JA → List Bs × JA × Int
  | 0, s => ([], s, 0)
  | f + 1, s => if (aStep c N s).2.2.1 = true then ((aStep c N s).1 ++ (aRun c N f (aStep c N s).2.1).1, (aRun c N f (aStep c N s).2.1).2) else ((aStep c N s).1, (aStep c N s).2.1, (aStep c N s).2.2.2)

def b2n (b : Bool) : Nat := if b = true then 1 else 0
/-- What is left to be done: lines, sides that are not wanted, groups that are begun. -/
def aMu (s : JA) : Nat := 2 * ((s.q 0).length + (s.q 1).length) + (b2n (!s.want 0) + b2n (!s.want 1)) + 2 * (b2n (s.want 0 && !(s.ls 0).isEmpty) + b2n (s.want 1 && !(s.ls 1).isEmpty))

theorem leB_total (a b : Bs) : leB a b = true ∨ leB b a = true := by
  have key : ∀ a b : Bs, Op.bytesLess a b = true ∨ a = b ∨ Op.bytesLess b a = true := by
    intro a
    induction a with
    | nil => intro b; cases b with | nil => exact .inr (.inl rfl) | cons y b => exact .inl rfl
    | cons x a ih =>
      intro b
      cases b with
      | nil => exact .inr (.inr rfl)
      | cons y b =>
        simp only [Op.bytesLess, Bool.or_eq_true, Bool.and_eq_true, decide_eq_true_eq, beq_iff_eq]
        rcases Nat.lt_trichotomy x.toNat y.toNat with h | h | h
        · exact .inl (.inl h)
        · have hxy : x = y := UInt8.toNat_inj.1 h
          subst hxy
          rcases ih b with h | h | h
          · exact .inl (.inr ⟨rfl, h⟩)
          · exact .inr (.inl (by rw [h]))
          · exact .inr (.inr (.inr ⟨rfl, h⟩))
        · exact .inr (.inr (.inl h))
  unfold leB
  simp only [Bool.or_eq_true, beq_iff_eq]
  rcases key a b with h | h | h
  · exact .inl (.inl h)
  · exact .inl (.inr h)
  · exact .inr (.inl h)

theorem aStep_mu (c : UInt8) (N : Nat) (s : JA) (h : (aStep c N s).2.2.1 = true) : aMu (aStep c N s).2.1 < aMu s := by
  unfold aStep at h ⊢
  by_cases h0 : s.over = true
  · rw [if_pos h0] at h; cases h
  rw [if_neg h0] at h ⊢
  by_cases h1 : s.want 0 = false ∧ s.want 1 = false
  · rw [if_pos h1]
    unfold aMu JA.next
    dsimp only
    rw [h1.1, h1.2]
    have ht := leB_total (s.key 0) (s.key 1)
    have e0 : s.wants 0 = leB (s.key 0) (s.key 1) := rfl
    have e1 : s.wants 1 = leB (s.key 1) (s.key 0) := rfl
    rw [e0, e1]
    clear e0 e1 h
    generalize leB (s.key 0) (s.key 1) = x at *
    generalize leB (s.key 1) (s.key 0) = y at *
    cases x <;> cases y <;> simp [b2n] at ht ⊢
  rw [if_neg h1] at h ⊢
  by_cases h2 : (s.grp c N).err ≠ 0
  · rw [if_pos h2] at h; cases h
  rw [if_neg h2] at h ⊢
  by_cases h3 : (s.grp c N).what = 2
  · rw [if_pos h3] at h; cases h
  rw [if_neg h3] at h ⊢
  by_cases h4 : (s.grp c N).what = 1
  · rw [if_pos h4] at h; cases h
  rw [if_neg h4]
  have hl := jgo_len c N (s.en s.wk) (s.q s.wk) (s.key s.wk) (s.ls s.wk)
  have hw0 : (s.grp c N).what = 0 := by
    have key : ∀ (en : Bool) (q : List Bs) (key : Bs) (ls : List Bs), (jgo c N en key ls q).what ≤ 2 := by
      intro en q
      induction q with
      | nil => intro key ls; rw [jgo]; dsimp only; split <;> (try split) <;> omega
      | cons s r ih =>
        intro key ls
        rw [jgo]
        split
        · exact ih _ _
        · split
          · exact Nat.zero_le _
          · split
            · exact Nat.zero_le _
            · split
              · exact Nat.zero_le _
              · exact ih _ _
    have := key (s.en s.wk) (s.q s.wk) (s.key s.wk) (s.ls s.wk)
    change (s.grp c N).what ≤ 2 at this
    omega
  have hlA : (s.grp c N).rest.length ≤ (s.q s.wk).length := hl.1
  have hlB : s.ls s.wk = [] → (s.grp c N).rest.length < (s.q s.wk).length := fun h => hl.2.1 h hw0
  clear hl h hw0
  unfold aMu JA.set
  dsimp only
  by_cases hwk : s.want 0 = true
  · have e : s.wk = 0 := by unfold JA.wk; rw [if_pos hwk]
    rw [e] at hlA hlB ⊢
    have u0 : ∀ {α : Type} (f : Nat → α) (x : α), upd f 0 x 0 = x := fun f x => by simp [upd]
    have u1 : ∀ {α : Type} (f : Nat → α) (x : α), upd f 0 x 1 = f 1 := fun f x => by simp [upd]
    rw [u0, u1, u0, u1, u1, hwk]
    by_cases hls : s.ls 0 = []
    · have := hlB hls
      simp only [b2n]
      simp only [Bool.not_true, Bool.not_false, Bool.false_and, Bool.true_and, Bool.false_eq_true, if_false, if_true]
      split <;> split <;> split <;> omega
    · have : (s.ls 0).isEmpty = false := by simpa using hls
      rw [this]
      simp only [b2n]
      simp only [Bool.not_true, Bool.not_false, Bool.false_and, Bool.true_and, Bool.false_eq_true, if_false, if_true]
      split <;> split <;> omega
  · have e : s.wk = 1 := by unfold JA.wk; rw [if_neg hwk]
    have hw1 : s.want 1 = true := by
      simp only [Bool.not_eq_true] at hwk
      cases h : s.want 1
      · exact absurd ⟨hwk, h⟩ h1
      · rfl
    rw [e] at hlA hlB ⊢
    have u0 : ∀ {α : Type} (f : Nat → α) (x : α), upd f 1 x 1 = x := fun f x => by simp [upd]
    have u1 : ∀ {α : Type} (f : Nat → α) (x : α), upd f 1 x 0 = f 0 := fun f x => by simp [upd]
    rw [u0, u1, u0, u1, u1, hw1]
    by_cases hls : s.ls 1 = []
    · have := hlB hls
      simp only [b2n]
      simp only [Bool.not_true, Bool.not_false, Bool.false_and, Bool.true_and, Bool.false_eq_true, if_false, if_true]
      split <;> split <;> split <;> omega
    · have : (s.ls 1).isEmpty = false := by simpa using hls
      rw [this]
      simp only [b2n]
      simp only [Bool.not_true, Bool.not_false, Bool.false_and, Bool.true_and, Bool.false_eq_true, if_false, if_true]
      split <;> split <;> omega

theorem aRun_fuel (c : UInt8) (N : Nat) : ∀ (f g : Nat) (s : JA), aMu s < f → aMu s < g → aRun c N f s = aRun c N g s := by
  intro f
  induction f with
  | zero => intro g s h; omega
  | succ f ih =>
    intro g s h1 h2
    cases g with
    | zero => omega
    | succ g =>
      rw [aRun, aRun]
      by_cases hc : (aStep c N s).2.2.1 = true
      · have := aStep_mu c N s hc
        rw [if_pos hc, if_pos hc, ih g _ (by omega) (by omega)]
      · rw [if_neg hc, if_neg hc]
def aAll (c : UInt8) (N : Nat) (s : JA) : List Bs × JA × Int := aRun c N (aMu s + 1) s
theorem aAll_go {c : UInt8} {N : Nat} {s : JA} (h : (aStep c N s).2.2.1 = true) : aAll c N s = ((aStep c N s).1 ++ (aAll c N (aStep c N s).2.1).1, (aAll c N (aStep c N s).2.1).2) := by
  have := aStep_mu c N s h
  unfold aAll
  rw [aRun, if_pos h, aRun_fuel c N (aMu s) (aMu (aStep c N s).2.1 + 1) _ this (by omega)]
theorem aAll_stop {c : UInt8} {N : Nat} {s : JA} (h : (aStep c N s).2.2.1 = false) : aAll c N s = ((aStep c N s).1, (aStep c N s).2.1, (aStep c N s).2.2.2) := by
  unfold aAll
  rw [aRun, if_neg (by rw [h]; decide)]
end Go.Proofs.Ytkgmbomfkdkofaa
