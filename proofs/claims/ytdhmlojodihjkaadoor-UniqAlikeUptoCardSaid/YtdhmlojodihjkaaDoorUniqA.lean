/- Runs of lines that are alike: what uniq's two texts say of them. -/
import Derived.Test.YtdhmlojodihjkaaDoorUniqP
import Derived.Test.YtdhmlojodihjkaaDoorDig
namespace Go.Proofs.YtdhmlojodihjkaaDoor
open Go Go.RowKit

def runs : List Bs → List (Bs × Nat)
  | [] => []
  | x :: r => match runs r with
    | [] => [(x, 1)]
    | p :: t => if x = p.1 then (p.1, p.2 + 1) :: t else (x, 1) :: p :: t
def flat (g : List (Bs × Nat)) : List Bs := g.flatMap fun p => List.replicate p.2 p.1
/-- Neighbours are unlike. -/
def RApart : List (Bs × Nat) → Prop
  | [] => True
  | [_] => True
  | a :: b :: t => a.1 ≠ b.1 ∧ RApart (b :: t)

theorem runs_cons (x : Bs) (r : List Bs) : runs (x :: r) = match runs r with
    | [] => [(x, 1)]
    | p :: t => if x = p.1 then (p.1, p.2 + 1) :: t else (x, 1) :: p :: t := rfl

theorem runs_ok (l : List Bs) : flat (runs l) = l ∧ (∀ p ∈ runs l, 1 ≤ p.2) ∧ RApart (runs l) := by
  induction l with
  | nil => exact ⟨rfl, fun p h => (by cases h), trivial⟩
  | cons x r ih =>
    obtain ⟨h1, h2, h3⟩ := ih
    rw [runs_cons]
    cases hr : runs r with
    | nil =>
      rw [hr] at h1
      have : r = [] := h1.symm
      subst this
      exact ⟨rfl, fun p hp => by simp at hp; subst hp; exact Nat.le_refl _, trivial⟩
    | cons p t =>
      rw [hr] at h1 h2 h3
      dsimp only
      by_cases hx : x = p.1
      · rw [if_pos hx]
        refine ⟨?_, fun q hq => ?_, ?_⟩
        · have e : flat ((p.1, p.2 + 1) :: t) = p.1 :: flat (p :: t) := by simp [flat, List.replicate_succ]
          rw [e, h1, hx]
        · rcases List.mem_cons.1 hq with rfl | hq
          · dsimp only; omega
          · exact h2 q (by simp [hq])
        · cases t with
          | nil => trivial
          | cons q t => exact ⟨h3.1, h3.2⟩
      · rw [if_neg hx]
        refine ⟨?_, fun q hq => ?_, hx, h3⟩
        · have e : flat ((x, 1) :: p :: t) = x :: flat (p :: t) := by simp [flat]
          rw [e, h1]
        · rcases List.mem_cons.1 hq with rfl | hq
          · exact Nat.le_refl _
          · exact h2 q hq

theorem uniqText_runs (c : Bool) (g : List (Bs × Nat)) (hp : ∀ p ∈ g, 1 ≤ p.2) (ha : RApart g) : uniqText c true (flat g) = g.flatMap fun p => if c = false then p.1 ++ [10] else uPiece p.1 p.2 := by
  induction g with
  | nil => rfl
  | cons p t ih =>
    have h1 := hp p (by simp)
    obtain ⟨m, hm⟩ : ∃ m, p.2 = m + 1 := ⟨p.2 - 1, by omega⟩
    have ht : RApart t := by
      cases t with
      | nil => trivial
      | cons q t => exact ha.2
    have hh : (flat t).head? ≠ some p.1 := by
      cases t with
      | nil => simp [flat]
      | cons q t =>
        have h2 := hp q (by simp)
        obtain ⟨k, hk⟩ : ∃ k, q.2 = k + 1 := ⟨q.2 - 1, by omega⟩
        have e : flat (q :: t) = q.1 :: (List.replicate k q.1 ++ flat t) := by simp [flat, hk, List.replicate_succ]
        rw [e]
        simp only [List.head?_cons]
        intro h
        exact ha.1 (Option.some.inj h).symm
    have e : flat (p :: t) = List.replicate (m + 1) p.1 ++ flat t := by simp [flat, hm]
    rw [e, uniqText_group c true p.1 m (flat t) hh, ih (fun q hq => hp q (by simp [hq])) ht, List.flatMap_cons, hm]
    congr 1
    by_cases hc : c = false
    · simp [hc]
    · simp [hc]

theorem runs_mem (l : List Bs) : ∀ p ∈ runs l, p.1 ∈ l := by
  intro p hp
  have h := runs_ok l
  rw [← h.1]
  have h1 := h.2.1 p hp
  exact List.mem_flatMap.2 ⟨p, hp, by rw [List.mem_replicate]; exact ⟨by omega, rfl⟩⟩
theorem flat_len (g : List (Bs × Nat)) : (flat g).length = (g.map fun p => p.2).sum := by
  induction g with
  | nil => rfl
  | cons p t ih => simp only [flat, List.flatMap_cons, List.length_append, List.length_replicate, List.map_cons, List.sum_cons]; rw [← ih]; rfl

/-- Of any input that has ended, without a line that is too long. -/
theorem alike_texts (bs : Bs) :
    uniqText false true (refLines ⟨bs, true, 0, 0, 0⟩).lines = (runs (refLines ⟨bs, true, 0, 0, 0⟩).lines).flatMap (fun p => p.1 ++ [10]) ∧
    uniqText true true (refLines ⟨bs, true, 0, 0, 0⟩).lines = (runs (refLines ⟨bs, true, 0, 0, 0⟩).lines).flatMap (fun p => uPiece p.1 p.2) ∧
    refLines ⟨uniqText false true (refLines ⟨bs, true, 0, 0, 0⟩).lines, true, 0, 0, 0⟩ = ⟨(runs (refLines ⟨bs, true, 0, 0, 0⟩).lines).map (fun p => p.1), true, 0, 0, 0⟩ := by
  have hl := refLines_ok ⟨bs, true, 0, 0, 0⟩
  generalize (refLines ⟨bs, true, 0, 0, 0⟩).lines = l at *
  have hr := runs_ok l
  have h1 := uniqText_runs false (runs l) hr.2.1 hr.2.2
  have h2 := uniqText_runs true (runs l) hr.2.1 hr.2.2
  rw [hr.1] at h1 h2
  simp only [if_true] at h1
  simp at h2
  refine ⟨h1, h2, ?_⟩
  rw [h1]
  have e : ((runs l).flatMap fun p => p.1 ++ [10]) = ((runs l).map fun p => p.1).flatMap fun x => x ++ [10] := by simp [List.flatMap_map]
  rw [e, refLines_join _ (fun x hx => ?_)]
  obtain ⟨p, hp, rfl⟩ := List.mem_map.1 hx
  exact hl _ (runs_mem l p hp)
end Go.Proofs.YtdhmlojodihjkaaDoor
