/- The contracts of line.Join and filter.Tell: lines with their ends; the same to an output. -/
import Derived.Test.YtdhmlojodihjkaaSpl
import Derived.Lib.AppendStr
namespace Go.Proofs.Ytdhmlojodihjkaa
open Go Go.RowKit

/-- Lines, each with its end. -/
def joinS (l : List Bs) : Bs := l.flatMap fun x => x ++ [10]

theorem joinS_snoc (l : List Bs) (x : Bs) : joinS (l ++ [x]) = joinS l ++ x ++ [10] := by simp [joinS]
theorem joinS_take (l : List Bs) (k : Nat) : (joinS (l.take k)).length ≤ (joinS l).length := by
  have : joinS l = joinS (l.take k) ++ joinS (l.drop k) := by
    unfold joinS
    rw [← List.flatMap_append, List.take_append_drop]
  rw [this]; simp

theorem strCells_u8s (x : Bs) : Lib.strCells ⟨x.toArray⟩ = u8s x := rfl
theorem u8s_append (a b : Bs) : u8s (a ++ b) = u8s a ++ u8s b := by simp [u8s]
theorem u8s_length (a : Bs) : (u8s a).length = a.length := by simp [u8s]
theorem info_u8 : (Try.prog.info? 5).map (fun i => (i.zero, i.size, i.bytes)) = some (some (.int .u8 0), 1, 1) := by kernel_rfl

/-- Bytes that can be read. -/
def BsAt (w : World) (D : Nat → Prop) (v : Value) (bs : Bs) : Prop := ∃ A c, v = .slice A bs.length c ∧ Rd w D 1 A bs.length (u8s bs)
theorem BsAt.chg {w w' : World} {D S : Nat → Prop} {v : Value} {bs : Bs} (h : BsAt w D v bs) (hb : Chg S w w') (hD : ∀ k, D k → k < w.heap.size → ¬ S k) : BsAt w' D v bs := by
  obtain ⟨A, c, rfl, hr⟩ := h
  exact ⟨A, c, rfl, hr.chg hb hD⟩
theorem BsAt.mono {w : World} {D D' : Nat → Prop} {v : Value} {bs : Bs} (h : BsAt w D v bs) (hD : ∀ k, D k → k < w.heap.size → D' k) : BsAt w D' v bs := by
  obtain ⟨A, c, rfl, hr⟩ := h
  exact ⟨A, c, rfl, hr.mono hD⟩
theorem BsAt.of_own {w : World} {base : Nat} {e : TypeId} {v : Value} {bs : Bs} (h : w.ownsRow base e 1 v bs.length (u8s bs)) : BsAt w (fun k => base ≤ k) v bs := by
  rcases h.2 with ⟨rfl, h0⟩ | ⟨g, cap, cur, rfl, _⟩
  · obtain rfl := List.eq_nil_of_length_eq_zero h0
    exact ⟨none, 0, rfl, Rd.nil _ _ _ _⟩
  · exact ⟨_, _, rfl, Rd.of_own h⟩

/-- The Outs of an answer, that can be read. -/
def OutsAt (w : World) (D : Nat → Prop) (v : Value) (l : Outs) : Prop :=
  ∃ (A : Option Addr) (c : Nat) (its : List (Int × Value × Bs)), v = .slice A l.length c ∧ l = its.map (fun t => (t.1, t.2.2)) ∧
    Rd w D 2 A l.length (its.flatMap fun t => [.int .i64 t.1, t.2.1]) ∧ ∀ t ∈ its, BsAt w D t.2.1 t.2.2
theorem OutsAt.chg {w w' : World} {D S : Nat → Prop} {v : Value} {l : Outs} (h : OutsAt w D v l) (hb : Chg S w w') (hD : ∀ k, D k → k < w.heap.size → ¬ S k) : OutsAt w' D v l := by
  obtain ⟨A, c, its, rfl, hl, hr, hi⟩ := h
  exact ⟨A, c, its, rfl, hl, hr.chg hb hD, fun t ht => (hi t ht).chg hb hD⟩
theorem OutsAt.mono {w : World} {D D' : Nat → Prop} {v : Value} {l : Outs} (h : OutsAt w D v l) (hD : ∀ k, D k → k < w.heap.size → D' k) : OutsAt w D' v l := by
  obtain ⟨A, c, its, rfl, hl, hr, hi⟩ := h
  exact ⟨A, c, its, rfl, hl, hr.mono hD, fun t ht => (hi t ht).mono hD⟩
theorem OutsAt.nil (w : World) (D : Nat → Prop) (A : Option Addr) (c : Nat) : OutsAt w D (.slice A 0 c) [] := ⟨A, c, [], rfl, rfl, Rd.nil _ _ _ _, fun _ h => by cases h⟩

theorem flat2 (its : List (Int × Value × Bs)) : ∀ m (h : m < its.length), (its.flatMap fun t => [Value.int .i64 t.1, t.2.1])[2 * m]? = some (.int .i64 (its[m]'h).1) ∧ (its.flatMap fun t => [Value.int .i64 t.1, t.2.1])[2 * m + 1]? = some (its[m]'h).2.1 := by
  induction its with
  | nil => intro m h; simp at h
  | cons t r ih =>
    intro m h
    cases m with
    | zero => simp
    | succ m =>
      have := ih m (by simpa using h)
      have e1 : 2 * (m + 1) = 2 * m + 1 + 1 := by omega
      have e2 : 2 * (m + 1) + 1 = 2 * m + 1 + 1 + 1 := by omega
      simp only [List.flatMap_cons, List.cons_append, List.nil_append, e1, List.getElem?_cons_succ, List.getElem_cons_succ]
      exact this

theorem OutsAt.one {w : World} {B : Nat} {v : Value} {bs : Bs} {T : TypeId} (port : Int) (hB : B ≤ w.heap.size) (h : BsAt w (fun k => B ≤ k) v bs) :
    OutsAt (w.alloc (.cells #[.int .i64 port, v] T)) (fun k => B ≤ k) (.slice (some ⟨w.heap.size, 0, none⟩) 1 1) [(port, bs)] := by
  refine ⟨some ⟨w.heap.size, 0, none⟩, 1, [(port, v, bs)], rfl, rfl, ⟨rfl, fun _ => ⟨w.heap.size, 0, rfl, by simp, hB, fun j u hu => ?_⟩⟩, fun t ht => ?_⟩
  · rw [Nat.zero_add, cell_of_row _ _ j _ _ (0, 0) (heap_alloc_new w _)]
    simpa using hu
  · simp at ht
    subst ht
    exact h.chg ((Chg.refl (fun _ => False) w).alloc _) (fun _ _ _ h => h)

def tellS (port : Int) (l : List Bs) : Outs := if l = [] then [] else [(port, joinS l)]

end Go.Proofs.Ytdhmlojodihjkaa
