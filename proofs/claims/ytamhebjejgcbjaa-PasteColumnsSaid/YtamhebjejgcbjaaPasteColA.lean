/- PasteColumns: the inputs' lines in memory. -/
import Derived.Test.YtamhebjejgcbjaaPasteTold
import Derived.Test.YtamhebjejgcbjaaPasteC
import Derived.Test.YtamhebjejgcbjaaRef4
import Derived.Test.YtamhebjejgcbjaaSame
import Derived.Test.YtamhebjejgcbjaaCat4
import Derived.Deep.RegionHeld3
import Derived.Deep.DrawnRows
import Derived.BigQuiet
import Derived.Outline
namespace Go.Proofs.Ytamhebjejgcbjaa.Paste
open Go Go.RowKit

def LnsNew (w : World) (r : RdL) (e : Ending) (w' : World) : Prop :=
  ∃ (A : Option Addr) (c : Nat), e = .returned (.tuple #[.slice A r.lines.length c, .bool r.all]) ∧ Rd w' (fun k => w.heap.size ≤ k) 1 A r.lines.length (r.lines.map strv) ∧ Chg (fun _ => False) w w'

set_option maxRecDepth 100000 in
theorem lns_new (b : Bs) (A : Option Addr) (c : Nat) (w : World) (hb : Rd w (fun _ => True) 1 A b.length (u8s b)) (hcb : b.length ≤ c) (hl : b.length ≤ 1048576) :
    Calls Try.prog 29 #[.slice A b.length c] w (LnsNew w (refLines (endS b))) := by
  have hli := lines_any (fun _ => True) ⟨b, true, 0, 0, 0⟩ _ w ⟨A, c, rfl, hb, hcb⟩ (by dsimp only; omega)
  show Calls _ _ _ _ (LnsNew w (refLines ⟨b, true, 0, 0, 0⟩))
  generalize refLines ⟨b, true, 0, 0, 0⟩ = r at *
  go_enter Try.func29, Try.ntmps29
  go_wp2_with (first
    | (go_at_call 53
       refine hli.mono ?_
       rintro e1 w1 ⟨v1, rfl, hown1, hb1⟩
       obtain ⟨A5, c5, rfl, hrd1⟩ := own_rd hown1))
  have k1 : Chg (fun _ => False) w w1 := Chg.of_below hb1
  clear hown1 hb1
  go_quiet (fail)
  go_wp2
  go_ret2
  exact ⟨A5, c5, rfl, hrd1.chg (S := fun _ => False) (((Chg.refl _ _).alloc _).drewN _) (fun _ _ _ h => h), (k1.alloc _).drewN _⟩

theorem info_lns : (Try.prog.info? 47).map (fun i => (i.zero, i.size, i.bytes)) = some (some (.slice none 0 0), 1, 24) := by kernel_rfl

def colV (T : Nat → List Bs) (S : Nat → Option Addr × Nat) (k : Nat) : Value := .slice (S k).1 (T k).length (S k).2
def colRow (T : Nat → List Bs) (S : Nat → Option Addr × Nat) (m : Nat) : List Value := (List.range m).map (colV T S)
theorem colRow_succ (T : Nat → List Bs) (S : Nat → Option Addr × Nat) (m : Nat) (x : Option Addr × Nat) : colRow T (upd S m x) (m + 1) = colRow T S m ++ [.slice x.1 (T m).length x.2] := by
  unfold colRow
  rw [List.range_succ, List.map_append]
  congr 1
  · apply List.map_congr_left
    intro k hk
    have : k < m := by simpa using hk
    unfold colV upd
    rw [if_neg (by omega)]
  · simp [upd, colV]

/-- The lines of the inputs so far. -/
def ColAll (b : Nat) (T : Nat → List Bs) (m : Nat) (v : Value) (wr : World) : Prop :=
  ∃ S : Nat → Option Addr × Nat, wr.ownsRow b 47 1 v m (colRow T S m) ∧ ∀ k, k < m → Rd wr (fun j => b ≤ j ∧ v.ownBlock ≠ some j) 1 (S k).1 (T k).length ((T k).map strv)

theorem ColAll.at_ {b : Nat} {T : Nat → List Bs} {m : Nat} {v : Value} {w : World} (h : ColAll b T m v w) (hm : 0 < m) : ∃ g o c, v = .slice (some ⟨g, o, none⟩) m c ∧ g < w.heap.size ∧ ∀ k, k < m → ∃ A ca,
    w.cell? ⟨g, o + k, none⟩ = some (.slice A (T k).length ca) ∧ ∀ r (hr : r < (T k).length), ∃ g2 o2, A = some ⟨g2, o2, none⟩ ∧ g2 < w.heap.size ∧ w.cell? ⟨g2, o2 + r, none⟩ = some (strv (T k)[r]) := by
  obtain ⟨S, hown, hl⟩ := h
  obtain ⟨A, c, rfl, hrd⟩ := own_rd hown
  obtain ⟨g, o, rfl, hg, hD, hc⟩ := hrd.2 hm
  refine ⟨g, o, c, rfl, hg, fun k hk => ⟨(S k).1, (S k).2, hc k _ ?_, fun r hr => ?_⟩⟩
  · unfold colRow
    rw [List.getElem?_map, List.getElem?_range hk]; rfl
  · obtain ⟨g2, o2, u, hA, hg2, _, hu, hcell⟩ := (hl k hk).at_ hr
    rw [List.getElem?_map, List.getElem?_eq_getElem hr] at hu
    simp only [Option.map_some, Option.some.injEq] at hu
    subst hu
    exact ⟨g2, o2, hA, hg2, hcell⟩

/-- One more. -/
theorem ColAll.more {b : Nat} {T : Nat → List Bs} {m : Nat} {u v : Value} {wr w1 w2 : World} {A : Option Addr} {c : Nat} {C : Value} (hown : ∃ S : Nat → Option Addr × Nat, wr.ownsRow b 47 1 u m (colRow T S m) ∧ w2.ownsRow b 47 1 v (m + 1) (colRow T S m ++ [.slice A (T m).length c]) ∧ ∀ k, k < m → Rd wr (fun j => b ≤ j ∧ u.ownBlock ≠ some j) 1 (S k).1 (T k).length ((T k).map strv))
    (hb : b ≤ wr.heap.size) (hc1 : Chg (fun _ => False) wr w1) (hr : Rd w1 (fun k => wr.heap.size ≤ k) 1 A (T m).length ((T m).map strv)) (hg : (w1.alloc (.cells #[C] 47)).grownBy w2 u.ownBlock) (hv : v.ownBlock = u.ownBlock ∨ v.ownBlock = some (w1.heap.size + 1)) :
    ColAll b T (m + 1) v w2 ∧ Chg (fun j => b ≤ j) wr w2 := by
  obtain ⟨S, hown, hown2, hl⟩ := hown
  have hug : ∀ j, u.ownBlock = some j → b ≤ j ∧ j < wr.heap.size := fun j e => ⟨(hown.lt j e).1, (hown.lt j e).2⟩
  have hc2 : Chg (fun j => u.ownBlock = some j) (w1.alloc (.cells #[C] 47)) w2 := (Chg.refl _ _).grown hg (fun j e => .inl e)
  have hs1 := hc1.size
  have hnew : ∀ j, v.ownBlock = some j → u.ownBlock = some j ∨ j = w1.heap.size + 1 := fun j e => by
    rcases hv with h | h
    · exact .inl (h.symm.trans e)
    · exact .inr (by rw [h] at e; injection e with e; exact e.symm)
  refine ⟨⟨upd S m (A, c), by rw [colRow_succ]; exact hown2, fun j hj => ?_⟩, ((hc1.alloc _).mono (fun _ h _ => h.elim)).trans hc2 (fun j hj _ => (hug j hj).1)⟩
  by_cases hjm : j = m
  · subst hjm
    have hS : upd S j (A, c) j = (A, c) := by unfold upd; rw [if_pos rfl]
    rw [hS]
    have h1 := (hr.mono (D' := fun j => wr.heap.size ≤ j ∧ j < w1.heap.size) (fun j hj hlt => ⟨hj, hlt⟩)).chg ((Chg.refl (fun _ => False) w1).alloc (.cells #[C] 47)) (fun _ _ _ h => h)
    refine (h1.chg hc2 (fun j hj _ e => by have := (hug j e).2; omega)).mono (fun j hj _ => ⟨by omega, fun e => ?_⟩)
    rcases hnew j e with h | h
    · have := (hug j h).2; omega
    · omega
  · have hS : upd S m (A, c) j = S j := by unfold upd; rw [if_neg hjm]
    rw [hS]
    have h1 := ((hl j (by omega)).mono (D' := fun j => b ≤ j ∧ u.ownBlock ≠ some j ∧ j < wr.heap.size) (fun j hj hlt => ⟨hj.1, hj.2, hlt⟩)).chg (hc1.alloc (.cells #[C] 47)) (fun _ _ _ h => h)
    refine (h1.chg hc2 (fun j hj _ e => hj.2.1 e)).mono (fun j hj _ => ⟨hj.1, fun e => ?_⟩)
    rcases hnew j e with h | h
    · exact hj.2.1 h
    · have := hj.2.2; omega
end Go.Proofs.Ytamhebjejgcbjaa.Paste
