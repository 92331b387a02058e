/- Slices of bytes, in memory; what told makes of them. -/
import Derived.Test.YtamhebjejgcbjaaReady
import Derived.Test.YtamhebjejgcbjaaLit
import Derived.Test.YtamhebjejgcbjaaRef4B
namespace Go.Proofs.Ytamhebjejgcbjaa
open Go Go.RowKit

def BssAt (w : World) (D : Nat → Prop) (v : Value) (l : List Bs) : Prop :=
  ∃ (A : Option Addr) (c : Nat) (its : List (Bs × Value)), v = .slice A l.length c ∧ l = its.map (fun t => t.1) ∧ Rd w D 1 A l.length (its.map (fun t => t.2)) ∧ ∀ t ∈ its, BsAt w D t.2 t.1 ∧ CapOk t.2
theorem BssAt.chg {w w' : World} {D S : Nat → Prop} {v : Value} {l : List Bs} (h : BssAt w D v l) (hb : Chg S w w') (hD : ∀ k, D k → k < w.heap.size → ¬ S k) : BssAt w' D v l := by
  obtain ⟨A, c, its, rfl, hl, hr, hi⟩ := h
  exact ⟨A, c, its, rfl, hl, hr.chg hb hD, fun t ht => ⟨(hi t ht).1.chg hb hD, (hi t ht).2⟩⟩
theorem BssAt.mono {w : World} {D D' : Nat → Prop} {v : Value} {l : List Bs} (h : BssAt w D v l) (hD : ∀ k, D k → k < w.heap.size → D' k) : BssAt w D' v l := by
  obtain ⟨A, c, its, rfl, hl, hr, hi⟩ := h
  exact ⟨A, c, its, rfl, hl, hr.mono hD, fun t ht => ⟨(hi t ht).1.mono hD, (hi t ht).2⟩⟩

/-- Streams that have ended. -/
def endS (b : Bs) : Strm := ⟨b, true, 0, 0, 0⟩
theorem info_strm : (Try.prog.info? 58).map (fun i => (i.zero, i.size, i.bytes)) = some (some (.agg #[.slice none 0 0, .bool false, .int .i64 0, .int .i64 0, .int .i64 0]), 5, 56) := by kernel_rfl
theorem flat_take_succ {α : Type} (f : α → List Value) (l : List α) (k : Nat) (hk : k < l.length) : (l.take (k + 1)).flatMap f = (l.take k).flatMap f ++ f l[k] := by
  rw [List.take_succ_eq_append_getElem hk, List.flatMap_append]; simp
/-- A row of api.Streams is no api.Params. -/
theorem own_not' {w : World} {g base : Nat} {cs : Array Value} {v : Value} {n : Nat} {xs : List Value} (hb : Blk w g 24 cs) (ho : w.ownsRow base 58 5 v n xs) (e : v.ownBlock = some g) : False := by
  rcases ho.2 with ⟨rfl, _⟩ | ⟨k, cap, cur, rfl, _, hh, _⟩
  · simp [Value.ownBlock] at e
  · simp [Value.ownBlock] at e
    subst e
    unfold Blk at hb
    rw [hb] at hh
    simp at hh
theorem own_not2 {w : World} {g base : Nat} {cs : Array Value} {v : Value} {n : Nat} {xs : List Value} (hb : Blk w g 42 cs) (ho : w.ownsRow base 58 5 v n xs) (e : v.ownBlock = some g) : False := by
  rcases ho.2 with ⟨rfl, _⟩ | ⟨k, cap, cur, rfl, _, hh, _⟩
  · simp [Value.ownBlock] at e
  · simp [Value.ownBlock] at e
    subst e
    unfold Blk at hb
    rw [hb] at hh
    simp at hh
theorem Blk_eq' {w : World} {g : Nat} {t : TypeId} {cs ds : Array Value} (h : Blk w g t cs) (e : cs = ds) : Blk w g t ds := e ▸ h
theorem got_set12 (a b c d : Value) (e f g h i j k l : Value) (o n er hd : _) (tk : Nat → Nat) (bd : Bool) : (((((((((((((gotC o n er hd tk bd).setIfInBounds 0 a).setIfInBounds 1 b).setIfInBounds 2 c).setIfInBounds 3 d).setIfInBounds 4 e).setIfInBounds 5 f).setIfInBounds 6 g).setIfInBounds 7 h).setIfInBounds 8 i).setIfInBounds 9 j).setIfInBounds 10 k).setIfInBounds 11 l) = #[a, b, c, d, e, f, g, h, i, j, k, l] := by simp [gotC]
end Go.Proofs.Ytamhebjejgcbjaa
