/- The contract of (*line.Splitter).Cut: it cuts bytes into lines as 'cutS' does. -/
import Derived.Test.YtdhmlojodihjkaaProg
import Derived.Test.YtdhmlojodihjkaaCommon
import Derived.Test.YtdhmlojodihjkaaPure
import Derived.Deep.RegionHeld3
import Derived.Deep.DrawnRows
import Derived.BigQuiet
namespace Go.Proofs.Ytdhmlojodihjkaa
open Go Go.RowKit
structure SplAt (cs : Array Value) (o : Nat) (beg : Bs) (failed : Bool) : Prop where
  le : beg.length ≤ 64
  got : ∀ i x, beg[i]? = some x → cs[o + i]? = some (.int .u8 x.toNat)
  all : ∀ i, i < 64 → ∃ x : Int, cs[o + i]? = some (.int .u8 x)
  n : cs[o + 64]? = some (.int .i64 beg.length)
  failed : cs[o + 65]? = some (.bool failed)

namespace SplAt
variable {cs : Array Value} {o : Nat} {beg : Bs} {f : Bool}
theorem lt (h : SplAt cs o beg f) : o + 65 < cs.size := by
  have := h.failed
  exact (Array.getElem?_eq_some_iff.1 this).1
/-- The begun line is told: none is begun. -/
theorem fresh (h : SplAt cs o beg f) : SplAt (cs.setIfInBounds (o + 64) (.int .i64 0)) o [] f := by
  have hl := h.lt
  refine ⟨by simp, by simp, fun i hi => ?_, ?_, ?_⟩
  · rw [Array.getElem?_setIfInBounds_ne (by omega)]; exact h.all i hi
  · rw [Array.getElem?_setIfInBounds_self_of_lt (by omega)]; simp
  · rw [Array.getElem?_setIfInBounds_ne (by omega)]; exact h.failed
/-- It has failed. -/
theorem fail (h : SplAt cs o beg f) : SplAt ((cs.setIfInBounds (o + 65) (.bool true)).setIfInBounds (o + 64) (.int .i64 0)) o [] true := by
  have hl := h.lt
  refine ⟨by simp, by simp, fun i hi => ?_, ?_, ?_⟩
  · rw [Array.getElem?_setIfInBounds_ne (by omega), Array.getElem?_setIfInBounds_ne (by omega)]; exact h.all i hi
  · rw [Array.getElem?_setIfInBounds_self_of_lt (by simp; omega)]; simp
  · rw [Array.getElem?_setIfInBounds_ne (by omega), Array.getElem?_setIfInBounds_self_of_lt (by omega)]
/-- A byte is put behind it. -/
theorem push (h : SplAt cs o beg f) (x : UInt8) (hl : beg.length < 64) :
    SplAt ((cs.setIfInBounds (o + beg.length) (.int .u8 x.toNat)).setIfInBounds (o + 64) (.int .i64 ((beg.length : Int) + 1))) o (beg ++ [x]) f := by
  have hs := h.lt
  refine ⟨by simp; omega, fun i y hy => ?_, fun i hi => ?_, ?_, ?_⟩
  · have hi : i < beg.length + 1 := by have := (List.getElem?_eq_some_iff.1 hy).1; simpa using this
    rw [Array.getElem?_setIfInBounds_ne (by omega)]
    by_cases hi2 : i = beg.length
    · subst hi2
      rw [Array.getElem?_setIfInBounds_self_of_lt (by omega)]
      simp at hy
      rw [hy]
    · rw [Array.getElem?_setIfInBounds_ne (by omega)]
      exact h.got i y (by rw [List.getElem?_append_left (by omega)] at hy; exact hy)
  · rw [Array.getElem?_setIfInBounds_ne (by omega)]
    by_cases hi2 : i = beg.length
    · subst hi2
      exact ⟨_, Array.getElem?_setIfInBounds_self_of_lt (by omega)⟩
    · rw [Array.getElem?_setIfInBounds_ne (by omega)]; exact h.all i hi
  · rw [Array.getElem?_setIfInBounds_self_of_lt (by simp; omega)]; simp
  · rw [Array.getElem?_setIfInBounds_ne (by omega), Array.getElem?_setIfInBounds_ne (by omega)]; exact h.failed
theorem far {cs' : Array Value} (h : SplAt cs o beg f) (hc : ∀ i, o ≤ i → i ≤ o + 65 → cs'[i]? = cs[i]?) : SplAt cs' o beg f :=
  ⟨h.le, fun i x hx => (hc _ (by omega) (by have := (List.getElem?_eq_some_iff.1 hx).1; have := h.le; omega)).trans (h.got i x hx), fun i hi => by rw [hc _ (by omega) (by omega)]; exact h.all i hi,
    (hc _ (by omega) (by omega)).trans h.n, (hc _ (by omega) (by omega)).trans h.failed⟩
end SplAt

def u8s (bs : Bs) : List Value := bs.map fun x => .int .u8 x.toNat
abbrev strv (bs : Bs) : Value := .string ⟨bs.toArray⟩

def CutPost (T : TypeId) (g o : Nat) (cs : Array Value) (w : World) (r : List Bs × Bs × Bool) (e : Ending) (w' : World) : Prop :=
  ∃ v cs', e = .returned (.tuple #[v, .int .i64 (if r.2.2 = true then 20 else 0)]) ∧
      Blk w' g T cs' ∧ SplAt cs' o r.2.1 r.2.2 ∧ (∀ i, i < o ∨ o + 66 ≤ i → cs'[i]? = cs[i]?) ∧ Chg (fun k => k = g) w w' ∧
      w'.ownsRow w.heap.size 9 1 v r.1.length (r.1.map strv)

theorem u8s_at {bs : Bs} {i : Nat} {x : UInt8} (h : bs[i]? = some x) : (u8s bs)[i]? = some (.int .u8 x.toNat) := by simp [u8s, h]

theorem strOfNums_u8 (bs : Bs) : strOfNums (bs.map fun x => (x.toNat : Int)) = ⟨bs.toArray⟩ := by
  unfold strOfNums
  rw [List.map_map]
  congr 2
  conv => rhs; rw [← List.map_id bs]
  apply List.map_congr_left
  intro x _
  simp

/-- string(b): the bytes of a slice, read at some world. -/
theorem conv_str {W : World} (g o c : Nat) (bs : Bs) (h : ∀ i x, bs[i]? = some x → W.cell? ⟨g, o + i, none⟩ = some (.int .u8 x.toNat)) :
    (convert 22 9 (.slice (some ⟨g, o, none⟩) bs.length c)).run Try.prog W = .ok (strv bs) W := by
  have h1 := run_convert_bytes_arg (P := Try.prog) W 22 5 Try.underlying22 Try.underlying5 g o bs.length c (bs.map fun x => (x.toNat : Int)) (by simp) (fun i hi => by
    rw [h i (bs[i]) (List.getElem?_eq_getElem hi)]; simp [List.getD, List.getElem?_eq_getElem hi]) 9 Try.underlying9
  rw [strOfNums_u8] at h1
  exact h1

theorem info_string : (Try.prog.info? 9).map (fun i => (i.zero, i.size, i.bytes)) = some (some (.string ByteArray.empty), 1, 16) := by kernel_rfl
end Go.Proofs.Ytdhmlojodihjkaa
