/- The contract of strings.Join: the texts, one behind the other, the separator between them. -/
import Derived.Test.YtamhebjejgcbjaaQueue
import Derived.Shelf.Strings.OnBuilder
namespace Go.Proofs.Ytamhebjejgcbjaa
open Go Go.Shelf Go.RowKit

def Try.lays156_ren : Go.Shelf.Ren := ⟨fun | 156 => 163 | 165 => 168 | 166 => 169 | 169 => 170 | 240 => 171 | 241 => 172 | 276 => 173 | 277 => 174 | n => n, fun | 31 => 47 | 9 => 9 | 3 => 3 | 4 => 4 | 0 => 0 | 20 => 20 | 72 => 217 | 76 => 220 | 70 => 215 | 37 => 22 | 75 => 219 | 127 => 174 | 164 => 222 | 5 => 5 | 80 => 165 | n => n, fun | n => n⟩
theorem Try.lays156 : Go.Proofs.Lays.n156 Try.prog Try.lays156_ren := {
  mixed := by kernel_rfl
  f156 := Try.func163.trans (congrArg some (by kernel_rfl))
  f165 := Try.func168.trans (congrArg some (by kernel_rfl))
  f166 := Try.func169.trans (congrArg some (by kernel_rfl))
  f169 := Try.func170.trans (congrArg some (by kernel_rfl))
  f240 := Try.func171.trans (congrArg some (by kernel_rfl))
  f241 := Try.func172.trans (congrArg some (by kernel_rfl))
  f276 := Try.func173.trans (congrArg some (by kernel_rfl))
  f277 := Try.func174.trans (congrArg some (by kernel_rfl))
  t0 := Try.underlying0
  a0 := Try.isAgg0
  z0 := Try.sizeOf0
  v0 := Try.zeroValue0
  t3 := Try.underlying3
  a3 := Try.isAgg3
  z3 := Try.sizeOf3
  v3 := Try.zeroValue3
  t4 := Try.underlying4
  a4 := Try.isAgg4
  z4 := Try.sizeOf4
  v4 := Try.zeroValue4
  t9 := Try.underlying9
  a9 := Try.isAgg9
  z9 := Try.sizeOf9
  v9 := Try.zeroValue9
  t20 := Try.underlying20
  a20 := Try.isAgg20
  z20 := Try.sizeOf20
  v20 := Try.zeroValue20
  t31 := Try.underlying47
  a31 := Try.isAgg47
  z31 := Try.sizeOf47
  v31 := Try.zeroValue47
  t37 := Try.underlying22
  a37 := Try.isAgg22
  z37 := Try.sizeOf22
  v37 := Try.zeroValue22
  t70 := Try.underlying215
  a70 := Try.isAgg215
  z70 := Try.sizeOf215
  v70 := Try.zeroValue215
  t72 := Try.underlying217
  a72 := Try.isAgg217
  z72 := Try.sizeOf217
  v72 := Try.zeroValue217
  t75 := Try.underlying219
  a75 := Try.isAgg219
  z75 := Try.sizeOf219
  v75 := Try.zeroValue219
  t76 := Try.underlying220
  a76 := Try.isAgg220
  z76 := Try.sizeOf220
  v76 := Try.zeroValue220
  t127 := Try.underlying174
  a127 := Try.isAgg174
  z127 := Try.sizeOf174
  v127 := Try.zeroValue174
  t164 := Try.underlying222
  a164 := Try.isAgg222
  z164 := Try.sizeOf222
  v164 := Try.zeroValue222 }
theorem Try.Builder_Extra_156 : Builder.Extra Try.prog Try.lays156_ren := {
  sizeBuilder := by kernel_rfl
  liesBuilder := by kernel_rfl
  t5 := Try.underlying5
  a5 := Try.isAgg5
  z5 := Try.sizeOf5
  v5 := Try.zeroValue5
  infoByte := by kernel_rfl
  cellsByte := by kernel_rfl
  sizeByte := by kernel_rfl
  neB5 := by decide }

theorem joinBy_lib (sep : Bs) (l : List Bs) : joinBy sep l = Lib.join l sep := by
  induction l with
  | nil => rfl
  | cons x r ih =>
    cases r with
    | nil => rw [Lib.join_one]; rfl
    | cons y r =>
      rw [joinBy, ih, Lib.join_cons, Lib.join_cons]
      simp [Lib.joinTail]

theorem sjoin_any (D : Nat → Prop) (A : Option Addr) (c : Nat) (l : List Bs) (sep : Bs) (w : World) (hr : Rd w D 1 A l.length (strs l)) (hcap : l.length ≤ c) (hl : l.length ≤ 100000) (hlen : (joinBy sep l).length ≤ 1000000000) :
    Calls Try.prog 163 #[.slice A l.length c, strv sep] w fun e w' => e = .returned (strv (joinBy sep l)) ∧ Below w.heap.size w w' := by
  rcases Nat.eq_zero_or_pos l.length with h0 | h0
  · obtain rfl : l = [] := List.eq_nil_of_length_eq_zero h0
    refine (Any.strings_Join_none Try.lays156 Try.Builder_Extra_156 A c ⟨sep.toArray⟩ w).mono ?_
    rintro e w' ⟨rfl, rfl⟩
    exact ⟨rfl, Below.refl _ _⟩
  · obtain ⟨g, o, rfl, hg, _, hc⟩ := hr.2 h0
    have hm : ((l.map fun b => (⟨b.toArray⟩ : ByteArray)).map fun x => x.data.toList) = l := by
      rw [List.map_map]
      conv => rhs; rw [← List.map_id l]
      apply List.map_congr_left
      intro b _
      simp
    have hn : (l.map fun b => (⟨b.toArray⟩ : ByteArray)).length = l.length := List.length_map ..
    have h := Any.strings_Join Try.lays156 Try.Builder_Extra_156 g o c (l.map fun b => (⟨b.toArray⟩ : ByteArray)) ⟨sep.toArray⟩ w (fun j x hx => by
      rw [List.getElem?_map] at hx
      obtain ⟨b, hb, rfl⟩ := Option.map_eq_some_iff.1 hx
      exact hc j (strv b) (by simp [strs, hb])) hg (by rw [hn]; omega) (by rw [hn]; exact hcap) (by rw [hm]; rw [joinBy_lib] at hlen; simp at hlen ⊢; omega)
    rw [hn] at h
    refine h.mono ?_
    rintro e w' ⟨rfl, hb⟩
    refine ⟨?_, hb⟩
    rw [hm, joinBy_lib]
end Go.Proofs.Ytamhebjejgcbjaa
