/- join: what its laws need of it. -/
import Derived.Test.YtkgmbomfkdkofaaJoinI
import Derived.Test.YtkgmbomfkdkofaaJoinD
import Derived.Test.YtkgmbomfkdkofaaChk2
import Derived.Test.YtkgmbomfkdkofaaReady
import Derived.Test.YtkgmbomfkdkofaaCat
import Derived.Test.YtkgmbomfkdkofaaSame
import Derived.Laws.EntriesVeiled
import Derived.Deep.RegionHeld3
import Derived.Deep.DrawnRows
import Derived.BigQuiet
import Derived.Outline
import Derived.Laws.MakeOwn
namespace Go.Proofs.Ytkgmbomfkdkofaa.Join
open Go Go.RowKit

abbrev kind : Int := 14
abbrev M : Mach := joinM
def E (_ : Nat) (_ : World) : Prop := True
def byte (p : Prm) : UInt8 := p.a.headD 0
def s0 (p : Prm) : JoS := join0 (byte p) p.n.toNat
def den (p : Prm) (ins : List Strm) : Den := joDen (byte p) p.n.toNat ins
def bound (p : Prm) : Int := 2 * (64 * p.n + 96)

def fitP (p : Prm) : Prop := refCheck p = 0 ∧ p.kind = kind

theorem E_on {B : Nat} {w w' : World} (_ : Below B w w') (_ : E B w) : E B w' := trivial

theorem fit_n {p : Prm} (h : fitP p) : 1 ≤ p.n ∧ p.n ≤ 14 ∧ p.a = [byte p] ∧ refArity p = (2, 1) ∧ refHolds p = 2 * (64 * p.n + 96) := by
  have h0 := h.1
  have hk : p.kind = 14 := h.2
  have hr := refRow_of h0
  have e1 : refArity p = (2, 1) := by unfold refArity; rw [if_neg (by simp [h0])]; simp [hk]
  simp [refRow, hk, oneB] at hr
  have hh : ¬ 2048 < refHolds p := fun hc => by
    have h1 := h0
    unfold refCheck at h1
    rw [if_neg (by rw [hk]; decide), if_neg (by rw [refRow_of h0]; decide), if_pos hc] at h1
    cases h1
  have e2 : refHolds p = 2 * (64 * p.n + 96) := by
    by_cases h100 : 100 < p.n
    · exact absurd (by unfold refHolds; rw [if_pos ⟨.inr hk, h100⟩]; decide) hh
    · unfold refHolds; rw [if_neg (fun h => h100 h.2)]; simp [hk]
  rw [e2] at hh
  have ha : p.a = [byte p] := by
    unfold byte
    have hl : p.a.length = 1 := by omega
    match p.a, hl with
    | [x], _ => rfl
  exact ⟨by omega, by omega, ha, e1, e2⟩

/-- As many inputs as are wanted. -/
def fitI (p : Prm) (ins : List Strm) : Prop := fitP p ∧ (ins.length : Int) = (refArity p).1

theorem drive_ok (p : Prm) (ins : List Strm) (h : fitI p ins) (hl : ∀ s ∈ ins, s.bs.length ≤ 4000) (cuts : List Int) : DEnd M (den p ins) (bound p) (drive M (s0 p) ins cuts) := by
  have hn := fit_n h.1
  have hi := h.2
  rw [hn.2.2.2.1] at hi
  dsimp only at hi
  have hd := join_drive (byte p) p.n.toNat (by omega) (by omega) ins (by omega) hl cuts
  have e2 : bound p = BD p.n.toNat := by unfold bound BD; omega
  rw [e2]
  exact hd

theorem bound_le (p : Prm) (h : fitP p) : bound p ≤ refHolds p := by rw [(fit_n h).2.2.2.2]; exact Int.le_refl _

theorem grow_ok (p : Prm) (a b : List Strm) (h : fitI p a) (hl : a.length = b.length) (hg : ∀ q ∈ a.zip b, Grow q.1 q.2) : GrowOk (den p a) (den p b) := by
  have hn := fit_n h.1
  have hi := h.2
  rw [hn.2.2.2.1] at hi
  dsimp only at hi
  exact join_grow (byte p) p.n.toNat a b (by omega) (by omega) hg


/-- The cells of a machine that begins. -/
def sideC : List Value := List.replicate 64 (Value.int .u8 0) ++ [Value.int .i64 0, .bool false, .slice none 0 0, .bool false, strv [], .slice none 0 0]
theorem zm : Try.zeroCells84 = ([Value.int .i64 0, .bool false, .bool false, strv [], .int .i64 0] ++ (sideC ++ (sideC ++ [Value.bool false, .bool false, .int .i64 0, .int .i64 0]))).toArray := by kernel_rfl
theorem zm_size : Try.zeroCells84.size = 149 := by kernel_rfl
theorem z0 : Try.zeroCells84[0]? = some (.int .i64 0) := by kernel_rfl
theorem z1 : Try.zeroCells84[1]? = some (.bool false) := by kernel_rfl
theorem z2 : Try.zeroCells84[2]? = some (.bool false) := by kernel_rfl
theorem z147 : Try.zeroCells84[147]? = some (.int .i64 0) := by kernel_rfl
theorem z148 : Try.zeroCells84[148]? = some (.int .i64 0) := by kernel_rfl
theorem sideC_len : sideC.length = 70 := rfl
theorem side_at {k i : Nat} (hk : k < 2) (hi : i < 70) : Try.zeroCells84[5 + k * 70 + i]? = sideC[i]? := by
  rw [zm, List.getElem?_toArray, List.getElem?_append_right (by simp; omega)]
  obtain rfl | rfl : k = 0 ∨ k = 1 := by omega
  · rw [List.getElem?_append_left (by simp only [List.length_cons, List.length_nil]; rw [sideC_len]; omega)]
    congr 1
    simp only [List.length_cons, List.length_nil]; omega
  · rw [List.getElem?_append_right (by simp only [List.length_cons, List.length_nil]; rw [sideC_len]; omega), List.getElem?_append_left (by simp only [List.length_cons, List.length_nil]; rw [sideC_len]; omega)]
    congr 1
    simp only [List.length_cons, List.length_nil]; rw [sideC_len]; omega
theorem side_u8 (i : Nat) (hi : i < 64) : sideC[i]? = some (.int .u8 0) := by
  unfold sideC
  rw [List.getElem?_append_left (by simp; omega), List.getElem?_replicate, if_pos hi]
noncomputable def newC (c : UInt8) (N : Nat) : Array Value := (((Try.zeroCells84.setIfInBounds 3 (strv [c])).setIfInBounds 4 (.int .i64 (N : Int))).setIfInBounds 145 (.bool true)).setIfInBounds 146 (.bool true)
theorem newC_ne {c : UInt8} {N i : Nat} (h3 : i ≠ 3) (h4 : i ≠ 4) (h5 : i ≠ 145) (h6 : i ≠ 146) : (newC c N)[i]? = Try.zeroCells84[i]? := by
  unfold newC
  rw [Array.getElem?_setIfInBounds_ne (Ne.symm h6), Array.getElem?_setIfInBounds_ne (Ne.symm h5), Array.getElem?_setIfInBounds_ne (Ne.symm h4), Array.getElem?_setIfInBounds_ne (Ne.symm h3)]
theorem new_side {c : UInt8} {N k i : Nat} (hk : k < 2) (hi : i < 70) : (newC c N)[5 + k * 70 + i]? = sideC[i]? := (newC_ne (by omega) (by omega) (by omega) (by omega)).trans (side_at hk hi)

/-- Where a machine begins. -/
theorem inv_new {w : World} {g B N : Nat} {c : UInt8} (hN1 : 1 ≤ N) (hN4 : N ≤ 14) (h1 : Blk w g 84 (newC c N)) (hg : B ≤ g) :
    JoInv g N B (join0 c N) (fun k => jF g (fun _ => .slice none 0 0) k) w := by
  have hk0 : JKeep N (join0 c N).a := jStart_keep N _ _ (fun _ _ l h => by cases h)
  refine ⟨fun _ => false, newC c N, fun _ => .slice none 0 0, ⟨hN1, by omega, rfl, hk0, fun _ _ => Nat.zero_le _, fun _ => .inr ⟨rfl, ⟨rfl, rfl, rfl, rfl, by show 0 < 2; omega⟩, rfl⟩⟩, fun _ _ _ => rfl, ⟨h1, ?_, ?_, ?_, ?_, ?_, fun k hk => ?_, fun k hk => ?_, fun k hk => ?_, fun k hk => ?_, ?_, ?_, fun k hk => OwnT.nil _ _ _, fun k hk => OwnT.nil _ _ _, fun i j _ _ _ x hx => by simp [Value.ownBlock] at hx, hg⟩, fun _ => Iff.rfl⟩
  · exact (newC_ne (by decide) (by decide) (by decide) (by decide)).trans z0
  · exact (newC_ne (by decide) (by decide) (by decide) (by decide)).trans z1
  · exact (newC_ne (by decide) (by decide) (by decide) (by decide)).trans z2
  · unfold newC
    rw [Array.getElem?_setIfInBounds_ne (by decide), Array.getElem?_setIfInBounds_ne (by decide), Array.getElem?_setIfInBounds_ne (by decide), Array.getElem?_setIfInBounds_self_of_lt (by rw [zm_size]; decide)]
    rfl
  · unfold newC
    rw [Array.getElem?_setIfInBounds_ne (by decide), Array.getElem?_setIfInBounds_ne (by decide), Array.getElem?_setIfInBounds_self_of_lt (by rw [Array.size_setIfInBounds, zm_size]; decide)]
    rfl
  · exact ⟨⟨by show 0 ≤ 64; omega, fun i x h => by simp [join0] at h, fun i hi => ⟨0, by rw [new_side hk (by omega), side_u8 i hi]⟩, by rw [new_side hk (by omega)]; rfl, by rw [new_side hk (by omega)]; rfl⟩, by rw [show 5 + k * 70 + 66 = 5 + k * 70 + 66 from rfl, new_side hk (by omega)]; rfl, by rw [new_side hk (by omega)]; rfl⟩
  · rw [new_side hk (by omega)]; rfl
  · rw [new_side hk (by omega)]; rfl
  · obtain rfl | rfl : k = 0 ∨ k = 1 := by omega
    · unfold newC
      rw [Array.getElem?_setIfInBounds_ne (by decide), Array.getElem?_setIfInBounds_self_of_lt (by simp only [Array.size_setIfInBounds]; rw [zm_size]; decide)]
      rfl
    · unfold newC
      rw [Array.getElem?_setIfInBounds_self_of_lt (by simp only [Array.size_setIfInBounds]; rw [zm_size]; decide)]
      rfl
  · exact (newC_ne (by decide) (by decide) (by decide) (by decide)).trans z147
  · exact (newC_ne (by decide) (by decide) (by decide) (by decide)).trans z148

set_option maxHeartbeats 1000000 in
set_option maxRecDepth 100000 in
theorem new_any (D : Nat → Prop) (p : Prm) (h : fitP p) (v : Value) (w : World) (hv : PAt w D v p) (B : Nat) (hB : B ≤ w.heap.size) (_ : E B w) :
    Calls Try.prog 16 #[v] w (NewPost 72 M (E B) B (s0 p) w) := by
  have hn := fit_n h
  have hck := fun (W : World) (hW : Chg (fun _ => False) w W) => fcheck_ok D p h.1 (by have : p.kind = 14 := h.2; omega) v W (hv.chg hW (fun _ _ _ h => h))
  rw [show p.kind = 14 from h.2] at hck
  replace hck := Lib.hid hck
  obtain ⟨A, ca, Bb, cb, rfl, hA, _⟩ := hv
  have hcv := fun (W : World) (hW : Chg (fun _ => False) w W) => conv_rd W D A p.a ca (hA.chg hW (fun _ _ _ h => h))
  replace hcv := Lib.hid hcv
  rw [show p.kind = 14 from h.2] at hck ⊢
  obtain ⟨N, hN⟩ : ∃ N : Nat, p.n = N := ⟨p.n.toNat, by omega⟩
  have hst : Blk (w.alloc (.cells #[.int .i64 14, .int .i64 p.n, .slice A p.a.length ca, .slice Bb p.b.length cb] 24)) w.heap.size 24 #[.int .i64 14, .int .i64 p.n, .slice A p.a.length ca, .slice Bb p.b.length cb] := Blk.new _ _ _
  rw [hN] at hck hst ⊢
  replace hn := Lib.hid hn
  replace hN := Lib.hid hN
  go_enter Try.func16, Try.ntmps16
  go_wp2_with (first
    | (go_at_call 28
       refine (hck.out _ ((Chg.refl _ _).alloc _)).mono ?_
       rintro e1 w1 ⟨rfl, hc1⟩
       have q1 : w1.cell? ⟨w.heap.size, 1, none⟩ = some (.int .i64 N) := ((hst.chg hc1 (fun h => h)).cell 1).trans rfl
       have q2 : w1.cell? ⟨w.heap.size, 2, none⟩ = some (.slice A p.a.length ca) := ((hst.chg hc1 (fun h => h)).cell 2).trans rfl
       have hcc : Chg (fun _ => False) w w1 := ((Chg.refl _ _).alloc _).trans hc1 (fun _ h _ => h)
       have q3 := hcv.out _ hcc))
  go_ret2
  have hn := hn.out
  have hN := hN.out
  have hs : w.heap.size + 1 ≤ w1.heap.size := by have := hc1.size; simp at this; exact this
  have es : s0 p = join0 (byte p) N := by unfold s0; rw [hN]; rfl
  rw [es, hn.2.2.1]
  refine ⟨w1.heap.size, fun k => jF w1.heap.size (fun _ => .slice none 0 0) k, rfl, ⟨_, _, _, _, _, _, _, _, _, _, _, _, _, rfl, jo_mach (g := w1.heap.size) (N := N) (B := B), inv_new (by omega) (by omega) (Blk.new w1 _ _) (by omega), trivial⟩, fun k hk => ?_, hcc.alloc _⟩
  rcases hk with rfl | ⟨_, _, hk⟩
  · omega
  · simp [Value.ownBlock] at hk
end Go.Proofs.Ytkgmbomfkdkofaa.Join
