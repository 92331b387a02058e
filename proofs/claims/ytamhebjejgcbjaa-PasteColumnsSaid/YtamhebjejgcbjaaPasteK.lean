/- paste: what its laws need of it. -/
import Derived.Test.YtamhebjejgcbjaaPasteH
import Derived.Test.YtamhebjejgcbjaaChk2
import Derived.Test.YtamhebjejgcbjaaReady
import Derived.Test.YtamhebjejgcbjaaCat
import Derived.Test.YtamhebjejgcbjaaSame
import Derived.Laws.EntriesVeiled
import Derived.Deep.RegionHeld3
import Derived.Deep.DrawnRows
import Derived.BigQuiet
import Derived.Outline
import Derived.Laws.MakeOwn
namespace Go.Proofs.Ytamhebjejgcbjaa.Paste
open Go Go.RowKit

abbrev kind : Int := 13
abbrev M : Mach := pasteM
def E (_ : Nat) (_ : World) : Prop := True
def s0 (p : Prm) : PaS := paste0 p.a p.n.toNat
def den (p : Prm) (ins : List Strm) : Den := pasteDen p.a ins
def bound (p : Prm) : Int := 96 * p.n

def fitP (p : Prm) : Prop := refCheck p = 0 ∧ p.kind = kind

theorem E_on {B : Nat} {w w' : World} (_ : Below B w w') (_ : E B w) : E B w' := trivial

theorem fit_n {p : Prm} (h : fitP p) : 1 ≤ p.n ∧ p.n ≤ 4 ∧ p.a.length = 1 ∧ refArity p = (p.n, 1) ∧ refHolds p = 96 * p.n := by
  have h0 := h.1
  have hk : p.kind = 13 := h.2
  have hr := refRow_of h0
  have e1 : refArity p = (p.n, 1) := by unfold refArity; rw [if_neg (by simp [h0])]; simp [hk]
  have e2 : refHolds p = 96 * p.n := by unfold refHolds; simp [hk]
  simp [refRow, hk, wi, oneB] at hr
  exact ⟨by omega, by omega, by omega, e1, e2⟩

/-- As many inputs as are wanted. -/
def fitI (p : Prm) (ins : List Strm) : Prop := fitP p ∧ (ins.length : Int) = (refArity p).1

theorem drive_ok (p : Prm) (ins : List Strm) (h : fitI p ins) (hl : ∀ s ∈ ins, s.bs.length ≤ 10000) (cuts : List Int) : DEnd M (den p ins) (bound p) (drive M (s0 p) ins cuts) := by
  have hn := fit_n h.1
  have hi := h.2
  rw [hn.2.2.2.1] at hi
  dsimp only at hi
  have hd := paste_drive p.a (by omega) ins (by omega) (by omega) hl cuts
  have e : p.n.toNat = ins.length := by omega
  have e2 : bound p = ((ins.length * 96 : Nat) : Int) := by unfold bound; omega
  unfold s0
  rw [e, e2]
  exact hd

theorem bound_le (p : Prm) (h : fitP p) : bound p ≤ refHolds p := by rw [(fit_n h).2.2.2.2]; exact Int.le_refl _

theorem grow_ok (p : Prm) (a b : List Strm) (_ : fitI p a) (hl : a.length = b.length) (hg : ∀ q ∈ a.zip b, Grow q.1 q.2) : GrowOk (den p a) (den p b) := paste_grow p.a a b hl hg

theorem zq : Try.zeroCells112 = (List.replicate 64 (.int .u8 0) ++ [.int .i64 0, .bool false, .slice none 0 0, .bool false] : List Value).toArray := by kernel_rfl
theorem zq_size : Try.zeroCells112.size = 68 := by kernel_rfl
theorem zq_at (i : Nat) (h : i < 64) : Try.zeroCells112[i]! = .int .u8 0 := by
  rw [zq, getElem!_def, List.getElem?_toArray, List.getElem?_append_left (by simp; omega), List.getElem?_replicate, if_pos h]
theorem made_at (N k i : Nat) (hk : k < N) (hi : i < 68) : (madeCells Try.zeroCells112 (N * 68))[k * 68 + i]? = some Try.zeroCells112[i]! := by
  have hlt : k * 68 + i < N * 68 := by
    have : (k + 1) * 68 ≤ N * 68 := Nat.mul_le_mul_right _ hk
    omega
  unfold madeCells
  rw [Array.getElem?_map, Array.getElem?_range, if_pos hlt, zq_size]
  simp only [Option.map_some]
  rw [show (k * 68 + i) % 68 = i by omega]
theorem zq_64 : Try.zeroCells112[64]! = .int .i64 0 := by kernel_rfl
theorem zq_65 : Try.zeroCells112[65]! = .bool false := by kernel_rfl
theorem zq_66 : Try.zeroCells112[66]! = .slice none 0 0 := by kernel_rfl
theorem zq_67 : Try.zeroCells112[67]! = .bool false := by kernel_rfl
theorem made_q (N k : Nat) (hk : k < N) : QAt (madeCells Try.zeroCells112 (N * 68)) (k * 68) ⟨[], [], false⟩ false (.slice none 0 0) :=
  ⟨⟨by simp, fun i x h => by simp at h, fun i hi => ⟨0, by rw [made_at N k i hk (by omega), zq_at i hi]⟩, by rw [made_at N k 64 hk (by omega), zq_64]; rfl, by rw [made_at N k 65 hk (by omega), zq_65]⟩,
    by rw [made_at N k 66 hk (by omega), zq_66], by rw [made_at N k 67 hk (by omega), zq_67]⟩

/-- Where a machine begins. -/
theorem inv_new {w : World} {g gi B N : Nat} {b : Bs} (hN1 : 1 ≤ N) (hN4 : N ≤ 4) (hb : b.length ≤ 1) (h1 : Blk w g 91 (paC (paste0 b N) gi (.slice none 0 0))) (h2 : Blk w gi 112 (madeCells Try.zeroCells112 (N * 68))) (hg : B ≤ g) (hi : B ≤ gi) :
    PaInv g N B (paste0 b N) (fun k => paF g gi N (.slice none 0 0) (fun _ => .slice none 0 0) k) w := by
  have hlen : (paste0 b N).qs.length = N := by simp [paste0]
  have hq : ∀ (j : Nat) (q : PQ), (paste0 b N).qs[j]? = some q → j < N ∧ q = ⟨[], [], false⟩ := fun j q h => by
    have hj := (List.getElem?_eq_some_iff.1 h).1
    simp only [paste0, List.getElem?_replicate] at h
    rw [hlen] at hj
    rw [if_pos hj] at h
    injection h with h
    exact ⟨hj, h.symm⟩
  refine ⟨gi, _, _, _, ⟨hlen, hN1, hN4, by simp [paste0], hb, fun q hm => ?_, fun x hx => by simp [paste0] at hx⟩, fun _ => ⟨⟨[], [], false⟩, ?_, rfl, rfl⟩, ⟨h1, h2, fun j q h => ?_, fun j q h => ?_, OwnT.nil _ _ _, fun i j _ _ _ k hk => by simp [Value.ownBlock] at hk, fun j _ k hk => by simp [Value.ownBlock] at hk, hg, hi⟩, fun _ => Iff.rfl⟩
  · obtain ⟨j, hj, rfl⟩ := List.mem_iff_getElem.1 hm
    obtain ⟨_, e⟩ := hq j _ (List.getElem?_eq_getElem hj)
    rw [e]
    exact ⟨by simp, fun l hl => by simp at hl⟩
  · show (List.replicate N (⟨[], [], false⟩ : PQ))[0]? = _
    rw [List.getElem?_replicate, if_pos (by omega)]
  · obtain ⟨hj, rfl⟩ := hq j q h
    exact ⟨false, made_q N j hj, fun _ => rfl⟩
  · obtain ⟨hj, rfl⟩ := hq j q h
    exact OwnT.nil _ _ _

set_option maxHeartbeats 1000000 in
set_option maxRecDepth 100000 in
theorem new_any (D : Nat → Prop) (p : Prm) (h : fitP p) (v : Value) (w : World) (hv : PAt w D v p) (B : Nat) (hB : B ≤ w.heap.size) (_ : E B w) :
    Calls Try.prog 27 #[v] w (NewPost 88 M (E B) B (s0 p) w) := by
  have hn := fit_n h
  have hck := fun (W : World) (hW : Chg (fun _ => False) w W) => fcheck_ok D p h.1 (by have : p.kind = 13 := h.2; omega) v W (hv.chg hW (fun _ _ _ h => h))
  rw [show p.kind = 13 from h.2] at hck
  replace hck := Lib.hid hck
  obtain ⟨A, ca, Bb, cb, rfl, hA, _⟩ := hv
  have hcv := fun (W : World) (hW : Chg (fun _ => False) w W) => conv_rd W D A p.a ca (hA.chg hW (fun _ _ _ h => h))
  replace hcv := Lib.hid hcv
  rw [show p.kind = 13 from h.2] at hck ⊢
  obtain ⟨N, hN⟩ : ∃ N : Nat, p.n = N := ⟨p.n.toNat, by omega⟩
  have hst : Blk (w.alloc (.cells #[.int .i64 13, .int .i64 p.n, .slice A p.a.length ca, .slice Bb p.b.length cb] 24)) w.heap.size 24 #[.int .i64 13, .int .i64 p.n, .slice A p.a.length ca, .slice Bb p.b.length cb] := Blk.new _ _ _
  have hinfo : (Try.prog.info? 112).map (fun i => (i.zero.map Value.cells, i.size, i.bytes)) = some (some Try.zeroCells112, 68, 112) := by kernel_rfl
  obtain ⟨iq, hiq, hiq2⟩ := Option.map_eq_some_iff.1 hinfo
  simp only [Prod.mk.injEq] at hiq2
  obtain ⟨hz, hqs, hqb⟩ := hiq2
  obtain ⟨zq, hzq, hzc⟩ := Option.map_eq_some_iff.1 hz
  have hmk := fun (W : World) => run_make (P := Try.prog) W 89 112 iq zq Try.underlying89 hiq hzq .i64 .i64 (N : Int) (N : Int) (by omega) (Int.le_refl _) (by rw [hqb]; omega) (by omega)
  simp only [Int.toNat_natCast, hqs, hzc] at hmk
  rw [hN] at hck hst ⊢
  clear hinfo hiq hz hqs hqb hzq hzc
  replace hn := Lib.hid hn
  replace hN := Lib.hid hN
  go_enter Try.func27, Try.ntmps27
  replace hmk := Lib.hid hmk
  go_wp2_with (first
    | (go_at_call 49
       refine (hck.out _ ((Chg.refl _ _).alloc _)).mono ?_
       rintro e1 w1 ⟨rfl, hc1⟩
       have q1 : w1.cell? ⟨w.heap.size, 1, none⟩ = some (.int .i64 N) := ((hst.chg hc1 (fun h => h)).cell 1).trans rfl
       have q2 : w1.cell? ⟨w.heap.size, 2, none⟩ = some (.slice A p.a.length ca) := ((hst.chg hc1 (fun h => h)).cell 2).trans rfl
       have hcc : Chg (fun _ => False) w w1 := ((Chg.refl _ _).alloc _).trans hc1 (fun _ h _ => h)
       have c0 := Chg.refl (fun _ => False) w1
       have hS : ∀ W, Chg (fun _ => False) w1 W → W.cell? ⟨w.heap.size, 1, none⟩ = some (.int .i64 N) ∧ W.cell? ⟨w.heap.size, 2, none⟩ = some (.slice A p.a.length ca) ∧ (convert 22 9 (.slice A p.a.length ca)).run Try.prog W = .ok (strv p.a) W ∧ Chg (fun _ => False) w1 W := fun W hW =>
         ⟨(((hst.chg hc1 (fun h => h)).chg hW (fun h => h)).cell 1).trans rfl, (((hst.chg hc1 (fun h => h)).chg hW (fun h => h)).cell 2).trans rfl, hcv.out _ (hcc.trans hW (fun _ h _ => h)), hW⟩
       have hS0 := hS w1 c0
       replace hS := Lib.hid hS))
  replace hmk := hmk.out
  go_region_held3 (fun W => W.cell? ⟨w.heap.size, 1, none⟩ = some (.int .i64 N) ∧ W.cell? ⟨w.heap.size, 2, none⟩ = some (.slice A p.a.length ca) ∧ (convert 22 9 (.slice A p.a.length ca)).run Try.prog W = .ok (strv p.a) W ∧ Chg (fun _ => False) w1 W)
    (first
      | with_reducible exact hS0
      | with_reducible exact hS.out _ c0.drew
      | with_reducible exact hS.out _ (c0.alloc _).drew
      | with_reducible exact hS.out _ ((c0.alloc _).alloc _).drew)
    (fail)
  go_wp2
  go_ret2
  have hn := hn.out
  have hN := hN.out
  have hs : w.heap.size + 1 ≤ w1.heap.size := by have := hc1.size; simp at this; exact this
  have es : s0 p = paste0 p.a N := by unfold s0; rw [hN]; rfl
  rw [es]
  have hi : Blk (((w1.alloc (.cells (madeCells Try.zeroCells112 (N * 68)) 112)).alloc (.cells (paC (paste0 p.a N) w1.heap.size (.slice none 0 0)) 91)).drew) w1.heap.size 112 (madeCells Try.zeroCells112 (N * 68)) :=
    ((Blk.new w1 _ _).alloc _).chg (Chg.refl (fun _ => False) _).drew (fun h => h)
  have hb : Blk (((w1.alloc (.cells (madeCells Try.zeroCells112 (N * 68)) 112)).alloc (.cells (paC (paste0 p.a N) w1.heap.size (.slice none 0 0)) 91)).drew) (w1.heap.size + 1) 91 (paC (paste0 p.a N) w1.heap.size (.slice none 0 0)) :=
    (blk_new' _ _ (by simp)).chg (Chg.refl (fun _ => False) _).drew (fun h => h)
  have eC : paC (paste0 p.a N) w1.heap.size (.slice none 0 0) = #[.int .i64 0, .bool false, .bool false, strv p.a, .slice (some ⟨w1.heap.size, 0, none⟩) N N, .slice none 0 0, .bool false] := by unfold paC paste0; simp
  rw [eC] at hi hb
  refine ⟨w1.heap.size + 1, fun k => paF (w1.heap.size + 1) w1.heap.size N (.slice none 0 0) (fun _ => .slice none 0 0) k, rfl, ⟨_, _, _, _, _, _, _, _, _, _, _, _, _, rfl, pa_mach (g := w1.heap.size + 1) (n := N) (B := B), inv_new (by omega) (by omega) (by omega) (by rw [eC]; exact hb) hi (by omega) (by omega), trivial⟩, fun k hk => ?_, ((hcc.alloc _).alloc _).drew⟩
  rcases hk with rfl | rfl | hk | ⟨_, _, hk⟩
  · omega
  · omega
  · simp [Value.ownBlock] at hk
  · simp [Value.ownBlock] at hk
end Go.Proofs.Ytamhebjejgcbjaa.Paste
