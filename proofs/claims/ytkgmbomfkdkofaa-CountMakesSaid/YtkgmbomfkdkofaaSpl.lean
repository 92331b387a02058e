/- The contract of (*line.Splitter).Cut: it cuts bytes into lines as 'cutS' does. -/
import Derived.Test.YtkgmbomfkdkofaaProg
import Derived.Test.YtkgmbomfkdkofaaCommon
import Derived.Test.YtkgmbomfkdkofaaPure
import Derived.Deep.RegionHeld3
import Derived.Deep.DrawnRows
import Derived.BigQuiet
namespace Go.Proofs.Ytkgmbomfkdkofaa
open Go Go.RowKit
structure SplAt (cs : Array Value) (o : Nat) (beg : Bs) (failed : Bool) : Prop where
  le : beg.length ≤ 64
  got : ∀ i x, beg[i]? = some x → cs[o + i]? = some (.int .u8 x.toNat)
  all : ∀ i, i < 64 → ∃ x : Int, cs[o + i]? = some (.int .u8 x)
  n : cs[o + 64]? = some (.int .i64 beg.length)
  failed : cs[o + 65]? = some (.bool failed)

namespace SplAt
variable {cs : Array Value} {o : Nat} {beg : Bs} {f : Bool}
theorem lt (h : SplAt cs o beg f) : o + 65 < cs.size := by
  have := h.failed
  exact (Array.getElem?_eq_some_iff.1 this).1
/-- The begun line is told: none is begun. -/
theorem fresh (h : SplAt cs o beg f) : SplAt (cs.setIfInBounds (o + 64) (.int .i64 0)) o [] f := by
  have hl := h.lt
  refine ⟨by simp, by simp, fun i hi => ?_, ?_, ?_⟩
  · rw [Array.getElem?_setIfInBounds_ne (by omega)]; exact h.all i hi
  · rw [Array.getElem?_setIfInBounds_self_of_lt (by omega)]; simp
  · rw [Array.getElem?_setIfInBounds_ne (by omega)]; exact h.failed
/-- It has failed. -/
theorem fail (h : SplAt cs o beg f) : SplAt ((cs.setIfInBounds (o + 65) (.bool true)).setIfInBounds (o + 64) (.int .i64 0)) o [] true := by
  have hl := h.lt
  refine ⟨by simp, by simp, fun i hi => ?_, ?_, ?_⟩
  · rw [Array.getElem?_setIfInBounds_ne (by omega), Array.getElem?_setIfInBounds_ne (by omega)]; exact h.all i hi
  · rw [Array.getElem?_setIfInBounds_self_of_lt (by simp; omega)]; simp
  · rw [Array.getElem?_setIfInBounds_ne (by omega), Array.getElem?_setIfInBounds_self_of_lt (by omega)]
/-- A byte is put behind it. -/
theorem push (h : SplAt cs o beg f) (x : UInt8) (hl : beg.length < 64) :
    SplAt ((cs.setIfInBounds (o + beg.length) (.int .u8 x.toNat)).setIfInBounds (o + 64) (.int .i64 ((beg.length : Int) + 1))) o (beg ++ [x]) f := by
  have hs := h.lt
  refine ⟨by simp; omega, fun i y hy => ?_, fun i hi => ?_, ?_, ?_⟩
  · have hi : i < beg.length + 1 := by have := (List.getElem?_eq_some_iff.1 hy).1; simpa using this
    rw [Array.getElem?_setIfInBounds_ne (by omega)]
    by_cases hi2 : i = beg.length
    · subst hi2
      rw [Array.getElem?_setIfInBounds_self_of_lt (by omega)]
      simp at hy
      rw [hy]
    · rw [Array.getElem?_setIfInBounds_ne (by omega)]
      exact h.got i y (by rw [List.getElem?_append_left (by omega)] at hy; exact hy)
  · rw [Array.getElem?_setIfInBounds_ne (by omega)]
    by_cases hi2 : i = beg.length
    · subst hi2
      exact ⟨_, Array.getElem?_setIfInBounds_self_of_lt (by omega)⟩
    · rw [Array.getElem?_setIfInBounds_ne (by omega)]; exact h.all i hi
  · rw [Array.getElem?_setIfInBounds_self_of_lt (by simp; omega)]; simp
  · rw [Array.getElem?_setIfInBounds_ne (by omega), Array.getElem?_setIfInBounds_ne (by omega)]; exact h.failed
theorem far {cs' : Array Value} (h : SplAt cs o beg f) (hc : ∀ i, o ≤ i → i ≤ o + 65 → cs'[i]? = cs[i]?) : SplAt cs' o beg f :=
  ⟨h.le, fun i x hx => (hc _ (by omega) (by have := (List.getElem?_eq_some_iff.1 hx).1; have := h.le; omega)).trans (h.got i x hx), fun i hi => by rw [hc _ (by omega) (by omega)]; exact h.all i hi,
    (hc _ (by omega) (by omega)).trans h.n, (hc _ (by omega) (by omega)).trans h.failed⟩
end SplAt

def u8s (bs : Bs) : List Value := bs.map fun x => .int .u8 x.toNat
abbrev strv (bs : Bs) : Value := .string ⟨bs.toArray⟩

def CutPost (T : TypeId) (g o : Nat) (cs : Array Value) (w : World) (r : List Bs × Bs × Bool) (e : Ending) (w' : World) : Prop :=
  ∃ v cs', e = .returned (.tuple #[v, .int .i64 (if r.2.2 = true then 20 else 0)]) ∧
      Blk w' g T cs' ∧ SplAt cs' o r.2.1 r.2.2 ∧ (∀ i, i < o ∨ o + 66 ≤ i → cs'[i]? = cs[i]?) ∧ Chg (fun k => k = g) w w' ∧
      w'.ownsRow w.heap.size 9 1 v r.1.length (r.1.map strv)

theorem u8s_at {bs : Bs} {i : Nat} {x : UInt8} (h : bs[i]? = some x) : (u8s bs)[i]? = some (.int .u8 x.toNat) := by simp [u8s, h]

theorem strOfNums_u8 (bs : Bs) : strOfNums (bs.map fun x => (x.toNat : Int)) = ⟨bs.toArray⟩ := by
  unfold strOfNums
  rw [List.map_map]
  congr 2
  conv => rhs; rw [← List.map_id bs]
  apply List.map_congr_left
  intro x _
  simp

/-- string(b): the bytes of a slice, read at some world. -/
theorem conv_str {W : World} (g o c : Nat) (bs : Bs) (h : ∀ i x, bs[i]? = some x → W.cell? ⟨g, o + i, none⟩ = some (.int .u8 x.toNat)) :
    (convert 22 9 (.slice (some ⟨g, o, none⟩) bs.length c)).run Try.prog W = .ok (strv bs) W := by
  have h1 := run_convert_bytes_arg (P := Try.prog) W 22 5 Try.underlying22 Try.underlying5 g o bs.length c (bs.map fun x => (x.toNat : Int)) (by simp) (fun i hi => by
    rw [h i (bs[i]) (List.getElem?_eq_getElem hi)]; simp [List.getD, List.getElem?_eq_getElem hi]) 9 Try.underlying9
  rw [strOfNums_u8] at h1
  exact h1

theorem info_string : (Try.prog.info? 9).map (fun i => (i.zero, i.size, i.bytes)) = some (some (.string ByteArray.empty), 1, 16) := by kernel_rfl
theorem arrayLen_64 : Try.prog.arrayLen 74 = 64 := by kernel_rfl
set_option maxHeartbeats 1000000 in
set_option maxRecDepth 100000 in
theorem cut_any (T : TypeId) (g o : Nat) (cs : Array Value) (beg bs : Bs) (A : Option Addr) (c : Nat) (w : World) (hb : Blk w g T cs) (hs : SplAt cs o beg false)
    (hr : Rd w (fun k => k ≠ g) 1 A bs.length (u8s bs)) (hlen : bs.length ≤ 1000000) :
    Calls Try.prog 142 #[.pointer (some ⟨g, o, none⟩), .slice A bs.length c] w (CutPost T g o cs w (cutS beg bs)) := by
  obtain ⟨i0, hi0, hz0, hz1, hz2⟩ := info_parts info_string
  have h65 : w.cell? ⟨g, o + 65, none⟩ = some (.bool false) := (hb.cell _).trans hs.failed
  go_enter Try.func142, Try.ntmps142
  go_wp2
  go_loopw [19, 6] (fun i v wr => ∃ (k : Nat) (csr : Array Value), k ≤ bs.length ∧ i = .int .i64 k ∧ (cutS beg (bs.take k)).2.2 = false ∧ Blk wr g T csr ∧ SplAt csr o (cutS beg (bs.take k)).2.1 false ∧
      (∀ i, i < o ∨ o + 66 ≤ i → csr[i]? = cs[i]?) ∧ Chg (fun k => k = g) w wr ∧ wr.ownsRow w.heap.size 9 1 v (cutS beg (bs.take k)).1.length ((cutS beg (bs.take k)).1.map strv))
    (fun i _ _ => bs.length - (intOf i).toNat)
  case atStart => exact ⟨0, cs, Nat.zero_le _, rfl, by simp [cutS], hb, by simpa [cutS] using hs, fun _ _ => rfl, Chg.refl _ _, by simpa [cutS] using World.ownsRow_nil w _ _ _⟩
  case round =>
    obtain ⟨k, csr, hk, rfl, hnf, hbr, hsr, hout, hch, hown⟩ := hrel
    generalize hcc : cutS beg (bs.take k) = cc at *
    obtain ⟨ls, gb, fl⟩ := cc
    simp only at hnf hsr hown
    subst hnf
    by_cases hlt : k < bs.length
    · obtain ⟨b', off, u, rfl, hb1, hb2, hu, hcell0⟩ := hr.at_ hlt
      have hux : u = .int .u8 ((bs[k]'hlt).toNat : Int) := by
        simp only [u8s, List.getElem?_map, List.getElem?_eq_getElem hlt, Option.map_some, Option.some.injEq] at hu
        exact hu.symm
      subst hux
      have hcell : wr.cell? ⟨b', off + k, none⟩ = some (.int .u8 ((bs[k]'hlt).toNat : Int)) := (hch.cell (p := ⟨b', off + k, none⟩) hb1 hb2).trans hcell0
      have hn : wr.cell? ⟨g, o + 64, none⟩ = some (.int .i64 gb.length) := (hbr.cell _).trans hsr.n
      have hf65 : wr.cell? ⟨g, o + 65, none⟩ = some (.bool false) := (hbr.cell _).trans hsr.failed
      have hfz : ∀ i, wr.frozen? ⟨g, i, none⟩ = false := fun i => hbr.frozen i
      generalize hxx : bs[k]'hlt = x at *
      have hblt := hb.lt
      have hll : ls.length ≤ 1000064 := by
        have h1 := cutS_sum (bs.take k) beg
        have h2 := hs.le
        rw [hcc] at h1
        simp at h1
        omega
      have hstep : cutS beg (bs.take (k + 1)) = (ls ++ (cutS gb [x]).1, (cutS gb [x]).2) := by
        rw [List.take_succ_eq_append_getElem hlt, hxx, cutS_append, hcc]
        simp
      clear hcell0 hu hs h65
      by_cases hx10 : x = 10
      · have hxt : (((x.toNat : Int)) == 10) = true := by subst hx10; rfl
        go_wp2
        have hcv : ∀ W : World, W.heap[g]? = wr.heap[g]? → (convert 22 9 (.slice (some ⟨g, o, none⟩) gb.length 64)).run Try.prog W = .ok (strv gb) W := fun W hW => conv_str g o 64 gb (fun i x hx => by
          rw [World.cell?_of_block (w := wr) (a := ⟨g, o + i, none⟩) hW]; exact (hbr.cell _).trans (hsr.got i x hx))
        have hug : u6.ownBlock ≠ some g := fun e => by have := (hown.lt g e).1; have := hb.lt; omega
        have hbl := hbr.lt
        have hgb : (gb.length : Int) ≤ 64 := by have := hsr.le; omega
        go_region_held3 (fun w' => w'.cell? ⟨g, o + 64, none⟩ = some (.int .i64 gb.length) ∧ (convert 22 9 (.slice (some ⟨g, o, none⟩) gb.length 64)).run Try.prog w' = .ok (strv gb) w')
          (first | exact ⟨by go_keep, hcv _ rfl⟩ | exact ⟨by go_keep, hcv _ (Below.heap_alloc _ _ _ hbr.lt)⟩ | exact ⟨(hgrow.cell_far _ (by simp; omega) (Ne.symm hug)).trans (by go_keep), hcv _ ((hgrow.block _ (by simp; omega) (Ne.symm hug)).trans (Below.heap_alloc _ _ _ hbr.lt))⟩)
          ((refine step_append_lies _ (by rfl) _ _ _ (by rfl) w.heap.size 9 i0 _ 1 16 Try.underlying51 hi0 hz0 hz1 hz2 rfl (by omega) u6 ls.length (ls.map strv) (by rfl) ((hown.alloc _).drew) ⟨wr.heap.size, 0, none⟩ 1 1 [strv gb] (by rfl) (by rfl) (World.news_of_block (cs := #[strv gb]) (t := 9) (fr := (0, 0)) (heap_alloc_new wr _)) (by simp [Value.oneCell', strv]) (by omega) (by simp only [maxLen]; omega) (by omega) (by have := hch.size; simp; omega) (wr.heap.size + 1) (by simp) ?_; intro gg cap w1 hown1 hgrow hat hlt1))
        have hb1' : Blk w1 g T csr := ((hbr.alloc (.cells #[strv gb] 9)).drew).grown hgrow (Ne.symm hug)
        have hn1 : w1.cell? ⟨g, o + 64, none⟩ = some (.int .i64 gb.length) := (hb1'.cell _).trans hsr.n
        have hf1 : ∀ i, w1.frozen? ⟨g, i, none⟩ = false := fun i => hb1'.frozen i
        clear hcv
        go_wp2
        go_roundw
        case rel =>
          refine ⟨k + 1, csr.setIfInBounds (o + 64) (.int .i64 0), by omega, by go_num, ?_, hb1'.set _ _, ?_, ?_, ?_, ?_⟩
          · rw [hstep]; simp [cutS, hx10]
          · rw [hstep]; simp only [cutS, hx10, if_true]; exact hsr.fresh
          · intro i hi; rw [Array.getElem?_setIfInBounds_ne (by omega)]; exact hout i hi
          · exact (((hch.alloc (.cells #[strv gb] 9)).drew).grown hgrow (fun e he => .inr (by have := hown.lt e he; exact this.1))).setCell (.inl rfl) _
          · rw [hstep]
            simp only [cutS, hx10, if_true, List.length_append, List.length_singleton, List.map_append, List.map_singleton]
            exact ownsRow_setCell_below hown1 (by simpa using hblt) _
        case measure => simp [intOf]; omega
      · have hxt : (((x.toNat : Int)) == 10) = false := by
          have : x.toNat ≠ 10 := fun h => hx10 (by apply UInt8.toNat_inj.1; simpa using h)
          simp; omega
        by_cases h64 : gb.length = 64
        · have h64t : ((gb.length : Int) == 64) = true := by simp; omega
          go_wp2
          go_ret2
          have hall : cutS beg bs = (ls, [], true) := by
            have h2 := cutS_append (bs.take (k + 1)) beg (bs.drop (k + 1))
            rw [List.take_append_drop, hstep] at h2
            simp [cutS, hx10, h64] at h2
            simpa using h2
          rw [hall]
          exact ⟨_, _, rfl, (hbr.set _ _).set _ _, hsr.fail, fun i hi => by rw [Array.getElem?_setIfInBounds_ne (by omega), Array.getElem?_setIfInBounds_ne (by omega)]; exact hout i hi,
            (hch.setCell (.inl rfl) _).setCell (.inl rfl) _, ownsRow_setCell_below (ownsRow_setCell_below hown (by simpa using hblt) _) (by simpa using hblt) _⟩
        · have h64t : ((gb.length : Int) == 64) = false := by simp; omega
          have hlen64 : gb.length < 64 := by have := hsr.le; omega
          have hgi : (gb.length : Int) < 64 := by omega
          obtain ⟨y, hy⟩ := hsr.all gb.length hlen64
          have hy1 : wr.cell? ⟨g, o + gb.length, none⟩ = some (.int .u8 y) := (hbr.cell _).trans hy
          have hne1 : ¬ o + gb.length = o + 64 := by omega
          have hne2 : ¬ o + 64 = o + gb.length := by omega
          have hne3 : ¬ gb.length = 64 := by omega
          have hne4 : ¬ 64 = gb.length := by omega
          go_wp2
          go_region
          go_wp2
          go_roundw
          case rel =>
            refine ⟨k + 1, _, by omega, by go_num, ?_, ((hbr.drew).set _ _).set _ _, ?_, ?_, ?_, ?_⟩
            · rw [hstep]; simp [cutS, hx10, h64]
            · rw [hstep]; simp only [cutS, hx10, h64, if_false]; exact hsr.push x hlen64
            · intro i hi; rw [Array.getElem?_setIfInBounds_ne (by omega), Array.getElem?_setIfInBounds_ne (by omega)]; exact hout i hi
            · exact (hch.drew.setCell (.inl rfl) _).setCell (.inl rfl) _
            · rw [hstep]
              simp only [cutS, hx10, h64, if_false, List.append_nil]
              exact ownsRow_setCell_below (ownsRow_setCell_below (a := ⟨g, o + gb.length, none⟩) hown (by simpa using hblt) _) (by simpa using hblt) _
          case measure => simp [intOf]; omega
    · go_wp2
      go_ret2
      have hkk : k = bs.length := by omega
      subst hkk
      rw [List.take_length] at hcc
      rw [hcc]
      exact ⟨_, _, rfl, hbr, hsr, hout, hch, hown⟩

end Go.Proofs.Ytkgmbomfkdkofaa
