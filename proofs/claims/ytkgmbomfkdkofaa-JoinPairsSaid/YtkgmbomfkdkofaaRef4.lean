/- The contract of penstockref04.Lines. -/
import Derived.Test.YtkgmbomfkdkofaaStrm
import Derived.Deep.RegionHeld3
import Derived.Deep.RegionLaw
import Derived.Deep.DrawnRows
import Derived.BigQuiet
import Derived.BigRegion
import Derived.Outline
import Derived.Laws.IdiomAt
namespace Go.Proofs.Ytkgmbomfkdkofaa
open Go Go.RowKit

def LinesPost (w : World) (r : RdL) (e : Ending) (w' : World) : Prop :=
  ∃ v, e = .returned (.agg #[v, .bool r.all, .int .i64 r.code, .int .i64 r.stage, .int .i64 r.id]) ∧ w'.ownsRow w.heap.size 9 1 v r.lines.length (r.lines.map strv) ∧ Below w.heap.size w w'

def LinesRel (W : World) (bs : Bs) (sc : Array Value) (g : Nat) (at_ : Value) (i : Value) (wr : World) : Prop :=
  ∃ (k : Nat) (v : Value), k ≤ bs.length ∧ i = .int .i64 k ∧ at_ = .int .i64 (k - (cutS [] (bs.take k)).2.1.length : Nat) ∧ (cutS [] (bs.take k)).2.2 = false ∧
    g + 3 ≤ wr.heap.size ∧ Blk wr g 64 sc ∧ Blk wr (g + 1) 97 #[.slice none 0 0, .bool false, .int .i64 0, .int .i64 0, .int .i64 0] ∧ Blk wr (g + 1 + 1) 97 #[v, .bool false, .int .i64 0, .int .i64 0, .int .i64 0] ∧
    wr.ownsRow (g + 3) 9 1 v (cutS [] (bs.take k)).1.length ((cutS [] (bs.take k)).1.map strv) ∧ Below g W wr

set_option maxHeartbeats 4000000 in
set_option maxRecDepth 100000 in
theorem lines_any (D : Nat → Prop) (s : Strm) (v : Value) (w : World) (h : SAt w D v s) (hl : s.bs.length ≤ 2000000) :
    Calls Try.prog 32 #[v] w (LinesPost w (refLines s)) := by
  obtain ⟨A, c, rfl, hr, hc⟩ := h
  obtain ⟨i0, hi0, hz0, hz1, hz2⟩ := info_parts info_string
  generalize hg : w.heap.size = g
  have hst : Blk (w.alloc (.cells #[.slice A s.bs.length c, .bool s.ended, .int .i64 s.code, .int .i64 s.stage, .int .i64 s.id] 64)) g 64 #[.slice A s.bs.length c, .bool s.ended, .int .i64 s.code, .int .i64 s.stage, .int .i64 s.id] := by rw [← hg]; exact Blk.new _ _ _
  have hlb := Below.refl g w
  go_enter Try.func32, Try.ntmps32
  go_wp2
  go_loopw [4, 5] (LinesRel w s.bs #[.slice A s.bs.length c, .bool s.ended, .int .i64 s.code, .int .i64 s.stage, .int .i64 s.id] g) (fun _ i _ => s.bs.length - (intOf i).toNat)
  case atStart =>
    have hz : (w.alloc (.cells #[.slice A s.bs.length c, .bool s.ended, .int .i64 s.code, .int .i64 s.stage, .int .i64 s.id] 64)).heap.size = g + 1 := by simp [hg]
    have hz2 : ((w.alloc (.cells #[.slice A s.bs.length c, .bool s.ended, .int .i64 s.code, .int .i64 s.stage, .int .i64 s.id] 64)).alloc (.cells #[.slice none 0 0, .bool false, .int .i64 0, .int .i64 0, .int .i64 0] 97)).heap.size = g + 2 := by simp [hg]
    refine ⟨0, .slice none 0 0, Nat.zero_le _, rfl, rfl, rfl, by simp; omega, (hst.alloc _).alloc _, ?_, ?_, by simpa [cutS] using World.ownsRow_nil _ _ _ _, ((hlb.alloc (by omega) _).alloc (by simp; omega) _).alloc (by simp; omega) _⟩
    · have := Blk.new (w.alloc (.cells #[.slice A s.bs.length c, .bool s.ended, .int .i64 s.code, .int .i64 s.stage, .int .i64 s.id] 64)) 97 #[.slice none 0 0, .bool false, .int .i64 0, .int .i64 0, .int .i64 0]
      rw [hz] at this
      exact this.alloc _
    · have := Blk.new ((w.alloc (.cells #[.slice A s.bs.length c, .bool s.ended, .int .i64 s.code, .int .i64 s.stage, .int .i64 s.id] 64)).alloc (.cells #[.slice none 0 0, .bool false, .int .i64 0, .int .i64 0, .int .i64 0] 97)) 97 #[.slice none 0 0, .bool false, .int .i64 0, .int .i64 0, .int .i64 0]
      rw [hz2] at this
      exact this
  case round =>
    obtain ⟨k, vl, hk, rfl, rfl, hnf, hg3, hb0, hb1, hb2, hown, hbel⟩ := hrel
    clear hst hlb
    obtain ⟨p, hp⟩ := cutS_suffix (s.bs.take k) [] hnf
    rw [List.nil_append] at hp
    obtain ⟨hgk, hgat⟩ := gb_at hk hp
    have hsum := cutS_sum (s.bs.take k) []
    have hle := (cutS_len (s.bs.take k) [] (by simp)).1
    generalize hcc : cutS [] (s.bs.take k) = cc at *
    obtain ⟨ls, gb, fl⟩ := cc
    simp only at hnf hown hp hgk hgat hle hsum ⊢
    subst hnf
    have s0 : wr.cell? ⟨g, 0, none⟩ = some (.slice A s.bs.length c) := (hb0.cell _).trans rfl
    have l0 : wr.cell? ⟨g + 1 + 1, 0, none⟩ = some vl := (hb2.cell _).trans rfl
    have lf : wr.frozen? ⟨g + 1 + 1, 0, none⟩ = false := hb2.frozen _
    by_cases hlt : k < s.bs.length
    · obtain ⟨b', off, rfl, hb1', hcell⟩ := u8_at hr hlt
      have hstep : cutS [] (s.bs.take (k + 1)) = (ls ++ (cutS gb [s.bs[k]]).1, (cutS gb [s.bs[k]]).2) := by
        rw [List.take_succ_eq_append_getElem hlt, cutS_append, hcc]
        simp
      have hcw : wr.cell? ⟨b', off + k, none⟩ = some (.int .u8 ((s.bs[k]).toNat : Int)) := (hbel.cell (p := ⟨b', off + k, none⟩) (by show b' < g; omega)).trans hcell
      have hcv : ∀ W : World, W.heap[b']? = wr.heap[b']? → (convert 22 9 (.slice (some ⟨b', off + (k - gb.length), none⟩) gb.length (c - (k - gb.length)))).run Try.prog W = .ok (strv gb) W := fun W hW => conv_str b' (off + (k - gb.length)) _ gb (fun i x hx => by
        rw [World.cell?_of_block (w := wr) (a := ⟨b', off + (k - gb.length) + i, none⟩) hW, hbel.cell (p := ⟨b', off + (k - gb.length) + i, none⟩) (by show b' < g; omega)]
        obtain ⟨g', o', e', hg', hc'⟩ := u8_at hr (k := k - gb.length + i) (List.getElem?_eq_some_iff.1 (hgat i x hx)).1
        cases e'
        rw [Nat.add_assoc, hc', (List.getElem?_eq_some_iff.1 (hgat i x hx)).2])
      generalize s.bs[k] = x at *
      have hkk : k - (k - gb.length) = gb.length := by omega
      generalize hka : k - gb.length = a at *
      have hkk' := Lib.hid hkk
      have hka' := Lib.hid hka
      have ha1 : (a : Int) ≤ (k : Int) := by omega
      have ha2 : (k : Int) ≤ (c : Int) := by omega
      have ha3 : (a : Int) < (c : Int) := by omega
      have ha4 : (0 : Int) ≤ (a : Int) := by omega
      have hlt' : (k : Int) < (s.bs.length : Int) := by omega
      rw [← hkk] at hcv
      clear hkk hka hcell hr
      by_cases hx : x = 10
      · have hxt : ((x.toNat : Int) == 10) = true := by subst hx; rfl
        have hbw : b' < wr.heap.size := by have := hbel.size; omega
        have hcvH := hcv wr.drew rfl
        have hca : ¬ c = a := by omega
        have hlsl : ls.length ≤ 2000000 := by
          simp only [List.length_nil, List.length_take] at hsum
          omega
        clear hcv
        go_wp2
        have lA : (wr.alloc (.cells #[strv gb] 9)).cell? ⟨g + 1 + 1, 0, none⟩ = some vl := ((hb2.alloc _).cell 0).trans rfl
        have hug : some (g + 1 + 1) ≠ vl.ownBlock := fun e => by have := (hown.lt (g + 1 + 1) e.symm).1; omega
        go_region_law ((refine step_append_rd _ (by rfl) (.tmp 21) (.tmp 28) 51 (by rfl) (g + 3) 9 i0 _ 1 16 Try.underlying51 hi0 hz0 hz1 hz2 (by rfl) (by omega) vl ls.length (ls.map strv) (by rfl) (by exact (hown.alloc _).drew) (fun _ => True) (some ⟨wr.heap.size, 0, none⟩) 1 1 [strv gb] (by rfl) (by exact rd_new wr _ _) (by simp [Value.oneCell', strv]) (by simp only [maxLen]; omega) (by omega) (by simp; omega) ?_; intro v1 w1 hown1 hg1 hv1; obtain ⟨A1, c1, rfl, hr1⟩ := own_rd hown1; have hb21 := ((hb2.alloc (.cells #[strv gb] 9)).drew).grown hg1 hug; have kc : w1.cell? ⟨g + 1 + 1, 0, none⟩ = some vl := (hb21.cell 0).trans rfl; have kf : w1.frozen? ⟨g + 1 + 1, 0, none⟩ = false := hb21.frozen 0))
        clear hcvH s0 l0 lA lf
        all_goals
          have hb2' := hb21.set 0 (.slice A1 (ls.length + 1) c1)
          have hown' := ownsRow_setCell_below (a := ⟨g + 1 + 1, 0, none⟩) hown1 (by show g + 1 + 1 < g + 3; omega) (.slice A1 (ls.length + 1) c1)
          have hbel' := (((hbel.alloc (by omega) (.cells #[strv gb] 9)).drew).grown hg1 (by simp; omega) (fun j hj => by have := (hown.lt j hj).1; omega)).setCell (p := ⟨g + 1 + 1, 0, none⟩) (by show g ≤ g + 1 + 1; omega) (.slice A1 (ls.length + 1) c1)
          have hgz : g + 3 ≤ w1.heap.size := by have := hg1.size; simp at this; omega
          have hb0' := (((hb0.alloc (.cells #[strv gb] 9)).drew).grown hg1 (fun e => by have := (hown.lt g e.symm).1; omega)).far (p := ⟨g + 1 + 1, 0, none⟩) (by show g ≠ g + 1 + 1; omega) (.slice A1 (ls.length + 1) c1)
          have hb1' := (((hb1.alloc (.cells #[strv gb] 9)).drew).grown hg1 (fun e => by have := (hown.lt (g + 1) e.symm).1; omega)).far (p := ⟨g + 1 + 1, 0, none⟩) (by show g + 1 ≠ g + 1 + 1; omega) (.slice A1 (ls.length + 1) c1)
          clear hown1 hg1 hb21 hr1 hown hbel hb0 hb1 hb2 hug hv1
          go_wp2
          go_roundw
          case rel =>
            refine ⟨k + 1, .slice A1 (ls.length + 1) c1, by omega, by go_num, ?_, ?_, by simpa [World.setCell] using hgz, hb0', hb1', hb2', ?_, hbel'⟩
            · rw [hstep]; simp [cutS, hx]
            · rw [hstep]; simp [cutS, hx]
            · rw [hstep]; simpa [cutS, hx] using hown'
          case measure => simp [intOf]; omega
      · have hxt : ((x.toNat : Int) == 10) = false := by
          have : x.toNat ≠ 10 := fun h => hx (by apply UInt8.toNat_inj.1; simpa using h)
          simp; omega
        by_cases h64 : gb.length = 64
        · have ht : ((k : Int) - (a : Int) == 64) = true := by have := hkk'.out; rw [beq_iff_eq]; omega
          have m0 : wr.cell? ⟨g + 1 + 1, 2, none⟩ = some (.int .i64 0) := (hb2.cell _).trans rfl
          have m1 : wr.cell? ⟨g + 1 + 1, 3, none⟩ = some (.int .i64 0) := (hb2.cell _).trans rfl
          have m2 : wr.cell? ⟨g + 1 + 1, 4, none⟩ = some (.int .i64 0) := (hb2.cell _).trans rfl
          have mf : ∀ i, wr.frozen? ⟨g + 1 + 1, i, none⟩ = false := fun i => hb2.frozen i
          obtain ⟨A1, c1, rfl, _⟩ := own_rd hown
          have hbF : Blk (((wr.setCell ⟨g + 1 + 1, 2, none⟩ (.int .i64 20)).setCell ⟨g + 1 + 1, 3, none⟩ (.int .i64 (-1))).setCell ⟨g + 1 + 1, 4, none⟩ (.int .i64 0)) (g + 1 + 1) 97 #[.slice A1 ls.length c1, .bool false, .int .i64 20, .int .i64 (-1), .int .i64 0] :=
            ((hb2.set 2 _).set 3 _).set 4 _
          have n0 : wr.cell? ⟨g + 1 + 1, 1, none⟩ = some (.bool false) := (hb2.cell _).trans rfl
          have r0 : wr.cell? ⟨g + 1, 0, none⟩ = some (.slice none 0 0) := (hb1.cell _).trans rfl
          have r1 : wr.cell? ⟨g + 1, 1, none⟩ = some (.bool false) := (hb1.cell _).trans rfl
          have r2 : wr.cell? ⟨g + 1, 2, none⟩ = some (.int .i64 0) := (hb1.cell _).trans rfl
          have r3 : wr.cell? ⟨g + 1, 3, none⟩ = some (.int .i64 0) := (hb1.cell _).trans rfl
          have r4 : wr.cell? ⟨g + 1, 4, none⟩ = some (.int .i64 0) := (hb1.cell _).trans rfl
          have rf : ∀ i, wr.frozen? ⟨g + 1, i, none⟩ = false := fun i => hb1.frozen i
          have hne1 : ¬ g + 1 = g + 1 + 1 := by omega
          have hne2 : ¬ g + 1 + 1 = g + 1 := by omega
          have hbR : Blk (((wr.setCell ⟨g + 1 + 1, 2, none⟩ (.int .i64 20)).setCell ⟨g + 1 + 1, 3, none⟩ (.int .i64 (-1))).setCell ⟨g + 1 + 1, 4, none⟩ (.int .i64 0)) (g + 1) 97 #[.slice none 0 0, .bool false, .int .i64 0, .int .i64 0, .int .i64 0] :=
            ((hb1.far (p := ⟨g + 1 + 1, 2, none⟩) (by show g + 1 ≠ g + 1 + 1; omega) _).far (p := ⟨g + 1 + 1, 3, none⟩) (by show g + 1 ≠ g + 1 + 1; omega) _).far (p := ⟨g + 1 + 1, 4, none⟩) (by show g + 1 ≠ g + 1 + 1; omega) _
          have hpost : LinesPost w (refLines s) (.returned (.agg #[.slice A1 ls.length c1, .bool false, .int .i64 20, .int .i64 (-1), .int .i64 0])) ((((wr.setCell ⟨g + 1 + 1, 2, none⟩ (.int .i64 20)).setCell ⟨g + 1 + 1, 3, none⟩ (.int .i64 (-1))).setCell ⟨g + 1 + 1, 4, none⟩ (.int .i64 0)).setRow (g + 1) #[.slice A1 ls.length c1, .bool false, .int .i64 20, .int .i64 (-1), .int .i64 0]) := by
            have hall : cutS [] s.bs = (ls, [], true) := by
              have h2 := cutS_append (s.bs.take (k + 1)) [] (s.bs.drop (k + 1))
              rw [List.take_append_drop, hstep] at h2
              simp [cutS, hx, h64] at h2
              simpa using h2
            have e : refLines s = ⟨ls, false, 20, -1, 0⟩ := by unfold refLines; simp [hall]
            rw [e]
            refine ⟨_, rfl, ?_, ?_⟩
            · rw [hg]
              exact own_chg_row (by omega) (ownsRow_setCell_below (ownsRow_setCell_below (ownsRow_setCell_below hown (a := ⟨g + 1 + 1, 2, none⟩) (by show g + 1 + 1 < g + 3; omega) _) (a := ⟨g + 1 + 1, 3, none⟩) (by show g + 1 + 1 < g + 3; omega) _) (a := ⟨g + 1 + 1, 4, none⟩) (by show g + 1 + 1 < g + 3; omega) _) (by omega)
            · rw [hg]
              exact below_setRow (((hbel.setCell (p := ⟨g + 1 + 1, 2, none⟩) (by show g ≤ g + 1 + 1; omega) _).setCell (p := ⟨g + 1 + 1, 3, none⟩) (by show g ≤ g + 1 + 1; omega) _).setCell (p := ⟨g + 1 + 1, 4, none⟩) (by show g ≤ g + 1 + 1; omega) _) (by omega) _
          have hpost := Lib.hid hpost
          clear hcv hown hbel hb0 hb1 hb2 hstep hgat hsum hle hp hbF
          go_wp2_with (first
            | (refine wpList_store_row rfl 97 (.tmp 2) (.tmp 39) rfl (g + 1) _ rfl rfl 97 _ hbR info_read rfl (by simp [Value.oneCell']) ?_))
          refine bodyPost_ret (results_cell_row rfl _ _ (g + 1) _ _ _ _ rfl (blk_setRow hbR) Try.underlying97 rfl info_read) rfl ?_
          exact hpost.out
        · have ht : ((k : Int) - (a : Int) == 64) = false := by have := hkk'.out; rw [beq_eq_false_iff_ne]; omega
          clear hcv l0 lf
          go_wp2
          go_roundw
          case rel =>
            have hka2 := hka'.out
            refine ⟨k + 1, vl, by omega, by go_num, ?_, ?_, hg3, hb0, hb1, hb2, ?_, hbel⟩
            · rw [hstep]; simp [cutS, hx, h64]; omega
            · rw [hstep]; simp [cutS, hx, h64]
            · rw [hstep]; simpa [cutS, hx, h64] using hown
          case measure => simp [intOf]; omega
    · have hkk : k = s.bs.length := by omega
      subst hkk
      rw [List.take_length] at hcc
      clear hk hsum hp
      have s1 : wr.cell? ⟨g, 1, none⟩ = some (.bool s.ended) := (hb0.cell _).trans rfl
      have s2 : wr.cell? ⟨g, 2, none⟩ = some (.int .i64 s.code) := (hb0.cell _).trans rfl
      have s3 : wr.cell? ⟨g, 3, none⟩ = some (.int .i64 s.stage) := (hb0.cell _).trans rfl
      have s4 : wr.cell? ⟨g, 4, none⟩ = some (.int .i64 s.id) := (hb0.cell _).trans rfl
      have m1 : wr.cell? ⟨g + 1 + 1, 1, none⟩ = some (.bool false) := (hb2.cell _).trans rfl
      have m2 : wr.cell? ⟨g + 1 + 1, 2, none⟩ = some (.int .i64 0) := (hb2.cell _).trans rfl
      have m3 : wr.cell? ⟨g + 1 + 1, 3, none⟩ = some (.int .i64 0) := (hb2.cell _).trans rfl
      have m4 : wr.cell? ⟨g + 1 + 1, 4, none⟩ = some (.int .i64 0) := (hb2.cell _).trans rfl
      have mf : ∀ i, wr.frozen? ⟨g + 1 + 1, i, none⟩ = false := fun i => hb2.frozen i
      cases hen : s.ended with
      | false =>
        rw [hen] at s1
        obtain ⟨A1, c1, rfl, _⟩ := own_rd hown
        have hbR : Blk (((wr.setCell ⟨g + 1 + 1, 2, none⟩ (.int .i64 s.code)).setCell ⟨g + 1 + 1, 3, none⟩ (.int .i64 s.stage)).setCell ⟨g + 1 + 1, 4, none⟩ (.int .i64 s.id)) (g + 1) 97 #[.slice none 0 0, .bool false, .int .i64 0, .int .i64 0, .int .i64 0] :=
          ((hb1.far (p := ⟨g + 1 + 1, 2, none⟩) (by show g + 1 ≠ g + 1 + 1; omega) _).far (p := ⟨g + 1 + 1, 3, none⟩) (by show g + 1 ≠ g + 1 + 1; omega) _).far (p := ⟨g + 1 + 1, 4, none⟩) (by show g + 1 ≠ g + 1 + 1; omega) _
        have hpost : LinesPost w (refLines s) (.returned (.agg #[.slice A1 ls.length c1, .bool false, .int .i64 s.code, .int .i64 s.stage, .int .i64 s.id])) ((((wr.setCell ⟨g + 1 + 1, 2, none⟩ (.int .i64 s.code)).setCell ⟨g + 1 + 1, 3, none⟩ (.int .i64 s.stage)).setCell ⟨g + 1 + 1, 4, none⟩ (.int .i64 s.id)).setRow (g + 1) #[.slice A1 ls.length c1, .bool false, .int .i64 s.code, .int .i64 s.stage, .int .i64 s.id]) := by
          have e : refLines s = ⟨ls, false, s.code, s.stage, s.id⟩ := by unfold refLines; simp [hcc, hen]
          rw [e]
          refine ⟨_, rfl, ?_, ?_⟩
          · rw [hg]
            exact own_chg_row (by omega) (ownsRow_setCell_below (ownsRow_setCell_below (ownsRow_setCell_below hown (a := ⟨g + 1 + 1, 2, none⟩) (by show g + 1 + 1 < g + 3; omega) _) (a := ⟨g + 1 + 1, 3, none⟩) (by show g + 1 + 1 < g + 3; omega) _) (a := ⟨g + 1 + 1, 4, none⟩) (by show g + 1 + 1 < g + 3; omega) _) (by omega)
          · rw [hg]
            exact below_setRow (((hbel.setCell (p := ⟨g + 1 + 1, 2, none⟩) (by show g ≤ g + 1 + 1; omega) _).setCell (p := ⟨g + 1 + 1, 3, none⟩) (by show g ≤ g + 1 + 1; omega) _).setCell (p := ⟨g + 1 + 1, 4, none⟩) (by show g ≤ g + 1 + 1; omega) _) (by omega) _
        have hpost := Lib.hid hpost
        clear hown hbel hb0 hb1 hb2 hcc hgat hle hen
        go_wp2_with (first
          | (refine wpList_store_row rfl 97 (.tmp 2) (.tmp 62) rfl (g + 1) _ rfl rfl 97 _ hbR info_read rfl (by simp [Value.oneCell']) ?_))
        refine bodyPost_ret (results_cell_row rfl _ _ (g + 1) _ _ _ _ rfl (blk_setRow hbR) Try.underlying97 rfl info_read) rfl ?_
        exact hpost.out
      | true =>
        rw [hen] at s1
        by_cases hgb : gb = []
        · subst hgb
          simp only [List.length_nil, Nat.sub_zero]
          obtain ⟨A1, c1, rfl, _⟩ := own_rd hown
          have hbR : Blk (wr.setCell ⟨g + 1 + 1, 1, none⟩ (.bool true)) (g + 1) 97 #[.slice none 0 0, .bool false, .int .i64 0, .int .i64 0, .int .i64 0] :=
            hb1.far (p := ⟨g + 1 + 1, 1, none⟩) (by show g + 1 ≠ g + 1 + 1; omega) _
          have hpost : LinesPost w (refLines s) (.returned (.agg #[.slice A1 ls.length c1, .bool true, .int .i64 0, .int .i64 0, .int .i64 0])) ((wr.setCell ⟨g + 1 + 1, 1, none⟩ (.bool true)).setRow (g + 1) #[.slice A1 ls.length c1, .bool true, .int .i64 0, .int .i64 0, .int .i64 0]) := by
            have e : refLines s = ⟨ls, true, 0, 0, 0⟩ := by unfold refLines; simp [hcc, hen]
            rw [e]
            refine ⟨_, rfl, ?_, ?_⟩
            · rw [hg]
              exact own_chg_row (by omega) (ownsRow_setCell_below hown (a := ⟨g + 1 + 1, 1, none⟩) (by show g + 1 + 1 < g + 3; omega) _) (by omega)
            · rw [hg]
              exact below_setRow (hbel.setCell (p := ⟨g + 1 + 1, 1, none⟩) (by show g ≤ g + 1 + 1; omega) _) (by omega) _
          have hpost := Lib.hid hpost
          clear hown hbel hb0 hb1 hb2 hcc hgat hle hen hgk
          go_wp2_with (first
            | (refine wpList_store_row rfl 97 (.tmp 2) (.tmp 58) rfl (g + 1) _ rfl rfl 97 _ hbR info_read rfl (by simp [Value.oneCell']) ?_))
          refine bodyPost_ret (results_cell_row rfl _ _ (g + 1) _ _ _ _ rfl (blk_setRow hbR) Try.underlying97 rfl info_read) rfl ?_
          exact hpost.out
        · have hgl : 0 < gb.length := List.length_pos_iff.2 hgb
          obtain ⟨b', off, rfl, hb1', hzz⟩ := u8_at hr (k := s.bs.length - gb.length) (by omega)
          clear hzz
          have hcv : (convert 22 9 (.slice (some ⟨b', off + (s.bs.length - gb.length), none⟩) gb.length (c - (s.bs.length - gb.length)))).run Try.prog wr.drew = .ok (strv gb) wr.drew := conv_str b' (off + (s.bs.length - gb.length)) _ gb (fun i x hx => by
            show wr.cell? ⟨b', off + (s.bs.length - gb.length) + i, none⟩ = _
            rw [hbel.cell (p := ⟨b', off + (s.bs.length - gb.length) + i, none⟩) (by show b' < g; omega)]
            obtain ⟨g', o', e', hg', hc'⟩ := u8_at hr (k := s.bs.length - gb.length + i) (List.getElem?_eq_some_iff.1 (hgat i x hx)).1
            cases e'
            rw [Nat.add_assoc, hc', (List.getElem?_eq_some_iff.1 (hgat i x hx)).2])
          have hlsl : ls.length ≤ 2000000 := by
            have h2 := cutS_sum s.bs []
            rw [hcc] at h2
            simp only [List.length_nil] at h2
            omega
          have hkk : s.bs.length - (s.bs.length - gb.length) = gb.length := by omega
          have e : refLines s = ⟨ls ++ [gb], true, 0, 0, 0⟩ := by unfold refLines; simp [hcc, hen, hgb]
          have e := Lib.hid e
          generalize hka : s.bs.length - gb.length = a at *
          have ha1 : (a : Int) < (s.bs.length : Int) := by omega
          have ha2 : (a : Int) ≤ (c : Int) := by omega
          have ha4 : (0 : Int) ≤ (a : Int) := by omega
          have ha5 : (s.bs.length : Int) ≤ (c : Int) := by omega
          have ha6 : a ≤ s.bs.length := by omega
          have hca : ¬ c = a := by omega
          rw [← hkk] at hcv
          have lA : (wr.alloc (.cells #[strv gb] 9)).cell? ⟨g + 1 + 1, 0, none⟩ = some vl := ((hb2.alloc _).cell 0).trans rfl
          have hug : some (g + 1 + 1) ≠ vl.ownBlock := fun e => by have := (hown.lt (g + 1 + 1) e.symm).1; omega
          clear hkk hka hcc hgat hle hen hgk hgl hgb hr
          go_wp2
          go_region_law ((refine step_append_rd _ (by rfl) (.tmp 48) (.tmp 54) 51 (by rfl) (g + 3) 9 i0 _ 1 16 Try.underlying51 hi0 hz0 hz1 hz2 (by rfl) (by omega) vl ls.length (ls.map strv) (by rfl) (by exact (hown.alloc _).drew) (fun _ => True) (some ⟨wr.heap.size, 0, none⟩) 1 1 [strv gb] (by rfl) (by exact rd_new wr _ _) (by simp [Value.oneCell', strv]) (by simp only [maxLen]; omega) (by omega) (by simp; omega) ?_; intro v1 w1 hown1 hg1 hv1; obtain ⟨A1, c1, rfl, hr1⟩ := own_rd hown1; have hb21 := ((hb2.alloc (.cells #[strv gb] 9)).drew).grown hg1 hug; have kc : w1.cell? ⟨g + 1 + 1, 0, none⟩ = some vl := (hb21.cell 0).trans rfl; have kf : ∀ i, w1.frozen? ⟨g + 1 + 1, i, none⟩ = false := fun i => hb21.frozen i; have k1 : w1.cell? ⟨g + 1 + 1, 1, none⟩ = some (.bool false) := (hb21.cell 1).trans rfl; have k2 : w1.cell? ⟨g + 1 + 1, 2, none⟩ = some (.int .i64 0) := (hb21.cell 2).trans rfl; have k3 : w1.cell? ⟨g + 1 + 1, 3, none⟩ = some (.int .i64 0) := (hb21.cell 3).trans rfl; have k4 : w1.cell? ⟨g + 1 + 1, 4, none⟩ = some (.int .i64 0) := (hb21.cell 4).trans rfl))
          clear hcv s0 s1 s2 s3 s4 l0 lA lf m1 m2 m3 m4 mf
          all_goals
            have hb11 := ((hb1.alloc (.cells #[strv gb] 9)).drew).grown hg1 (fun e => by have := (hown.lt (g + 1) e.symm).1; omega)
            have hbR : Blk ((w1.setCell ⟨g + 1 + 1, 0, none⟩ (.slice A1 (ls.length + 1) c1)).setCell ⟨g + 1 + 1, 1, none⟩ (.bool true)) (g + 1) 97 #[.slice none 0 0, .bool false, .int .i64 0, .int .i64 0, .int .i64 0] :=
              (hb11.far (p := ⟨g + 1 + 1, 0, none⟩) (by show g + 1 ≠ g + 1 + 1; omega) _).far (p := ⟨g + 1 + 1, 1, none⟩) (by show g + 1 ≠ g + 1 + 1; omega) _
            have hbel' := (((hbel.alloc (by omega) (.cells #[strv gb] 9)).drew).grown hg1 (by simp; omega) (fun j hj => by have := (hown.lt j hj).1; omega))
            have hpost : LinesPost w (refLines s) (.returned (.agg #[.slice A1 (ls.length + 1) c1, .bool true, .int .i64 0, .int .i64 0, .int .i64 0])) (((w1.setCell ⟨g + 1 + 1, 0, none⟩ (.slice A1 (ls.length + 1) c1)).setCell ⟨g + 1 + 1, 1, none⟩ (.bool true)).setRow (g + 1) #[.slice A1 (ls.length + 1) c1, .bool true, .int .i64 0, .int .i64 0, .int .i64 0]) := by
              rw [e.out]
              refine ⟨_, rfl, ?_, ?_⟩
              · rw [hg]
                have := own_chg_row (base' := g) (cs := #[.slice A1 (ls.length + 1) c1, .bool true, .int .i64 0, .int .i64 0, .int .i64 0]) (by omega) (ownsRow_setCell_below (ownsRow_setCell_below hown1 (a := ⟨g + 1 + 1, 0, none⟩) (by show g + 1 + 1 < g + 3; omega) (.slice A1 (ls.length + 1) c1)) (a := ⟨g + 1 + 1, 1, none⟩) (by show g + 1 + 1 < g + 3; omega) (.bool true)) (g := g + 1) (by omega)
                simpa using this
              · rw [hg]
                exact below_setRow ((hbel'.setCell (p := ⟨g + 1 + 1, 0, none⟩) (by show g ≤ g + 1 + 1; omega) _).setCell (p := ⟨g + 1 + 1, 1, none⟩) (by show g ≤ g + 1 + 1; omega) _) (by omega) _
            have hpost := Lib.hid hpost
            clear hown1 hg1 hb21 hr1 hown hbel hbel' hb0 hb1 hb2 hb11 hug hv1
            go_wp2_with (first
              | (refine wpList_store_row rfl 97 (.tmp 2) (.tmp 58) rfl (g + 1) _ rfl rfl 97 _ hbR info_read rfl (by simp [Value.oneCell']) ?_))
            refine bodyPost_ret (results_cell_row rfl _ _ (g + 1) _ _ _ _ rfl (blk_setRow hbR) Try.underlying97 rfl info_read) rfl ?_
            exact hpost.out
end Go.Proofs.Ytkgmbomfkdkofaa
