/- The contracts of penstockref04.Out and CopyParams. -/
import Derived.Test.YtkgmbomfkdkofaaFresh
import Derived.Laws.IdiomStrings
import Derived.Deep.RegionHeld3
import Derived.Deep.DrawnRows
import Derived.Outline
namespace Go.Proofs.Ytkgmbomfkdkofaa
open Go Go.RowKit

/-- []byte(s): new bytes. -/
theorem run_bytes (w : World) (b : Bs) : ∃ (c : Nat) (w' : World), (convert 9 22 (strv b)).run Try.prog w = .ok (.slice (some ⟨w.heap.size, 0, none⟩) b.length c) w' ∧ b.length ≤ c ∧
    Below w.heap.size w w' ∧ w'.heap.size = w.heap.size + 1 ∧ Rd w' (fun k => w.heap.size ≤ k) 1 (some ⟨w.heap.size, 0, none⟩) b.length (u8s b) := by
  have h := run_bytes_of_string (P := Try.prog) w 9 22 5 ⟨b.toArray⟩ Try.underlying9 Try.underlying22 Try.underlying5
  have hs : (⟨b.toArray⟩ : ByteArray).size = b.length := by simp [ByteArray.size]
  rw [hs] at h
  refine ⟨_, _, h, grownCap_ge _ _ _ _, ((Below.refl _ _).drew).alloc (Nat.le_refl _) _, by simp, ⟨by simp [u8s], fun _ => ⟨w.heap.size, 0, rfl, by simp, Nat.le_refl _, fun j u hu => ?_⟩⟩⟩
  have hj : j < b.length := by
    have := (List.getElem?_eq_some_iff.1 hu).1
    simpa [u8s] using this
  have h2 := bytesRow_at ⟨b.toArray⟩ (grownCap w b.length 0 5) j (by simpa using hj)
  have h3 := cell_of_row (w.drew.alloc (.cells (bytesRow ⟨b.toArray⟩ (grownCap w b.length 0 5)) 5 ((bytesRow ⟨b.toArray⟩ (grownCap w b.length 0 5)).size, (bytesRow ⟨b.toArray⟩ (grownCap w b.length 0 5)).size + 1))) w.heap.size j _ _ _ (heap_alloc_new w.drew _)
  rw [Nat.zero_add, h3, h2]
  simp [u8s, List.getElem?_eq_getElem hj] at hu
  simp [← hu]

/-- One stream in a new block. -/
theorem strms_one {w : World} {B A c : Nat} {T : TypeId} (x : Strm) (g : Nat) (hg : B ≤ g) (hgl : w.heap.size = g) (hA : A = x.bs.length) (hc : A ≤ c) (a : Option Addr) (hr : Rd w (fun k => B ≤ k) 1 a x.bs.length (u8s x.bs)) :
    StrmsAt (w.alloc (.cells #[.slice a A c, .bool x.ended, .int .i64 x.code, .int .i64 x.stage, .int .i64 x.id] T)) (fun k => B ≤ k) (.slice (some ⟨g, 0, none⟩) 1 1) [x] := by
  subst hA hgl
  refine ⟨some ⟨w.heap.size, 0, none⟩, 1, [(x, .slice a x.bs.length c)], rfl, rfl, ⟨rfl, fun _ => ⟨w.heap.size, 0, rfl, by simp, hg, fun j u hu => ?_⟩⟩, fun t ht => ?_⟩
  · rw [Nat.zero_add, cell_of_row _ _ j _ _ (0, 0) (heap_alloc_new w _)]
    simpa [strmC] using hu
  · simp at ht
    subst ht
    exact ⟨⟨a, c, rfl, hr.chg ((Chg.refl (fun _ => False) w).alloc _) (fun _ _ _ h => h)⟩, fun A n c' e => by cases e; exact hc⟩

def OutPost (w : World) (l : List Strm) (e : Ending) (w' : World) : Prop := ∃ v, e = .returned v ∧ StrmsAt w' (fun k => w.heap.size ≤ k) v l ∧ Below w.heap.size w w'

set_option maxHeartbeats 400000 in
theorem out_any (b : Bs) (all : Bool) (c st id : Int) (w : World) :
    Calls Try.prog 34 #[strv b, .bool all, .agg #[.int .i64 c, .int .i64 st, .int .i64 id]] w (OutPost w (refOut b all c st id)) := by
  have hb0 : Blk (w.alloc (.cells #[.int .i64 c, .int .i64 st, .int .i64 id] 62)) w.heap.size 62 #[.int .i64 c, .int .i64 st, .int .i64 id] := Blk.new _ _ _
  obtain ⟨cc, w1, hrun, hcc, hbel, hsz, hrd⟩ := run_bytes (w.alloc (.cells #[.int .i64 c, .int .i64 st, .int .i64 id] 62)) b
  have hb1 : Blk w1 w.heap.size 62 #[.int .i64 c, .int .i64 st, .int .i64 id] := hb0.chg (Chg.of_below (S := fun _ => False) hbel) (fun h => h)
  have k0 : w1.cell? ⟨w.heap.size, 0, none⟩ = some (.int .i64 c) := (hb1.cell 0).trans rfl
  have k1 : w1.cell? ⟨w.heap.size, 1, none⟩ = some (.int .i64 st) := (hb1.cell 1).trans rfl
  have k2 : w1.cell? ⟨w.heap.size, 2, none⟩ = some (.int .i64 id) := (hb1.cell 2).trans rfl
  have hz : (w.alloc (.cells #[.int .i64 c, .int .i64 st, .int .i64 id] 62)).heap.size = w.heap.size + 1 := by simp
  have hbel' : Below w.heap.size w w1 := ((Below.refl _ _).alloc (Nat.le_refl _) _).trans (hbel.mono (by simp))
  rw [hz] at hrun hsz hrd
  have hsz' := Lib.hid hsz
  have hone : ∀ x : Strm, x.bs = b → StrmsAt (w1.alloc (.cells #[.slice (some ⟨w.heap.size + 1, 0, none⟩) b.length cc, .bool x.ended, .int .i64 x.code, .int .i64 x.stage, .int .i64 x.id] 64)) (fun k => w.heap.size ≤ k) (.slice (some ⟨w1.heap.size, 0, none⟩) 1 1) [x] := fun x hx => by
    subst hx
    exact strms_one x w1.heap.size (by omega) rfl rfl hcc _ (hrd.mono (fun k hk _ => by omega))
  have hw1 : w.heap.size ≤ w1.heap.size := by omega
  clear hb0 hb1 hbel hsz hrd hz
  cases all
  · have h1 := Lib.hid (hone ⟨b, false, c, st, id⟩ rfl)
    clear hone
    go_enter Try.func34, Try.ntmps34
    go_wp2
    go_ret
    exact ⟨_, rfl, h1.out, hbel'.alloc hw1 _⟩
  · have h1 := Lib.hid (hone ⟨b, true, 0, 0, 0⟩ rfl)
    clear hone
    go_enter Try.func34, Try.ntmps34
    go_wp2
    go_ret
    exact ⟨_, rfl, h1.out, hbel'.alloc hw1 _⟩

def CopyPost (w : World) (p : Prm) (e : Ending) (w' : World) : Prop := ∃ v, e = .returned v ∧ PAt w' (fun k => w.heap.size ≤ k) v p ∧ Below w.heap.size w w'

theorem info_params : (Try.prog.info? 24).map (·.size) = some 4 := by kernel_rfl
theorem blk_below {w w' : World} {g : Nat} {t : TypeId} {cs : Array Value} (h : Blk w g t cs) {B : Nat} (hb : Below B w w') (hg : g < B) : Blk w' g t cs := (hb.block g hg).trans h

/-- Nothing has changed but the block of the result, which is still there. -/
def CpS (wq : World) (g : Nat) (W : World) : Prop := Chg (fun j => j = g + 1) wq W ∧ ∃ a b c d, Blk W (g + 1) 24 #[a, b, c, d]
namespace CpS
variable {wq W W' : World} {g : Nat}
theorem drew (h : CpS wq g W) : CpS wq g W.drew := ⟨h.1.drew, h.2⟩
theorem alloc (h : CpS wq g W) (o : Obj) : CpS wq g (W.alloc o) := ⟨h.1.alloc o, by obtain ⟨a, b, c, d, hb⟩ := h.2; exact ⟨a, b, c, d, hb.alloc o⟩⟩
theorem below (h : CpS wq g W) (hb : Below W.heap.size W W') : CpS wq g W' := ⟨h.1.trans (Chg.of_below (S := fun _ => False) hb) (fun _ h _ => h.elim), by obtain ⟨a, b, c, d, h2⟩ := h.2; exact ⟨a, b, c, d, h2.chg (Chg.of_below (S := fun _ => False) hb) (fun h => h)⟩⟩
theorem store4 (h : CpS wq g W) (a b c d : Value) : CpS wq g ((((W.setCell ⟨g + 1, 0, none⟩ a).setCell ⟨g + 1, 1, none⟩ b).setCell ⟨g + 1, 2, none⟩ c).setCell ⟨g + 1, 3, none⟩ d) :=
  ⟨(((h.1.setCell (p := ⟨g + 1, 0, none⟩) (.inl rfl) _).setCell (p := ⟨g + 1, 1, none⟩) (.inl rfl) _).setCell (p := ⟨g + 1, 2, none⟩) (.inl rfl) _).setCell (p := ⟨g + 1, 3, none⟩) (.inl rfl) _, by
    obtain ⟨a', b', c', d', h2⟩ := h.2
    exact ⟨a, b, c, d, (((h2.set 0 a).set 1 b).set 2 c).set 3 d⟩⟩
theorem frozen (h : CpS wq g W) (i : Nat) : W.frozen? ⟨g + 1, i, none⟩ = false := by obtain ⟨a, b, c, d, h2⟩ := h.2; exact h2.frozen i
theorem cells (h : CpS wq g W) : ∃ a b c d, W.cell? ⟨g + 1, 0, none⟩ = some a ∧ W.cell? ⟨g + 1, 1, none⟩ = some b ∧ W.cell? ⟨g + 1, 2, none⟩ = some c ∧ W.cell? ⟨g + 1, 3, none⟩ = some d := by
  obtain ⟨a, b, c, d, h2⟩ := h.2
  exact ⟨a, b, c, d, h2.cell 0, h2.cell 1, h2.cell 2, h2.cell 3⟩
end CpS
theorem rd_to {w wq W : World} {D : Nat → Prop} {size n : Nat} {A : Option Addr} {xs : List Value} (h : Rd w D size A n xs) (h1 : Chg (fun _ => False) w wq) {g : Nat} (hg : w.heap.size ≤ g + 1) (h2 : Chg (fun j => j = g + 1) wq W) : Rd W (fun _ => True) size A n xs :=
  ⟨h.1, fun hn => by
    obtain ⟨b, o, e, hb, _, hc⟩ := h.2 hn
    have hs := h1.size
    have hs2 := h2.size
    exact ⟨b, o, e, by omega, trivial, fun j u hu => (h2.cell (p := ⟨b, o + j, none⟩) (by show b < _; omega) (fun e => by have e : b = g + 1 := e; omega)).trans ((h1.cell (p := ⟨b, o + j, none⟩) hb (fun h => h)).trans (hc j u hu))⟩⟩

set_option maxHeartbeats 8000000 in
set_option maxRecDepth 100000 in
theorem copy_params_any (D : Nat → Prop) (p : Prm) (hp : p.Fine) (v : Value) (w : World) (h : PAt w D v p) :
    Calls Try.prog 11 #[v] w (CopyPost w p) := by
  obtain ⟨A, ca, B, cb, rfl, hA, hB⟩ := h
  obtain ⟨i0, hi0, hz0, hz1, hz2⟩ := info_parts info_u8
  have hal := hp.a
  have hbl := hp.b
  generalize hg : w.heap.size = g
  have hst : Blk (w.alloc (.cells #[.int .i64 p.kind, .int .i64 p.n, .slice A p.a.length ca, .slice B p.b.length cb] 24)) g 24 #[.int .i64 p.kind, .int .i64 p.n, .slice A p.a.length ca, .slice B p.b.length cb] := by rw [← hg]; exact Blk.new _ _ _
  have hst1 := hst.alloc (.cells #[.int .i64 0, .int .i64 0, .slice none 0 0, .slice none 0 0] 24)
  have hre1 : Blk ((w.alloc (.cells #[.int .i64 p.kind, .int .i64 p.n, .slice A p.a.length ca, .slice B p.b.length cb] 24)).alloc (.cells #[.int .i64 0, .int .i64 0, .slice none 0 0, .slice none 0 0] 24)) (g + 1) 24 #[.int .i64 0, .int .i64 0, .slice none 0 0, .slice none 0 0] := by
    have := Blk.new (w.alloc (.cells #[.int .i64 p.kind, .int .i64 p.n, .slice A p.a.length ca, .slice B p.b.length cb] 24)) 24 #[.int .i64 0, .int .i64 0, .slice none 0 0, .slice none 0 0]
    simp only [World.size_alloc, hg] at this
    exact this
  have hwq : Chg (fun _ => False) w ((w.alloc (.cells #[.int .i64 p.kind, .int .i64 p.n, .slice A p.a.length ca, .slice B p.b.length cb] 24)).alloc (.cells #[.int .i64 0, .int .i64 0, .slice none 0 0, .slice none 0 0] 24)) := ((Chg.refl _ _).alloc _).alloc _
  have hsq : ((w.alloc (.cells #[.int .i64 p.kind, .int .i64 p.n, .slice A p.a.length ca, .slice B p.b.length cb] 24)).alloc (.cells #[.int .i64 0, .int .i64 0, .slice none 0 0, .slice none 0 0] 24)).heap.size = g + 2 := by simp [hg]
  go_enter Try.func11, Try.ntmps11
  go_wp2
  generalize ((w.alloc (.cells #[.int .i64 p.kind, .int .i64 p.n, .slice A p.a.length ca, .slice B p.b.length cb] 24)).alloc (.cells #[.int .i64 0, .int .i64 0, .slice none 0 0, .slice none 0 0] 24)) = wq at *
  have hsq := Lib.hid hsq
  have hS1 : ∀ W, CpS wq g W → W.cell? ⟨g, 0, none⟩ = some (.int .i64 p.kind) ∧ W.cell? ⟨g, 1, none⟩ = some (.int .i64 p.n) ∧ W.cell? ⟨g, 2, none⟩ = some (.slice A p.a.length ca) ∧ W.cell? ⟨g, 3, none⟩ = some (.slice B p.b.length cb) ∧ CpS wq g W := fun W hW => by
    have hb := hst1.chg hW.1 (fun h => by omega)
    exact ⟨(hb.cell 0).trans rfl, (hb.cell 1).trans rfl, (hb.cell 2).trans rfl, (hb.cell 3).trans rfl, hW⟩
  have hAq : ∀ W, CpS wq g W → Rd W (fun _ => True) 1 A p.a.length (u8s p.a) := fun W hW => rd_to hA hwq (by omega) hW.1
  have hBq : ∀ W, CpS wq g W → Rd W (fun _ => True) 1 B p.b.length (u8s p.b) := fun W hW => rd_to hB hwq (by omega) hW.1
  have c0 : CpS wq g wq := ⟨Chg.refl _ _, _, _, _, _, hre1⟩
  have hSq := hS1 wq c0
  clear hA hB hst hst1 hp hre1
  go_region_held3 (fun W => W.cell? ⟨g, 0, none⟩ = some (.int .i64 p.kind) ∧ W.cell? ⟨g, 1, none⟩ = some (.int .i64 p.n) ∧ W.cell? ⟨g, 2, none⟩ = some (.slice A p.a.length ca) ∧ W.cell? ⟨g, 3, none⟩ = some (.slice B p.b.length cb) ∧ CpS wq g W)
    (first
      | exact hSq
      | exact hS1 _ (CpS.drew (And.right (And.right (And.right (And.right (by assumption))))))
      | exact hS1 _ (CpS.alloc (And.right (And.right (And.right (And.right (by assumption))))) _)
      | exact hS1 _ dX
      | exact hS1 _ dY
      | exact hS1 _ (CpS.store4 (And.right (And.right (And.right (And.right (by assumption))))) _ _ _ _))
    (first
      | (refine step_append_fresh _ (by rfl) (.tmp 7) (.tmp 9) 22 (by rfl) 5 i0 _ 1 1 Try.underlying22 hi0 hz0 hz1 hz2 (by rfl) (by omega) _ (by rfl) (fun _ => True) A p.a.length ca (u8s p.a) (by rfl) (by exact hAq _ (And.right (And.right (And.right (And.right (by assumption)))))) (u8s_one _) (by simp only [maxLen]; omega) (by omega) ?_
         intro AX cX' wX hcX hrX hbX
         have dX : CpS wq g wX := CpS.below (And.right (And.right (And.right (And.right (by assumption))))) hbX
         have fX : ∀ i, wX.frozen? ⟨g + 1, i, none⟩ = false := dX.frozen
         obtain ⟨_, _, _, _, r0X, r1X, r2X, r3X⟩ := dX.cells)
      | (refine step_append_fresh _ (by rfl) (.tmp 11) (.tmp 13) 22 (by rfl) 5 i0 _ 1 1 Try.underlying22 hi0 hz0 hz1 hz2 (by rfl) (by omega) _ (by rfl) (fun _ => True) B p.b.length cb (u8s p.b) (by rfl) (by exact hBq _ (And.right (And.right (And.right (And.right (by assumption)))))) (u8s_one _) (by simp only [maxLen]; omega) (by omega) ?_
         intro AY cY' wY hcY hrY hbY
         have dY : CpS wq g wY := CpS.below (And.right (And.right (And.right (And.right (by assumption))))) hbY
         have fY : ∀ i, wY.frozen? ⟨g + 1, i, none⟩ = false := dY.frozen
         obtain ⟨_, _, _, _, r0Y, r1Y, r2Y, r3Y⟩ := dY.cells))
  all_goals
    have hq2 := hsq.out
    have kX : ∃ n, g + 2 ≤ n ∧ Rd wX (fun k => n ≤ k) 1 AX p.a.length (u8s p.a) := ⟨_, by simp only [World.size_alloc, World.size_drew]; omega, hrX⟩
    have kY : ∃ n, g + 2 ≤ n ∧ Rd wY (fun k => n ≤ k) 1 AY p.b.length (u8s p.b) := ⟨_, by have h1 := hbX.size; simp only [World.size_alloc, World.size_drew] at h1 ⊢; omega, hrY⟩
    have kXY : Chg (fun _ => False) wX wY := by first | exact Chg.of_below hbY | exact ((Chg.refl _ _).alloc _).trans (Chg.of_below (S := fun _ => False) hbY) (fun _ h _ => h)
    obtain ⟨_, hn1, kX⟩ := kX
    obtain ⟨_, hn2, kY⟩ := kY
    have hfin : Chg (fun j => j = g + 1) wY ((((wY.setCell ⟨g + 1, 0, none⟩ (.int .i64 p.kind)).setCell ⟨g + 1, 1, none⟩ (.int .i64 p.n)).setCell ⟨g + 1, 2, none⟩ (.slice AX p.a.length cX')).setCell ⟨g + 1, 3, none⟩ (.slice AY p.b.length cY')) :=
      ((((Chg.refl (fun j => j = g + 1) wY).setCell (p := ⟨g + 1, 0, none⟩) (.inl rfl) _).setCell (p := ⟨g + 1, 1, none⟩) (.inl rfl) _).setCell (p := ⟨g + 1, 2, none⟩) (.inl rfl) _).setCell (p := ⟨g + 1, 3, none⟩) (.inl rfl) _
    have hall : Chg (fun _ => False) w _ := (hwq.trans dY.1 (fun x hx hlt => by omega)).trans hfin (fun x hx hlt => by omega)
    have hpost : CopyPost w p (.returned (.agg #[.int .i64 p.kind, .int .i64 p.n, .slice AX p.a.length cX', .slice AY p.b.length cY'])) _ :=
      ⟨_, rfl, ⟨AX, cX', AY, cY', rfl, (((kX.chg kXY (fun _ _ _ h => h)).chg hfin (fun k hk _ e => by omega)).mono (fun k hk _ => by omega)), ((kY.chg hfin (fun k hk _ e => by omega)).mono (fun k hk _ => by omega))⟩, hall.below (by omega) (fun x hx => hx.elim)⟩
    obtain ⟨_, _, _, _, h2⟩ := dY.2
    have hbR : Blk ((((wY.setCell ⟨g + 1, 0, none⟩ (.int .i64 p.kind)).setCell ⟨g + 1, 1, none⟩ (.int .i64 p.n)).setCell ⟨g + 1, 2, none⟩ (.slice AX p.a.length cX')).setCell ⟨g + 1, 3, none⟩ (.slice AY p.b.length cY')) (g + 1) 24 #[.int .i64 p.kind, .int .i64 p.n, .slice AX p.a.length cX', .slice AY p.b.length cY'] :=
      (((h2.set 0 _).set 1 _).set 2 _).set 3 _
    have hpost := Lib.hid hpost
    clear hall hfin kX kY kXY hrX hrY hbX hbY h2 hS1 hAq hBq hSq
    go_wp2
    refine bodyPost_ret (results_cell_row rfl _ _ (g + 1) _ _ _ _ rfl hbR Try.underlying24 rfl info_params) rfl ?_
    exact hpost.out
end Go.Proofs.Ytkgmbomfkdkofaa
