/- The machine of package uniq: its methods line, group, Held, against the pure kind uniqK. -/
import Derived.Test.YtfbfcehjlaallaaDoorLines
import Derived.Test.YtfbfcehjlaallaaDoorItoa
import Derived.Deep.RegionHeld3
import Derived.Deep.DrawnRows
import Derived.BigQuiet
namespace Go.Proofs.YtfbfcehjlaallaaDoor
open Go Go.RowKit

structure UT where
  counts : Bool
  last : Bs
  n : Int

/-- What is told behind a group. -/
def uGroup (t : UT) : Outs := if t.n = 0 ∨ t.counts = false then [] else tellS 0 [Lib.itoa t.n ++ [32] ++ t.last]

abbrev uniqK : LK where
  τ := UT
  each t l := if 0 < t.n ∧ l = t.last then ([], { t with n := wrap64 (t.n + 1) }) else (if t.counts = true then uGroup t else tellS 0 [l], { t with last := l, n := 1 })
  last t := (uGroup t, { t with n := 0 })
  heldX t := t.last.length

structure UX (t : UT) (cs : Array Value) : Prop where
  counts : cs[71]? = some (.bool t.counts)
  last : cs[72]? = some (strv t.last)
  n : cs[73]? = some (.int .i64 t.n)
  le : t.last.length ≤ 64
  lo : -9223372036854775808 ≤ t.n
  hi : t.n ≤ 9223372036854775807

theorem run_cat (a b : Bs) (ha : a.length ≤ 100000) (hb : b.length ≤ 100000) (W : World) : (Op.stringOp .add ⟨a.toArray⟩ ⟨b.toArray⟩).run Tryd.prog W = .ok (strv (a ++ b)) W := by
  rw [run_string_add_sum W _ _ (by simp [ByteArray.size]; omega), ByteArray.mk_append_mk]

theorem rd_one {w : World} {T : TypeId} (x : Bs) : Rd (w.alloc (.cells #[strv x] T)) (fun j => j = w.heap.size) 1 (some ⟨w.heap.size, 0, none⟩) 1 ([x].map strv) :=
  ⟨rfl, fun _ => ⟨w.heap.size, 0, rfl, by simp, rfl, fun j u hu => by rw [Nat.zero_add, cell_of_row _ _ j _ _ (0, 0) (heap_alloc_new w _)]; simpa using hu⟩⟩

section
variable {g B : Nat} {T : TypeId}

set_option maxHeartbeats 1000000 in
set_option maxRecDepth 100000 in
theorem group_any (hB : B ≤ g) (t : UT) (cs : Array Value) (w : World) (hb : Blk w g T cs) (hx : UX t cs) (hE : TabOk B w) :
    Calls Tryd.prog 19 #[.pointer (some ⟨g, 0, none⟩)] w fun e w' => ∃ v, e = .returned v ∧ Blk w' g T (cs.setIfInBounds 73 (.int .i64 0)) ∧ Chg (fun j => j = g) w w' ∧ OutsAt w' (fun j => w.heap.size ≤ j) v (uGroup t) := by
  have h71 : w.cell? ⟨g, 71, none⟩ = some (.bool t.counts) := (hb.cell _).trans hx.counts
  have h72 : w.cell? ⟨g, 72, none⟩ = some (strv t.last) := (hb.cell _).trans hx.last
  have h73 : w.cell? ⟨g, 73, none⟩ = some (.int .i64 t.n) := (hb.cell _).trans hx.n
  have hf : ∀ i, w.frozen? ⟨g, i, none⟩ = false := fun i => hb.frozen i
  have hb1 := hb.set 73 (.int .i64 0)
  have hch : Chg (fun j => j = g) w (w.setCell ⟨g, 73, none⟩ (.int .i64 0)) := (Chg.refl (fun j => j = g) w).setCell (p := ⟨g, 73, none⟩) (.inl rfl) _
  have hgl := hb.lt
  by_cases h0 : t.n = 0
  · have e : uGroup t = [] := by simp [uGroup, h0]
    have hz : (t.n == 0) = true := by rw [h0]; rfl
    rw [e]
    clear hx hb h0
    go_enter Tryd.func19, Tryd.ntmps19
    go_wp2
    go_ret
    exact ⟨_, rfl, hb1, hch, OutsAt.nil _ _ _ _⟩
  · have hz : (t.n == 0) = false := by rw [beq_eq_false_iff_ne]; exact h0
    by_cases hc : t.counts = false
    · have e : uGroup t = [] := by simp [uGroup, hc]
      rw [e]
      rw [hc] at h71
      clear hx hb h0 hc e
      go_enter Tryd.func19, Tryd.ntmps19
      go_wp2
      go_ret
      exact ⟨_, rfl, hb1, hch, OutsAt.nil _ _ _ _⟩
    · have e : uGroup t = tellS 0 [Lib.itoa t.n ++ [32] ++ t.last] := by unfold uGroup; rw [if_neg (by simp [h0, hc])]
      have hct : t.counts = true := by simpa using hc
      rw [e]
      rw [hct] at h71
      have hil := Lib.itoa_length_le t.n hx.lo hx.hi
      have hle := hx.le
      have hE1 : TabOk B (w.setCell ⟨g, 73, none⟩ (.int .i64 0)) := hE.on ((Below.refl B w).setCell (p := ⟨g, 73, none⟩) hB _)
      have hit := fun (W : World) (hW : TabOk B W) => itoa_any B t.n hx.lo hx.hi W hW
      have c1 := fun W => run_cat (Lib.itoa t.n) [32] (by omega) (by simp) W
      have c2 := fun W => run_cat (Lib.itoa t.n ++ [32]) t.last (by simp; omega) (by omega) W
      have q72 : (w.setCell ⟨g, 73, none⟩ (.int .i64 0)).cell? ⟨g, 72, none⟩ = some (strv t.last) := (World.cell?_setCell_other _ _ _ _ (by simp)).trans h72
      generalize hs : Lib.itoa t.n = ds at *
      have hxl : (ds ++ [32] ++ t.last).length ≤ 200 := by simp; omega
      generalize hx2 : ds ++ [32] ++ t.last = x at *
      generalize hy2 : ds ++ [32] = y at *
      have hxx := Lib.hid hx2
      clear hx hb h0 hc e hct hs hx2 hy2
      go_enter Tryd.func19, Tryd.ntmps19
      go_wp2
      go_region_held3 (fun w' => w'.cell? ⟨g, 72, none⟩ = some (strv t.last))
        (first
          | exact q72
          | exact hk1
          | exact hk2 _
          | exact hk3)
        (first
          | (go_at_call 29
             refine (hit _ (TabOk.on (Below.refl B _).drew hE1)).mono ?_
             rintro e1 w1 ⟨rfl, hch1⟩
             have hg0 : g < (w.setCell ⟨g, 73, none⟩ (.int .i64 0)).heap.size := by simpa [World.setCell] using hgl
             have hg1 : g < w1.heap.size := Nat.lt_of_lt_of_le hg0 hch1.size
             have hk1 : w1.cell? ⟨g, 72, none⟩ = some (strv t.last) := (hch1.cell (p := ⟨g, 72, none⟩) hg0 (fun h => h)).trans q72
             have hk2 : ∀ o, (w1.alloc o).cell? ⟨g, 72, none⟩ = some (strv t.last) := fun o => (World.cell?_alloc_lt w1 o ⟨g, 72, none⟩ hg1).trans hk1)
          | (go_at_call 28
             refine (tell_any _ 0 (some ⟨w1.heap.size, 0, none⟩) 1 [x] _ (rd_one _) (by simp) (by simp [joinS]; omega)).mono ?_
             rintro e2 w2 ⟨v2, rfl, ho2, hb2⟩
             have hk3 : w2.cell? ⟨g, 72, none⟩ = some (strv t.last) := (hb2.cell (p := ⟨g, 72, none⟩) (by simp; show g < _; omega)).trans (hk2 _)))
      go_wp2
      go_ret
      have hs1 := hch1.size
      simp [World.setCell] at hs1
      have hcw : Chg (fun j => j = g) (w.setCell ⟨g, 73, none⟩ (.int .i64 0)) w2 := (((Chg.refl (fun j => j = g) (w.setCell ⟨g, 73, none⟩ (.int .i64 0))).drew.trans (hch1.mono (S' := fun j => j = g) (fun _ h _ => h.elim)) (fun _ h _ => h)).alloc _).trans (Chg.of_below (S := fun j => j = g) hb2) (fun _ h _ => h)
      have hcf : Chg (fun _ => False) (w.setCell ⟨g, 73, none⟩ (.int .i64 0)) w2 := (((Chg.refl (fun _ => False) (w.setCell ⟨g, 73, none⟩ (.int .i64 0))).drew.trans hch1 (fun _ h _ => h)).alloc _).trans (Chg.of_below (S := fun _ => False) hb2) (fun _ h _ => h)
      refine ⟨_, rfl, hb1.chg hcf (fun h => h), hch.trans hcw (fun _ h _ => h), ?_⟩
      exact ho2.mono (fun j hj _ => by simp at hj; omega)

theorem ux_far {t : UT} {cs cs' : Array Value} (hc : ∀ i, 71 ≤ i → cs'[i]? = cs[i]?) (h : UX t cs) : UX t cs' :=
  ⟨(hc _ (by omega)).trans h.counts, (hc _ (by omega)).trans h.last, (hc _ (by omega)).trans h.n, h.le, h.lo, h.hi⟩
theorem ux_size {t : UT} {cs : Array Value} (h : UX t cs) : 73 < cs.size := (Array.getElem?_eq_some_iff.1 h.n).1
theorem ux_n {t : UT} {cs : Array Value} (h : UX t cs) (n : Int) (h0 : -9223372036854775808 ≤ n) (h1 : n ≤ 9223372036854775807) : UX { t with n := n } (cs.setIfInBounds 73 (.int .i64 n)) := by
  have hs := ux_size h
  exact ⟨by rw [Array.getElem?_setIfInBounds_ne (by omega)]; exact h.counts, by rw [Array.getElem?_setIfInBounds_ne (by omega)]; exact h.last, Array.getElem?_setIfInBounds_self_of_lt hs, h.le, h0, h1⟩
theorem ux_last {t : UT} {cs : Array Value} (h : UX t cs) (l : Bs) (hl : l.length ≤ 64) : UX { t with last := l } (cs.setIfInBounds 72 (strv l)) := by
  have hs := ux_size h
  exact ⟨by rw [Array.getElem?_setIfInBounds_ne (by omega)]; exact h.counts, Array.getElem?_setIfInBounds_self_of_lt (by omega), by rw [Array.getElem?_setIfInBounds_ne (by omega)]; exact h.n, hl, h.lo, h.hi⟩

end
end Go.Proofs.YtfbfcehjlaallaaDoor
