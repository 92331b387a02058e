/- The machine of package split is one that Drive can drive. -/
import Derived.Test.YtfbfcehjlaallaaLines
import Derived.Test.YtfbfcehjlaallaaTurnsP
namespace Go.Proofs.Ytfbfcehjlaallaa
open Go Go.RowKit

structure TX (t : Nat × Nat) (cs : Array Value) : Prop where
  outs : cs[71]? = some (.int .i64 (t.1 : Nat))
  next : cs[72]? = some (.int .i64 (t.2 : Nat))
  lo : 1 ≤ t.1
  hi : t.1 ≤ 4
  lt : t.2 < t.1

theorem tx_far {t : Nat × Nat} {cs cs' : Array Value} (hc : ∀ i, 71 ≤ i → cs'[i]? = cs[i]?) (h : TX t cs) : TX t cs' := ⟨(hc _ (by omega)).trans h.outs, (hc _ (by omega)).trans h.next, h.lo, h.hi, h.lt⟩
theorem rd_one1 {w : World} {T : TypeId} (x : Bs) {n : Nat} (hn : w.heap.size = n) : Rd (w.alloc (.cells #[strv x] T)) (fun j => j = n) 1 (some ⟨n, 0, none⟩) 1 ([x].map strv) := by
  subst hn
  refine ⟨rfl, fun _ => ⟨w.heap.size, 0, rfl, by simp, rfl, fun j u hu => ?_⟩⟩
  obtain rfl : j = 0 := by
    have := (List.getElem?_eq_some_iff.1 hu).1
    simpa using this
  simp at hu
  subst hu
  exact (Blk.new w T #[strv x]).cell 0

section
variable {g B : Nat} {T : TypeId}

def TEachPost (g : Nat) (T : TypeId) (cs : Array Value) (w : World) (r : Outs × (Nat × Nat)) (e : Ending) (w' : World) : Prop :=
  ∃ v cs', e = .returned v ∧ Blk w' g T cs' ∧ TX r.2 cs' ∧ (∀ i, i < 71 → cs'[i]? = cs[i]?) ∧ Chg (fun j => j = g) w w' ∧ OutsAt w' (fun j => w.heap.size ≤ j) v r.1

set_option maxHeartbeats 1000000 in
set_option maxRecDepth 100000 in
theorem tline_any (t : Nat × Nat) (cs : Array Value) (l : Bs) (w : World) (hb : Blk w g T cs) (hx : TX t cs) (hl : l.length ≤ 64) :
    Calls Try.prog 34 #[.pointer (some ⟨g, 0, none⟩), strv l] w (TEachPost g T cs w (turnK.each t l)) := by
  obtain ⟨n, k⟩ := t
  have hn1 := hx.lo
  have hn4 := hx.hi
  have hk := hx.lt
  dsimp only at hn1 hn4 hk
  have h71 : w.cell? ⟨g, 71, none⟩ = some (.int .i64 n) := (hb.cell _).trans hx.outs
  have h72 : w.cell? ⟨g, 72, none⟩ = some (.int .i64 k) := (hb.cell _).trans hx.next
  have hf : ∀ i, w.frozen? ⟨g, i, none⟩ = false := fun i => hb.frozen i
  have hgl := hb.lt
  have hsz : 72 < cs.size := (Array.getElem?_eq_some_iff.1 hx.next).1
  have e : turnK.each (n, k) l = (tellS (k : Nat) [l], (n, (k + 1) % n)) := rfl
  rw [e]
  have hml : (k + 1) % n < n := Nat.mod_lt _ (by omega)
  have hmod : Int.tmod ((k : Int) + 1) (n : Int) = (((k + 1) % n : Nat) : Int) := by
    rw [show ((k : Int) + 1) = ((k + 1 : Nat) : Int) by omega, Int.tmod_eq_emod_of_nonneg (by omega)]
    rfl
  have hmod2 : ((k : Int) + 1) % (n : Int) = (((k + 1) % n : Nat) : Int) := by
    rw [show ((k : Int) + 1) = ((k + 1 : Nat) : Int) by omega]
    rfl
  have hn0 : ((n : Int) == 0) = false := by rw [beq_eq_false_iff_ne]; omega
  have hn0' : ¬ (n : Int) = 0 := by omega
  have hb1 := hb.set 72 (.int .i64 ((k + 1) % n : Nat))
  have hx1 : TX (n, (k + 1) % n) (cs.setIfInBounds 72 (.int .i64 ((k + 1) % n : Nat))) := ⟨by rw [Array.getElem?_setIfInBounds_ne (by omega)]; exact hx.outs, Array.getElem?_setIfInBounds_self_of_lt hsz, hn1, hn4, hml⟩
  have hch : Chg (fun j => j = g) w (w.setCell ⟨g, 72, none⟩ (.int .i64 ((k + 1) % n : Nat))) := (Chg.refl (fun j => j = g) w).setCell (p := ⟨g, 72, none⟩) (.inl rfl) _
  generalize hm : (k + 1) % n = m at *
  replace hm := Lib.hid hm
  replace hx := Lib.hid hx
  replace hb := Lib.hid hb
  clear e
  go_enter Try.func34, Try.ntmps34
  go_wp2_with (first
      | (go_at_call 42
         refine (tell_any (fun j => j = w.heap.size) k (some ⟨w.heap.size, 0, none⟩) 1 [l] _ (rd_one1 l (by simp [World.setCell])) (by simp) (by simp [joinS]; omega)).mono ?_
         rintro e2 w2 ⟨v2, rfl, ho2, hb2⟩))
  go_ret
  have hcw : Chg (fun j => j = g) (w.setCell ⟨g, 72, none⟩ (.int .i64 m)) w2 := ((Chg.refl (fun j => j = g) _).alloc _).trans (Chg.of_below (S := fun j => j = g) hb2) (fun _ h _ => h)
  have hcf : Chg (fun _ => False) (w.setCell ⟨g, 72, none⟩ (.int .i64 m)) w2 := ((Chg.refl (fun _ => False) _).alloc _).trans (Chg.of_below (S := fun _ => False) hb2) (fun _ h _ => h)
  refine ⟨_, _, rfl, hb1.chg hcf (fun h => h), hx1, fun i hi => Array.getElem?_setIfInBounds_ne (by omega), hch.trans hcw (fun _ h _ => h), ?_⟩
  exact ho2.mono (fun j hj _ => by simp at hj; omega)

theorem turn_lwalk (hB : B ≤ g) : LWalk Try.prog turnK g B 85 (fun _ => True) 34 .nilFunc TX where
  far t cs cs' hc h := tx_far hc h
  env w w' hb h := trivial
  le := hB
  ty := by decide
  enters args w := by kernel_rfl
  short t l := by show (tellS (t.2 : Nat) [l]).length ≤ 2; unfold tellS; simp
  each t cs l w hb hx hl hE := tline_any t cs l w hb hx hl

theorem turn_llast : LLast Try.prog turnK g 85 (fun _ => True) .nilFunc TX := .inl ⟨rfl, fun _ => rfl⟩

theorem turn_small : LSmall turnK TI where
  keep t l h hl := turn_keep t l h
  each t l h hl := by
    show ((tellS (t.2 : Nat) [l]).map _).sum ≤ _
    rw [turn_tell]; simp; omega
  last t h := by show ((([] : Outs)).map _).sum ≤ _; simp
  fewE t l := by show (tellS (t.2 : Nat) [l]).length ≤ 2; rw [turn_tell]; simp
  fewL t := by show ([] : Outs).length ≤ 2; simp

theorem turn_held (s : LS (Nat × Nat)) (w : World) (h : LInv turnK g 85 34 .nilFunc TX w s) :
    Calls Try.prog 166 #[.pointer (some ⟨g, 0, none⟩)] w fun e w' => e = .returned (.int .i64 (turnK.mach.held s)) ∧ Chg (fun _ => False) w w' := by
  obtain ⟨_, _, _, h67, hle⟩ := lines_cells h
  have e : turnK.mach.held s = (s.beg.length : Int) := by show (s.beg.length : Int) + 0 = _; omega
  rw [e]
  exact (lines_held (g := g) s.beg.length w h67).mono (by rintro e w' ⟨rfl, rfl⟩; exact ⟨rfl, Chg.refl _ _⟩)

theorem turn_mach (hB : B ≤ g) : MachOk Try.prog turnK.mach B 79 (.pointer (some ⟨g, 0, none⟩)) (fun _ => True) (LinesInv turnK g B 85 34 .nilFunc TX) 91 166 165 164 90
      (.pointer (some ⟨g, 0, none⟩)) (.pointer (some ⟨g, 0, none⟩)) (.pointer (some ⟨g, 0, none⟩)) (.pointer (some ⟨g, 0, none⟩)) (.pointer (some ⟨g, 0, none⟩)) :=
  lines_mach (turn_lwalk hB) turn_llast turn_small (fun t cs h => ⟨h.lo, h.hi, h.lt⟩) _
    ⟨fun w => by kernel_rfl, fun args w => by kernel_rfl⟩ _ ⟨fun w => by kernel_rfl, fun args w => by kernel_rfl⟩ ⟨fun w => by kernel_rfl, fun args w => by kernel_rfl⟩ ⟨fun w => by kernel_rfl, fun args w => by kernel_rfl⟩ ⟨fun w => by kernel_rfl, fun args w => by kernel_rfl⟩
    (fun s w h _ => turn_held s w h)
end
end Go.Proofs.Ytfbfcehjlaallaa
