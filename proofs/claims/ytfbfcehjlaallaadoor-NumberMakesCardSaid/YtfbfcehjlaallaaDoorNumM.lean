/- The machine of package number is one that Drive can drive. -/
import Derived.Test.YtfbfcehjlaallaaDoorUniqL
namespace Go.Proofs.YtfbfcehjlaallaaDoor
open Go Go.RowKit

structure NX (t : Int) (cs : Array Value) : Prop where
  next : cs[71]? = some (.int .i64 t)
  lo : -9223372036854775808 ≤ t
  hi : t ≤ 9223372036854775807

abbrev numK : LK where
  τ := Int
  each t l := (tellS 0 [Lib.itoa t ++ [32] ++ l], wrap64 (t + 1))
  last t := ([], t)
  heldX _ := 0

theorem nx_far {t : Int} {cs cs' : Array Value} (hc : ∀ i, 71 ≤ i → cs'[i]? = cs[i]?) (h : NX t cs) : NX t cs' := ⟨(hc _ (by omega)).trans h.next, h.lo, h.hi⟩

section
variable {g B : Nat} {T : TypeId}

def NEachPost (g : Nat) (T : TypeId) (cs : Array Value) (w : World) (r : Outs × Int) (e : Ending) (w' : World) : Prop :=
  ∃ v cs', e = .returned v ∧ Blk w' g T cs' ∧ NX r.2 cs' ∧ (∀ i, i < 71 → cs'[i]? = cs[i]?) ∧ Chg (fun j => j = g) w w' ∧ OutsAt w' (fun j => w.heap.size ≤ j) v r.1

set_option maxHeartbeats 1000000 in
set_option maxRecDepth 100000 in
theorem nline_any (hB : B ≤ g) (t : Int) (cs : Array Value) (l : Bs) (w : World) (hb : Blk w g T cs) (hx : NX t cs) (hl : l.length ≤ 64) (hE : TabOk B w) :
    Calls Tryd.prog 20 #[.pointer (some ⟨g, 0, none⟩), strv l] w (NEachPost g T cs w (numK.each t l)) := by
  have h71 : w.cell? ⟨g, 71, none⟩ = some (.int .i64 t) := (hb.cell _).trans hx.next
  have hf : ∀ i, w.frozen? ⟨g, i, none⟩ = false := fun i => hb.frozen i
  have hgl := hb.lt
  have hsz : 71 < cs.size := (Array.getElem?_eq_some_iff.1 hx.next).1
  have hw : -9223372036854775808 ≤ wrap64 (t + 1) ∧ wrap64 (t + 1) ≤ 9223372036854775807 := by unfold wrap64; omega
  have hb1 := hb.set 71 (.int .i64 (wrap64 (t + 1)))
  have hx1 : NX (wrap64 (t + 1)) (cs.setIfInBounds 71 (.int .i64 (wrap64 (t + 1)))) := ⟨Array.getElem?_setIfInBounds_self_of_lt hsz, hw.1, hw.2⟩
  have hch : Chg (fun j => j = g) w (w.setCell ⟨g, 71, none⟩ (.int .i64 (wrap64 (t + 1)))) := (Chg.refl (fun j => j = g) w).setCell (p := ⟨g, 71, none⟩) (.inl rfl) _
  have hil := Lib.itoa_length_le t hx.lo hx.hi
  have hE1 : TabOk B (w.setCell ⟨g, 71, none⟩ (.int .i64 (wrap64 (t + 1)))) := hE.on ((Below.refl B w).setCell (p := ⟨g, 71, none⟩) hB _)
  have hit := fun (W : World) (hW : TabOk B W) => itoa_any B t hx.lo hx.hi W hW
  have c1 := fun W => run_cat (Lib.itoa t) [32] (by omega) (by simp) W
  have c2 := fun W => run_cat (Lib.itoa t ++ [32]) l (by simp; omega) (by omega) W
  have e : numK.each t l = (tellS 0 [Lib.itoa t ++ [32] ++ l], wrap64 (t + 1)) := rfl
  rw [e]
  generalize hs : Lib.itoa t = ds at *
  have hxl : (ds ++ [32] ++ l).length ≤ 200 := by simp; omega
  generalize hx2 : ds ++ [32] ++ l = x at *
  generalize hy2 : ds ++ [32] = y at *
  have hxx := Lib.hid hx2
  replace hx := Lib.hid hx
  replace hb := Lib.hid hb
  clear hs hx2 hy2 e hw
  go_enter Tryd.func20, Tryd.ntmps20
  go_wp2_with (first
      | (go_at_call 29
         refine (hit _ hE1).mono ?_
         rintro e1 w1 ⟨rfl, hch1⟩)
      | (go_at_call 28
         refine (tell_any _ 0 (some ⟨w1.heap.size, 0, none⟩) 1 [x] _ (rd_one _) (by simp) (by simp [joinS]; omega)).mono ?_
         rintro e2 w2 ⟨v2, rfl, ho2, hb2⟩))
  go_ret
  have hs1 := hch1.size
  simp [World.setCell] at hs1
  have hcw : Chg (fun j => j = g) (w.setCell ⟨g, 71, none⟩ (.int .i64 (wrap64 (t + 1)))) w2 := (((Chg.refl (fun j => j = g) _).trans (hch1.mono (S' := fun j => j = g) (fun _ h _ => h.elim)) (fun _ h _ => h)).alloc _).trans (Chg.of_below (S := fun j => j = g) hb2) (fun _ h _ => h)
  have hcf : Chg (fun _ => False) (w.setCell ⟨g, 71, none⟩ (.int .i64 (wrap64 (t + 1)))) w2 := (((Chg.refl (fun _ => False) _).trans hch1 (fun _ h _ => h)).alloc _).trans (Chg.of_below (S := fun _ => False) hb2) (fun _ h _ => h)
  refine ⟨_, _, rfl, hb1.chg hcf (fun h => h), hx1, fun i hi => Array.getElem?_setIfInBounds_ne (by omega), hch.trans hcw (fun _ h _ => h), ?_⟩
  exact ho2.mono (fun j hj _ => by simp at hj; omega)

theorem num_lwalk (hB : B ≤ g) : LWalk Tryd.prog numK g B 64 (TabOk B) 20 .nilFunc NX where
  far t cs cs' hc h := nx_far hc h
  env w w' hb h := TabOk.on hb h
  le := hB
  ty := by decide
  enters args w := by kernel_rfl
  short t l := by show (tellS 0 [Lib.itoa t ++ [32] ++ l]).length ≤ 2; unfold tellS; simp
  each t cs l w hb hx hl hE := nline_any hB t cs l w hb hx hl hE

theorem num_llast : LLast Tryd.prog numK g 64 (TabOk B) .nilFunc NX := .inl ⟨rfl, fun _ => rfl⟩

def NI (t : Int) : Prop := -9223372036854775808 ≤ t ∧ t ≤ 9223372036854775807

theorem ntell_sum (l : List Bs) : ((tellS 0 l).map fun o => o.2.length).sum = (joinS l).length := by
  unfold tellS
  split
  · rename_i h; simp [h, joinS]
  · simp

theorem num_small : LSmall numK NI where
  keep t l h hl := by show -9223372036854775808 ≤ wrap64 (t + 1) ∧ wrap64 (t + 1) ≤ 9223372036854775807; unfold wrap64; omega
  each t l h hl := by
    show ((tellS 0 [Lib.itoa t ++ [32] ++ l]).map _).sum ≤ _
    have := Lib.itoa_length_le t h.1 h.2
    rw [ntell_sum]; simp [joinS]; omega
  last t h := by show ((([] : Outs)).map _).sum ≤ _; simp
  fewE t l := by show (tellS 0 [Lib.itoa t ++ [32] ++ l]).length ≤ 2; unfold tellS; simp
  fewL t := by show ([] : Outs).length ≤ 2; simp

theorem num_held (s : LS Int) (w : World) (h : LInv numK g 64 20 .nilFunc NX w s) :
    Calls Tryd.prog 98 #[.pointer (some ⟨g, 0, none⟩)] w fun e w' => e = .returned (.int .i64 (numK.mach.held s)) ∧ Chg (fun _ => False) w w' := by
  obtain ⟨_, _, _, h67, hle⟩ := lines_cells h
  have e : numK.mach.held s = (s.beg.length : Int) := by show (s.beg.length : Int) + 0 = _; omega
  rw [e]
  exact (lines_held (g := g) s.beg.length w h67).mono (by rintro e w' ⟨rfl, rfl⟩; exact ⟨rfl, Chg.refl _ _⟩)

theorem num_mach (hB : B ≤ g) : MachOk Tryd.prog numK.mach B 62 (.pointer (some ⟨g, 0, none⟩)) (TabOk B) (LinesInv numK g B 64 20 .nilFunc NX) 90 98 87 86 89
      (.pointer (some ⟨g, 0, none⟩)) (.pointer (some ⟨g, 0, none⟩)) (.pointer (some ⟨g, 0, none⟩)) (.pointer (some ⟨g, 0, none⟩)) (.pointer (some ⟨g, 0, none⟩)) :=
  lines_mach (num_lwalk hB) num_llast num_small (fun t cs h => ⟨h.lo, h.hi⟩) _
    ⟨fun w => by kernel_rfl, fun args w => by kernel_rfl⟩ _ ⟨fun w => by kernel_rfl, fun args w => by kernel_rfl⟩ ⟨fun w => by kernel_rfl, fun args w => by kernel_rfl⟩ ⟨fun w => by kernel_rfl, fun args w => by kernel_rfl⟩ ⟨fun w => by kernel_rfl, fun args w => by kernel_rfl⟩
    (fun s w h _ => num_held s w h)
end
end Go.Proofs.YtfbfcehjlaallaaDoor
