/- The machine of package uniq is one that Drive can drive. -/
import Derived.Test.YtfbfcehjlaallaaDoorUniqL
import Derived.Test.YtfbfcehjlaallaaDoorLines
namespace Go.Proofs.YtfbfcehjlaallaaDoor
open Go Go.RowKit

theorem uniq_few (t : UT) (l : Bs) : (uniqK.each t l).1.length ≤ 2 := by
  show (if 0 < t.n ∧ l = t.last then (([] : Outs), { t with n := wrap64 (t.n + 1) }) else (if t.counts = true then uGroup t else tellS 0 [l], { t with last := l, n := 1 })).1.length ≤ 2
  split
  · simp
  · dsimp only
    split
    · unfold uGroup tellS; split <;> simp
    · unfold tellS; simp

section
variable {g B : Nat}

abbrev uLast (g : Nat) : Value := .func (.func 19) #[.pointer (some ⟨g, 0, none⟩)] #[]

theorem uniq_lwalk (hB : B ≤ g) : LWalk Tryd.prog uniqK g B 61 (TabOk B) 18 (uLast g) UX where
  far t cs cs' hc h := ux_far hc h
  env w w' hb h := TabOk.on hb h
  le := hB
  ty := by decide
  enters args w := by kernel_rfl
  short t l := by
    exact uniq_few t l
  each t cs l w hb hx hl hE := line_any hB t cs l w hb hx hl hE

theorem uniq_llast (hB : B ≤ g) : LLast Tryd.prog uniqK g 61 (TabOk B) (uLast g) UX := by
  refine .inr ⟨_, rfl, fun args w => by kernel_rfl, fun t => ?_, fun w => by kernel_rfl, fun t cs w hb hx hE => ?_⟩
  · show (uGroup t).length ≤ 2
    unfold uGroup tellS; split <;> simp
  · refine (group_any hB t cs w hb hx hE).mono ?_
    rintro e w' ⟨v, rfl, hb', hc, ho⟩
    exact ⟨v, _, rfl, hb', ux_n hx 0 (by omega) (by omega), fun i hi => Array.getElem?_setIfInBounds_ne (by omega), hc, ho⟩

def UI (t : UT) : Prop := t.last.length ≤ 64 ∧ -9223372036854775808 ≤ t.n ∧ t.n ≤ 9223372036854775807

theorem tellS_sum (port : Int) (l : List Bs) : ((tellS port l).map fun o => o.2.length).sum = (joinS l).length := by
  unfold tellS
  split
  · rename_i h; simp [h, joinS]
  · simp

theorem uGroup_sum (t : UT) (h : UI t) : ((uGroup t).map fun o => o.2.length).sum ≤ 1000 := by
  unfold uGroup
  split
  · simp
  · rw [tellS_sum]
    have h1 := Lib.itoa_length_le t.n h.2.1 h.2.2
    have h2 := h.1
    simp [joinS]
    omega

theorem uniq_small : LSmall uniqK UI where
  keep t l h hl := by
    show UI (if 0 < t.n ∧ l = t.last then (([] : Outs), { t with n := wrap64 (t.n + 1) }) else (if t.counts = true then uGroup t else tellS 0 [l], { t with last := l, n := 1 })).2
    split
    · exact ⟨h.1, by unfold wrap64; dsimp only; omega, by unfold wrap64; dsimp only; omega⟩
    · exact ⟨hl, by dsimp only; omega, by dsimp only; omega⟩
  each t l h hl := by
    show ((if 0 < t.n ∧ l = t.last then (([] : Outs), { t with n := wrap64 (t.n + 1) }) else (if t.counts = true then uGroup t else tellS 0 [l], { t with last := l, n := 1 })).1.map _).sum ≤ _
    split
    · simp
    · dsimp only
      split
      · exact uGroup_sum t h
      · rw [tellS_sum]; simp [joinS]; omega
  last t h := uGroup_sum t h
  fewE t l := by
    exact uniq_few t l
  fewL t := by
    show (uGroup t).length ≤ 2
    unfold uGroup tellS; split <;> simp

set_option maxHeartbeats 400000 in
set_option maxRecDepth 100000 in
theorem uniq_held (s : LS UT) (w : World) (h : LInv uniqK g 61 18 (uLast g) UX w s) :
    Calls Tryd.prog 88 #[.pointer (some ⟨g, 0, none⟩)] w fun e w' => e = .returned (.int .i64 (uniqK.mach.held s)) ∧ Chg (fun _ => False) w w' := by
  obtain ⟨_, _, _, h67, hle⟩ := lines_cells h
  have hl := fun (W : World) (h : W.cell? ⟨g, 67, none⟩ = some (.int .i64 s.beg.length)) => lines_held (g := g) s.beg.length W h
  have hl' : ∀ n, Calls Tryd.prog 98 #[.pointer (some ⟨g, 0, none⟩)] (w.drewN n) fun e w' => e = .returned (.int .i64 s.beg.length) ∧ w' = w.drewN n := fun n => (hl (w.drewN n) h67).mono fun _ _ h => ⟨h.1, h.2.symm⟩
  obtain ⟨cs, hb, hc, hx⟩ := h
  have h72 : w.cell? ⟨g, 72, none⟩ = some (strv s.t.last) := (hb.cell _).trans hx.last
  have hle2 := hx.le
  have e : uniqK.mach.held s = (s.beg.length : Int) + s.t.last.length := rfl
  rw [e]
  clear hb hx hc e
  go_enter Tryd.func88, Tryd.ntmps88
  go_wp2
  go_quiet ((go_at_call 98; exact Calls.quiet_of_same (hl' _)))
  go_wp2
  go_ret
  exact ⟨by simp, (Chg.refl _ _).drewN _⟩

theorem uniq_mach (hB : B ≤ g) : MachOk Tryd.prog uniqK.mach B 50 (.pointer (some ⟨g, 0, none⟩)) (TabOk B) (LinesInv uniqK g B 61 18 (uLast g) UX) 90 88 87 86 89
      (.pointer (some ⟨g, 0, none⟩)) (.pointer (some ⟨g, 0, none⟩)) (.pointer (some ⟨g, 0, none⟩)) (.pointer (some ⟨g, 0, none⟩)) (.pointer (some ⟨g, 0, none⟩)) :=
  lines_mach (uniq_lwalk hB) (uniq_llast hB) uniq_small (fun t cs h => ⟨h.le, h.lo, h.hi⟩) _
    ⟨fun w => by kernel_rfl, fun args w => by kernel_rfl⟩ _ ⟨fun w => by kernel_rfl, fun args w => by kernel_rfl⟩ ⟨fun w => by kernel_rfl, fun args w => by kernel_rfl⟩ ⟨fun w => by kernel_rfl, fun args w => by kernel_rfl⟩ ⟨fun w => by kernel_rfl, fun args w => by kernel_rfl⟩
    (fun s w h _ => uniq_held s w h)
end
end Go.Proofs.YtfbfcehjlaallaaDoor
