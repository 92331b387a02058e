/- A machine that a constructor gave: Drive drives it, and what comes of it. -/
import Derived.Test.YtkgmbomfkdkofaaDrive
import Derived.Test.YtkgmbomfkdkofaaStrm
namespace Go.Proofs.Ytkgmbomfkdkofaa
open Go Go.RowKit

/-- v is a machine that Drive can drive: its state is s, its memory F. -/
def Ready (M : Mach) (E : World → Prop) (B : Nat) (v : Value) (s : M.σ) (F : Nat → Prop) (w : World) : Prop :=
  ∃ T mv inv fN fH fF fE fM rN rH rF rE rM, v = .iface T mv ∧ MachOk Try.prog M B T mv E inv fN fH fF fE fM rN rH rF rE rM ∧ inv s F w ∧ E w

theorem Ready.chg {M : Mach} {E : World → Prop} {B : Nat} {v : Value} {s : M.σ} {F S : Nat → Prop} {w w' : World} (h : Ready M E B v s F w) (hc : Chg S w w') (hS : ∀ k, F k → ¬ S k) (hB : ∀ k, S k → B ≤ k) : Ready M E B v s F w' := by
  obtain ⟨T, mv, inv, fN, fH, fF, fE, fM, rN, rH, rF, rE, rM, rfl, HM, hi, hE⟩ := h
  exact ⟨T, mv, inv, fN, fH, fF, fE, fM, rN, rH, rF, rE, rM, rfl, HM, HM.keep _ _ _ _ _ hi hc hS, HM.env _ _ (hc.below (HM.inside _ _ _ hi).1 hB) hE⟩
theorem Ready.inside {M : Mach} {E : World → Prop} {B : Nat} {v : Value} {s : M.σ} {F : Nat → Prop} {w : World} (h : Ready M E B v s F w) : B ≤ w.heap.size ∧ (∀ k, F k → B ≤ k ∧ k < w.heap.size) ∧ E w := by
  obtain ⟨T, mv, inv, fN, fH, fF, fE, fM, rN, rH, rF, rE, rM, rfl, HM, hi, hE⟩ := h
  exact ⟨(HM.inside _ _ _ hi).1, (HM.inside _ _ _ hi).2, hE⟩

theorem Ready.heldM {M : Mach} {E : World → Prop} {B : Nat} {T : TypeId} {mv : Value} {s : M.σ} {F : Nat → Prop} {w : World} (h : Ready M E B (.iface T mv) s F w) : ∃ fH rH q, q = M.held s ∧ (∀ w, (method 309 T mv "Held").run Try.prog w = .ok (fH, rH) w) ∧
    (∀ args w, (callFunc fH args).run Try.prog w = .ok (.enter fH args) w) ∧ ∀ w', Chg (fun _ => False) w w' → Calls Try.prog fH #[rH] w' fun e w2 => e = .returned (.int .i64 q) ∧ Chg (fun _ => False) w' w2 := by
  obtain ⟨T', mv', inv, fN, fH, fF, fE, fM, rN, rH, rF, rE, rM, he, HM, hi, hE⟩ := h
  cases he
  exact ⟨fH, rH, _, rfl, HM.mH.row, HM.mH.enters, fun w' hc => HM.held s F w' (HM.keep _ _ _ _ _ hi hc (fun _ _ h => h)) (HM.env _ _ (hc.below (HM.inside _ _ _ hi).1 (fun _ h => h.elim)) hE)⟩

/-- What Drive has come to. -/
def DrivenPost (M : Mach) (E : World → Prop) (B : Nat) (v : Value) (den : Den) (bound : Int) (F0 : Nat → Prop) (w : World) (e : Ending) (w' : World) : Prop :=
  ∃ (d : DS M.σ) (F' : Nat → Prop), e = .returned (.agg (gotC den.outs den.need den.err d.held d.taken false)) ∧ d.held ≤ bound ∧ 0 ≤ M.held d.st ∧ Chg F0 w w' ∧ Ready M E B v d.st F' w' ∧ ∀ k, F' k → F0 k ∨ w.heap.size ≤ k

theorem drive_ready {M : Mach} {E : World → Prop} {B : Nat} {v : Value} {s : M.σ} {F : Nat → Prop} {w : World} (h : Ready M E B v s F w) (ins : List Strm) (cuts : List Int) (den : Den) (bound : Int) (hd : DEnd M den bound (drive M s ins cuts))
    (A C : Option Addr) (ca cc : Nat) (D : Nat → Prop) (hins : StrmsAt w D (.slice A ins.length ca) ins) (hcuts : Rd w D 1 C cuts.length (i64s cuts)) (hD : ∀ k, D k → ¬ F k) (hcl : cuts.length ≤ 100000) (hbl : ∀ x ∈ ins, x.bs.length ≤ 1000000) :
    Calls Try.prog 18 #[v, .slice A ins.length ca, .slice C cuts.length cc] w (DrivenPost M E B v den bound F w) := by
  obtain ⟨T, mv, inv, fN, fH, fF, fE, fM, rN, rH, rF, rE, rM, rfl, HM, hi, hE⟩ := h
  refine (drive_any HM s F ins cuts A C ca cc D w hi hE hins hcuts hD hcl hbl).mono ?_
  rintro e w' ⟨rfl, hc, hE', F', hi', hF'⟩
  refine ⟨_, F', ?_, hd.held, hd.fin, hc, ⟨T, mv, inv, fN, fH, fF, fE, fM, rN, rH, rF, rE, rM, rfl, HM, hi', hE'⟩, hF'⟩
  unfold GotVal
  rw [hd.outs, hd.need, hd.err, hd.bad]

/-- What a constructor gave. -/
def NewPost (T : TypeId) (M : Mach) (E : World → Prop) (B : Nat) (s : M.σ) (w : World) (e : Ending) (w' : World) : Prop :=
  ∃ (g : Nat) (F : Nat → Prop), e = .returned (.tuple #[.iface T (.pointer (some ⟨g, 0, none⟩)), .int .i64 0]) ∧ Ready M E B (.iface T (.pointer (some ⟨g, 0, none⟩))) s F w' ∧ (∀ k, F k → w.heap.size ≤ k) ∧ Chg (fun _ => False) w w'

theorem blk_new' {w : World} {g : Nat} (t : TypeId) (cs : Array Value) (hg : w.heap.size = g) : Blk (w.alloc (.cells cs t)) g t cs := by subst hg; exact Blk.new w t cs

/-- A Got is stored into its box. -/
theorem wpList_store_got {ops : Array Oper} {rest : List Oper} {o : Oper} {a : Act} {w : World} {Q : Exit → Act → World → Prop} (hgd : o.guard = none) (x y : Operand) (ho : o.op = .store 42 x y)
    (g : Nat) (outs : Nat → Bs) (need err held : Int) (taken : Nat → Nat) (bad : Bool) (hx : a.eval x = .pointer (some ⟨g, 0, none⟩)) (hy : a.eval y = .agg (gotC outs need err held taken bad))
    (old : Array Value) (hg : Blk w g 42 old) (hold : old.size = 12)
    (h : ∀ w', Blk w' g 42 (gotC outs need err held taken bad) → Chg (fun k => k = g) w w' → wpList Try.prog ops Q rest (a.put o.dst undef) w') : wpList Try.prog ops Q (o :: rest) a w :=
  wpList_store_row hgd _ x y ho g _ hx hy _ old hg info_got hold (gotC_one _ _ _ _ _ _) (h _ (blk_setRow hg) (chg_setRow (Chg.refl (fun k => k = g) _) (.inl rfl) _))
end Go.Proofs.Ytkgmbomfkdkofaa
