/- Split's poked machine. -/
import Derived.Test.YtilhjjfdaffabaaPoke0
import Derived.Test.YtilhjjfdaffabaaReady
import Derived.Test.YtilhjjfdaffabaaFresh
import Derived.Deep.RegionHeld3
import Derived.Deep.DrawnRows
import Derived.BigQuiet
import Derived.Outline
namespace Go.Proofs.Ytilhjjfdaffabaa.Split
open Go Go.RowKit

def RefPost (X : Nat) (cs : Array Value) (w : World) (e : Ending) (w' : World) : Prop := e = .returned (.tuple #[]) ∧ Blk w' X 52 cs ∧ Chg (fun j => j = X) w w'

theorem refused_any (X : Nat) (m p b : Value) (w : World) (hb : Blk w X 52 #[m, p, b, .bool false]) (A : Option Addr) (c : Nat) (e : Int) :
    Calls Try.prog 35 #[.pointer (some ⟨X, 0, none⟩), .int .i64 e, .slice A 0 c, .int .i64 e] w (RefPost X #[m, p, b, .bool false] w) := by
  have x3 : w.cell? ⟨X, 3, none⟩ = some (.bool false) := (hb.cell 3).trans rfl
  have f3 := hb.frozen 3
  have hb2 := hb.set 3 (.bool false)
  replace hb2 := Lib.hid hb2
  replace hb := Lib.hid hb
  go_enter Try.func35, Try.ntmps35
  go_wp2
  go_end0
  exact ⟨rfl, hb2.out, (Chg.refl (fun j => j = X) w).setCell (p := ⟨X, 3, none⟩) (.inl rfl) _⟩
/-- All that is not due has been called: nothing has changed. -/
def PokePost (M : Mach) (E : World → Prop) (inv : M.σ → (Nat → Prop) → World → Prop) (s : M.σ) (X : Nat) (cs : Array Value) (F : Nat → Prop) (w : World) (e : Ending) (w' : World) : Prop :=
  e = .returned (.tuple #[]) ∧ ∃ F', inv s F' w' ∧ (∀ k, F' k → F k ∨ w.heap.size ≤ k) ∧ Chg (fun k => F k ∨ k = X) w w' ∧ Blk w' X 52 cs ∧ E w'

/-- A machine's state, and its poked box. -/
structure PS (M : Mach) (E : World → Prop) (inv : M.σ → (Nat → Prop) → World → Prop) (s : M.σ) (X : Nat) (cs : Array Value) (F0 : Nat → Prop) (w0 : World) (F : Nat → Prop) (w : World) : Prop where
  inv : inv s F w
  env : E w
  new : ∀ k, F k → F0 k ∨ w0.heap.size ≤ k
  chg : Chg (fun k => F0 k ∨ k = X) w0 w
  blk : Blk w X 52 cs

section
variable {M : Mach} {B : Nat} {T : TypeId} {mv : Value} {E : World → Prop} {inv : M.σ → (Nat → Prop) → World → Prop} {fN fH fF fE fM : FuncId} {rN rH rF rE rM : Value}

theorem PS.quiet (HM : MachOk Try.prog M B T mv E inv fN fH fF fE fM rN rH rF rE rM) {s : M.σ} {X : Nat} {cs : Array Value} {F0 F : Nat → Prop} {w0 w w' : World} (h : PS M E inv s X cs F0 w0 F w) (hc : Chg (fun _ => False) w w') : PS M E inv s X cs F0 w0 F w' :=
  ⟨HM.keep _ _ _ _ _ h.inv hc (fun _ _ h => h), HM.env _ _ (hc.below (HM.inside _ _ _ h.inv).1 (fun _ h => h.elim)) h.env, h.new, h.chg.trans hc (fun _ h _ => h.elim), h.blk.chg hc (fun h => h)⟩

theorem PS.step (HM : MachOk Try.prog M B T mv E inv fN fH fF fE fM rN rH rF rE rM) {s : M.σ} {X : Nat} {cs : Array Value} {F0 F F' : Nat → Prop} {w0 w w' : World} (h : PS M E inv s X cs F0 w0 F w) (hi : inv s F' w') (hF : ∀ k, F' k → F k ∨ w.heap.size ≤ k) (hc : Chg F w w') (hX : X < w0.heap.size) (hXF : ¬ F0 X) : PS M E inv s X cs F0 w0 F' w' := by
  have hs := h.chg.size
  refine ⟨hi, HM.env _ _ (hc.below (HM.inside _ _ _ h.inv).1 (fun k hk => ((HM.inside _ _ _ h.inv).2 k hk).1)) h.env, fun k hk => ?_, h.chg.trans hc (fun k hk hlt => ?_), h.blk.chg hc (fun hk => ?_)⟩
  · rcases hF k hk with h1 | h1
    · exact h.new k h1
    · exact .inr (by omega)
  · rcases h.new k hk with h1 | h1
    · exact .inl h1
    · omega
  · rcases h.new X hk with h1 | h1
    · exact hXF h1
    · omega

theorem PS.mark (HM : MachOk Try.prog M B T mv E inv fN fH fF fE fM rN rH rF rE rM) {s : M.σ} {X : Nat} {cs : Array Value} {F0 F : Nat → Prop} {w0 w w' : World} (h : PS M E inv s X cs F0 w0 F w) (hb : Blk w' X 52 cs) (hc : Chg (fun j => j = X) w w') (hX : X < w0.heap.size) (hB : B ≤ X) (hXF : ¬ F0 X) : PS M E inv s X cs F0 w0 F w' := by
  have hs := h.chg.size
  refine ⟨HM.keep _ _ _ _ _ h.inv hc (fun k hk e => ?_), HM.env _ _ (hc.below (HM.inside _ _ _ h.inv).1 (fun k hk => by omega)) h.env, h.new, h.chg.trans hc (fun k hk _ => .inr hk), hb⟩
  subst e
  rcases h.new k hk with h1 | h1
  · exact hXF h1
  · omega
def NPost (v : Value) (P : World → Prop) (w : World) (e : Ending) (w' : World) : Prop := e = .returned v ∧ P w' ∧ Chg (fun _ => False) w w'
def APost (n : Int) (P : (Nat → Prop) → World → Prop) (F : Nat → Prop) (w : World) (e : Ending) (w' : World) : Prop := ∃ A c F', e = .returned (.tuple #[.slice A 0 c, .int .i64 n]) ∧ P F' w' ∧ Chg F w w'

theorem outs_nil {w : World} {D : Nat → Prop} {v : Value} (h : OutsAt w D v []) : ∃ A c, v = .slice A 0 c := by
  obtain ⟨A, c, its, rfl, _⟩ := h
  exact ⟨A, c, rfl⟩
end
end Go.Proofs.Ytilhjjfdaffabaa.Split
