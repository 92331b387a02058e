/- Split's poked machine: all that is not due. -/
import Derived.Test.YtilhjjfdaffabaaSplitPokeE
import Derived.Test.YtilhjjfdaffabaaSplitPokeP
import Derived.Test.YtilhjjfdaffabaaSplitPokeW
namespace Go.Proofs.Ytilhjjfdaffabaa.Split
open Go Go.RowKit
section
variable {M : Mach} {B : Nat} {T : TypeId} {mv : Value} {E : World → Prop} {inv : M.σ → (Nat → Prop) → World → Prop} {fN fH fF fE fM : FuncId} {rN rH rF rE rM : Value}

theorem poke_any (HM : MachOk Try.prog M B T mv E inv fN fH fF fE fM rN rH rF rE rM) (R : M.σ → Prop) (RF : Refuse M R) (s : M.σ) (F : Nat → Prop) (w : World) (X : Nat) (port : Int) (b : Bs) (A : Option Addr) (c : Nat)
    (hi : inv s F w) (hE : E w) (hR : R s) (hb : Blk w X 52 #[.iface T mv, .int .i64 port, .slice A b.length c, .bool false]) (hB : B ≤ X) (hXF : ¬ F X) (hrd : Rd w (fun k => k < B) 1 A b.length (u8s b)) (hbl : b.length ≤ 1000) :
    Calls Try.prog 21 #[.pointer (some ⟨X, 0, none⟩)] w (PokePost M E inv s X #[.iface T mv, .int .i64 port, .slice A b.length c, .bool false] F w) := by
  by_cases h1 : M.need s = -1
  · exact poke_ended HM R RF s F w X port b A c hi hE hR hb hB hXF hrd hbl h1
  · by_cases h2 : M.need s = -2
    · exact poke_piece HM R RF s F w X port b A c hi hE hR hb hB hXF hrd hbl h2
    · exact poke_wants HM R RF s F w X port b A c hi hE hR hb hB hXF hrd hbl h1 h2
end
end Go.Proofs.Ytilhjjfdaffabaa.Split
