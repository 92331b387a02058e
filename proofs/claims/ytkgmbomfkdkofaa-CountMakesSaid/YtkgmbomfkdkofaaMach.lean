/- What is asked of a machine behind an interface value, so that Drive can drive it. -/
import Derived.Test.YtkgmbomfkdkofaaPutAll
namespace Go.Proofs.Ytkgmbomfkdkofaa
open Go Go.RowKit

/-- A method of the dynamic type T, at the value mv: its function, its receiver. -/
structure Meth (P : Program) (T : TypeId) (mv : Value) (name : String) (f : FuncId) (r : Value) : Prop where
  row : ∀ w, (method 309 T mv name).run P w = .ok (f, r) w
  enters : ∀ args w, (callFunc f args).run P w = .ok (.enter f args) w

/-- What an answer leaves. -/
def MAns (M : Mach) (inv : M.σ → (Nat → Prop) → World → Prop) (w : World) (F : Nat → Prop) (a : Outs × Int × M.σ) (e : Ending) (w' : World) : Prop :=
  ∃ v F', e = .returned (.tuple #[v, .int .i64 a.2.1]) ∧ inv a.2.2 F' w' ∧ (∀ k, F' k → F k ∨ w.heap.size ≤ k) ∧ Chg F w w' ∧ OutsAt w' (fun j => w.heap.size ≤ j) v a.1

structure MachOk (P : Program) (M : Mach) (B : Nat) (T : TypeId) (mv : Value) (E : World → Prop) (inv : M.σ → (Nat → Prop) → World → Prop) (fN fH fF fE fM : FuncId) (rN rH rF rE rM : Value) : Prop where
  env : ∀ w w', Below B w w' → E w → E w'
  keep : ∀ s F w w' S, inv s F w → Chg S w w' → (∀ k, F k → ¬ S k) → inv s F w'
  inside : ∀ s F w, inv s F w → B ≤ w.heap.size ∧ ∀ k, F k → B ≤ k ∧ k < w.heap.size
  mN : Meth P T mv "Need" fN rN
  mH : Meth P T mv "Held" fH rH
  mF : Meth P T mv "Feed" fF rF
  mE : Meth P T mv "End" fE rE
  mM : Meth P T mv "More" fM rM
  need : ∀ s F w, inv s F w → E w → Calls P fN #[rN] w fun e w' => e = .returned (.int .i64 (M.need s)) ∧ Chg (fun _ => False) w w'
  held : ∀ s F w, inv s F w → E w → Calls P fH #[rH] w fun e w' => e = .returned (.int .i64 (M.held s)) ∧ Chg (fun _ => False) w w'
  feed : ∀ s F w port A c bs, inv s F w → E w → Rd w (fun j => ¬ F j) 1 A bs.length (u8s bs) → bs.length ≤ 100000 → Calls P fF #[rF, .int .i64 port, .slice A bs.length c] w (MAns M inv w F (M.feed s port bs))
  fin : ∀ s F w port, inv s F w → E w → Calls P fE #[rE, .int .i64 port] w (MAns M inv w F (M.fin s port))
  more : ∀ s F w, inv s F w → E w → Calls P fM #[rM] w (MAns M inv w F (M.more s))
  small : ∀ s F w, inv s F w → (∀ port bs, bs.length ≤ 100000 → (M.feed s port bs).1.length ≤ 1000000 ∧ ((M.feed s port bs).1.map fun o => o.2.length).sum ≤ 10000000) ∧
    (∀ port, (M.fin s port).1.length ≤ 1000000 ∧ ((M.fin s port).1.map fun o => o.2.length).sum ≤ 10000000) ∧ ((M.more s).1.length ≤ 1000000 ∧ ((M.more s).1.map fun o => o.2.length).sum ≤ 10000000)

/-- The cells of streams. -/
def strmC (t : Strm × Value) : List Value := [t.2, .bool t.1.ended, .int .i64 t.1.code, .int .i64 t.1.stage, .int .i64 t.1.id]
def CapOk (v : Value) : Prop := ∀ A n c, v = .slice A n c → n ≤ c
def StrmsAt (w : World) (D : Nat → Prop) (v : Value) (l : List Strm) : Prop :=
  ∃ (A : Option Addr) (c : Nat) (its : List (Strm × Value)), v = .slice A l.length c ∧ l = its.map (fun t => t.1) ∧ Rd w D 5 A l.length (its.flatMap strmC) ∧ ∀ t ∈ its, BsAt w D t.2 t.1.bs ∧ CapOk t.2
theorem StrmsAt.chg {w w' : World} {D S : Nat → Prop} {v : Value} {l : List Strm} (h : StrmsAt w D v l) (hb : Chg S w w') (hD : ∀ k, D k → k < w.heap.size → ¬ S k) : StrmsAt w' D v l := by
  obtain ⟨A, c, its, rfl, hl, hr, hi⟩ := h
  exact ⟨A, c, its, rfl, hl, hr.chg hb hD, fun t ht => ⟨(hi t ht).1.chg hb hD, (hi t ht).2⟩⟩
theorem StrmsAt.mono {w : World} {D D' : Nat → Prop} {v : Value} {l : List Strm} (h : StrmsAt w D v l) (hD : ∀ k, D k → k < w.heap.size → D' k) : StrmsAt w D' v l := by
  obtain ⟨A, c, its, rfl, hl, hr, hi⟩ := h
  exact ⟨A, c, its, rfl, hl, hr.mono hD, fun t ht => ⟨(hi t ht).1.mono hD, (hi t ht).2⟩⟩
theorem flat5 (its : List (Strm × Value)) : ∀ m (h : m < its.length) i, i < 5 → (its.flatMap strmC)[m * 5 + i]? = (strmC its[m])[i]? := by
  induction its with
  | nil => intro m h; simp at h
  | cons t r ih =>
    intro m h i hi
    have e : (strmC t).length = 5 := rfl
    cases m with
    | zero => simp only [List.flatMap_cons, Nat.zero_mul, Nat.zero_add, List.getElem_cons_zero]; rw [List.getElem?_append_left (by omega)]
    | succ m =>
      simp only [List.flatMap_cons, List.getElem_cons_succ]
      rw [List.getElem?_append_right (by omega), e, show (m + 1) * 5 + i - 5 = m * 5 + i by omega]
      exact ih m (by simpa using h) i hi

/-- The cells of a stream, one by one. -/
theorem StrmsAt.at_ {w : World} {D : Nat → Prop} {A : Option Addr} {n c : Nat} {l : List Strm} (h : StrmsAt w D (.slice A n c) l) {k : Nat} (hk : k < l.length) :
    n = l.length ∧ ∃ g o A2 c2, A = some ⟨g, o, none⟩ ∧ g < w.heap.size ∧ D g ∧ w.cell? ⟨g, o + k * 5, none⟩ = some (.slice A2 l[k].bs.length c2) ∧ w.cell? ⟨g, o + k * 5 + 1, none⟩ = some (.bool l[k].ended) ∧
      w.cell? ⟨g, o + k * 5 + 2, none⟩ = some (.int .i64 l[k].code) ∧ w.cell? ⟨g, o + k * 5 + 3, none⟩ = some (.int .i64 l[k].stage) ∧ w.cell? ⟨g, o + k * 5 + 4, none⟩ = some (.int .i64 l[k].id) ∧ Rd w D 1 A2 l[k].bs.length (u8s l[k].bs) ∧ l[k].bs.length ≤ c2 := by
  obtain ⟨A', c', its, hv, hl, hr, hi⟩ := h
  injection hv with h1 h2 h3
  subst h1 h2 h3
  have hk2 : k < its.length := by rw [hl] at hk; simpa using hk
  obtain ⟨g, o, rfl, hg, hD, hc⟩ := hr.2 (by omega)
  have e : l[k] = (its[k]'hk2).1 := by simp only [hl, List.getElem_map]
  obtain ⟨⟨A2, c2, hv2, hr2⟩, hcap⟩ := hi _ (List.getElem_mem hk2)
  refine ⟨rfl, g, o, A2, c2, rfl, hg, hD, ?_, ?_, ?_, ?_, ?_, by rw [e]; exact hr2, by rw [e]; exact hcap _ _ _ hv2⟩
  · have := hc (k * 5 + 0) _ ((flat5 its k hk2 0 (by omega)).trans rfl)
    rw [e, ← hv2]; exact this
  · have := hc (k * 5 + 1) _ ((flat5 its k hk2 1 (by omega)).trans rfl)
    rw [e]; exact this
  · have := hc (k * 5 + 2) _ ((flat5 its k hk2 2 (by omega)).trans rfl)
    rw [e]; exact this
  · have := hc (k * 5 + 3) _ ((flat5 its k hk2 3 (by omega)).trans rfl)
    rw [e]; exact this
  · have := hc (k * 5 + 4) _ ((flat5 its k hk2 4 (by omega)).trans rfl)
    rw [e]; exact this

/-- What Drive keeps, in memory: the Got in block G, what has been told in block H. -/
structure DAt (M : Mach) (inv : M.σ → (Nat → Prop) → World → Prop) (E : World → Prop) (G H R : Nat) (F0 : Nat → Prop) (W : World) (w : World) (d : DS M.σ) (F : Nat → Prop) : Prop where
  inv : inv d.st F w
  env : E w
  got : Blk w G 42 (gotC d.outs d.need d.err d.held d.taken d.bad)
  told : Blk w H 88 #[.bool (d.told 0), .bool (d.told 1), .bool (d.told 2), .bool (d.told 3)]
  chg : Chg F0 W w
  far : ∀ k, F k → k ≠ G ∧ k ≠ H ∧ k ≠ R ∧ (F0 k ∨ W.heap.size ≤ k)
  len : ∃ n : Nat, n ≤ 1000000000000 ∧ ∀ j, (d.outs j).length ≤ n
theorem gotC_taken_at (outs : Nat → Bs) (need err held : Int) (taken : Nat → Nat) (bad : Bool) (k : Nat) (hk : k < 4) : (gotC outs need err held taken bad)[7 + k]? = some (.int .i64 (taken k : Nat)) := by
  obtain rfl | rfl | rfl | rfl : k = 0 ∨ k = 1 ∨ k = 2 ∨ k = 3 := by omega
  all_goals rfl
theorem gotC_taken (outs : Nat → Bs) (need err held : Int) (taken : Nat → Nat) (bad : Bool) (k x : Nat) (hk : k < 4) : (gotC outs need err held taken bad).setIfInBounds (7 + k) (.int .i64 (x : Nat)) = gotC outs need err held (upd taken k x) bad := by
  obtain rfl | rfl | rfl | rfl : k = 0 ∨ k = 1 ∨ k = 2 ∨ k = 3 := by omega
  all_goals simp [gotC, upd]
theorem told_at (told : Nat → Bool) (k : Nat) (hk : k < 4) : (#[.bool (told 0), .bool (told 1), .bool (told 2), .bool (told 3)] : Array Value)[k]? = some (.bool (told k)) := by
  obtain rfl | rfl | rfl | rfl : k = 0 ∨ k = 1 ∨ k = 2 ∨ k = 3 := by omega
  all_goals rfl
theorem told_set (told : Nat → Bool) (k : Nat) (hk : k < 4) : (#[.bool (told 0), .bool (told 1), .bool (told 2), .bool (told 3)] : Array Value).setIfInBounds k (.bool true) = #[.bool (upd told k true 0), .bool (upd told k true 1), .bool (upd told k true 2), .bool (upd told k true 3)] := by
  obtain rfl | rfl | rfl | rfl : k = 0 ∨ k = 1 ∨ k = 2 ∨ k = 3 := by omega
  all_goals simp [upd]
end Go.Proofs.Ytkgmbomfkdkofaa
