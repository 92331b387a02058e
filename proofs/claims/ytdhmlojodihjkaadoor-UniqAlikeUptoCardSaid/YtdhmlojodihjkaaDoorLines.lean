/- Every kind of machines of lines is a machine that Drive can drive. -/
import Derived.Test.YtdhmlojodihjkaaDoorLinesEnd
import Derived.Test.YtdhmlojodihjkaaDoorMach
import Derived.Test.YtdhmlojodihjkaaDoorBase
namespace Go.Proofs.YtdhmlojodihjkaaDoor
open Go Go.RowKit

/-- How much comes of lines. -/
structure LSmall (k : LK) (I : k.τ → Prop) : Prop where
  keep : ∀ t l, I t → l.length ≤ 64 → I (k.each t l).2
  each : ∀ t l, I t → l.length ≤ 64 → ((k.each t l).1.map fun o => o.2.length).sum ≤ 1000
  last : ∀ t, I t → ((k.last t).1.map fun o => o.2.length).sum ≤ 1000
  fewE : ∀ t l, (k.each t l).1.length ≤ 2
  fewL : ∀ t, (k.last t).1.length ≤ 2

theorem eachAll_small {k : LK} {I : k.τ → Prop} (H : LSmall k I) (ls : List Bs) : ∀ t, I t → (∀ l ∈ ls, l.length ≤ 64) →
    ((eachAll k t ls).1.map fun o => o.2.length).sum ≤ 1000 * ls.length ∧ (eachAll k t ls).1.length ≤ 2 * ls.length ∧ I (eachAll k t ls).2 := by
  induction ls with
  | nil => intro t h _; simp [eachAll, h]
  | cons l r ih =>
    intro t h hl
    have h1 := ih (k.each t l).2 (H.keep t l h (hl l (by simp))) (fun x hx => hl x (by simp [hx]))
    have h2 := H.each t l h (hl l (by simp))
    have h3 := H.fewE t l
    simp only [eachAll, List.map_append, List.sum_append, List.length_append, List.length_cons]
    exact ⟨by omega, by omega, h1.2.2⟩

def LinesInv (k : LK) (g B : Nat) (T : TypeId) (fE : FuncId) (lastV : Value) (X : k.τ → Array Value → Prop) (s : LS k.τ) (F : Nat → Prop) (w : World) : Prop :=
  (∀ j, F j ↔ j = g) ∧ B ≤ g ∧ LInv k g T fE lastV X w s

section
variable {k : LK} {g B : Nat} {T : TypeId} {E : World → Prop} {fE : FuncId} {lastV : Value} {X : k.τ → Array Value → Prop}

theorem lines_cells {s : LS k.τ} {w : World} (h : LInv k g T fE lastV X w s) : w.cell? ⟨g, 0, none⟩ = some (.int .i64 0) ∧ w.cell? ⟨g, 1, none⟩ = some (.bool false) ∧ w.cell? ⟨g, 2, none⟩ = some (.bool s.over) ∧ w.cell? ⟨g, 67, none⟩ = some (.int .i64 s.beg.length) ∧ s.beg.length ≤ 64 := by
  obtain ⟨cs, hb, hc, _⟩ := h
  obtain ⟨f, hs, _⟩ := hc.spl
  exact ⟨(hb.cell _).trans hc.at_, (hb.cell _).trans hc.more, (hb.cell _).trans hc.ov, (hb.cell _).trans hs.n, hs.le⟩

theorem lines_held (n : Nat) (w : World) (h : w.cell? ⟨g, 67, none⟩ = some (.int .i64 n)) :
    Calls Tryd.prog 140 #[.pointer (some ⟨g, 0, none⟩)] w fun e w' => e = .returned (.int .i64 n) ∧ w = w' := by
  go_enter Tryd.func140, Tryd.ntmps140
  go_wp2
  go_ret
  exact ⟨rfl, rfl⟩

theorem linv_keep {s : LS k.τ} {w w' : World} {S : Nat → Prop} (h : LInv k g T fE lastV X w s) (hc : Chg S w w') (hS : ¬ S g) : LInv k g T fE lastV X w' s := by
  obtain ⟨cs, hb, h2⟩ := h
  exact ⟨cs, hb.chg hc hS, h2⟩

theorem mans_of_ans {w w' : World} {a : Outs × Int × LS k.τ} {e : Ending} (hB : B ≤ g) {F : Nat → Prop} (hF : ∀ j, F j ↔ j = g) (h : AnsPost k g B T E fE lastV X w a e w') : MAns k.mach (LinesInv k g B T fE lastV X) w F a e w' := by
  obtain ⟨v, rfl, hinv, hch, _, _, ho⟩ := h
  exact ⟨v, F, rfl, ⟨hF, hB, hinv⟩, fun j hj => .inl hj, hch.mono (fun j hj _ => (hF j).2 hj), ho⟩

theorem lines_mach (H : LWalk Tryd.prog k g B T E fE lastV X) (HL : LLast Tryd.prog k g T E lastV X) {I : k.τ → Prop} (HS : LSmall k I) (hXI : ∀ t cs, X t cs → I t) (Tp : TypeId)
    (mN : Meth Tryd.prog Tp (.pointer (some ⟨g, 0, none⟩)) "Need" 132 (.pointer (some ⟨g, 0, none⟩)))
    (fH : FuncId) (mH : Meth Tryd.prog Tp (.pointer (some ⟨g, 0, none⟩)) "Held" fH (.pointer (some ⟨g, 0, none⟩)))
    (mF : Meth Tryd.prog Tp (.pointer (some ⟨g, 0, none⟩)) "Feed" 129 (.pointer (some ⟨g, 0, none⟩)))
    (mE : Meth Tryd.prog Tp (.pointer (some ⟨g, 0, none⟩)) "End" 128 (.pointer (some ⟨g, 0, none⟩)))
    (mM : Meth Tryd.prog Tp (.pointer (some ⟨g, 0, none⟩)) "More" 131 (.pointer (some ⟨g, 0, none⟩)))
    (held : ∀ (s : LS k.τ) (w : World), LInv k g T fE lastV X w s → E w → Calls Tryd.prog fH #[.pointer (some ⟨g, 0, none⟩)] w fun e w' => e = .returned (.int .i64 (k.mach.held s)) ∧ Chg (fun _ => False) w w') :
    MachOk Tryd.prog k.mach B Tp (.pointer (some ⟨g, 0, none⟩)) E (LinesInv k g B T fE lastV X) 132 fH 129 128 131
      (.pointer (some ⟨g, 0, none⟩)) (.pointer (some ⟨g, 0, none⟩)) (.pointer (some ⟨g, 0, none⟩)) (.pointer (some ⟨g, 0, none⟩)) (.pointer (some ⟨g, 0, none⟩)) where
  env := H.env
  keep s F w w' S h hc hS := ⟨h.1, h.2.1, linv_keep h.2.2 hc (hS g ((h.1 g).2 rfl))⟩
  inside s F w h := by
    obtain ⟨hF, hB, cs, hb, _⟩ := h
    have := hb.lt
    exact ⟨by omega, fun j hj => by have := (hF j).1 hj; omega⟩
  mN := mN
  mH := mH
  mF := mF
  mE := mE
  mM := mM
  need s F w h _ := by
    obtain ⟨h0, h1, h2, _⟩ := lines_cells h.2.2
    exact (base_need s.over w h0 h1 h2).mono (by rintro e w' ⟨rfl, rfl⟩; exact ⟨rfl, Chg.refl _ _⟩)
  held s F w h hE := held s w h.2.2 hE
  feed s F w port A c bs h hE hr hl := (feed_any H A c port bs s w h.2.2 hE (hr.mono (fun j hj _ e => hj ((h.1 j).2 e))) hl).mono (fun _ _ ha => mans_of_ans h.2.1 h.1 ha)
  fin s F w port h hE := (end_any H HL port s w h.2.2 hE).mono (fun _ _ ha => mans_of_ans h.2.1 h.1 ha)
  more s F w h hE := by
    obtain ⟨_, h1, h2, _⟩ := lines_cells h.2.2
    exact (base_more s.over w h1 h2).mono (by rintro e w' ⟨rfl, rfl⟩; exact mans_of_ans h.2.1 h.1 (ansPost_same H h.2.2 hE))
  small s F w h := by
    obtain ⟨_, _, cs, _, hc, hX⟩ := h
    obtain ⟨f, hs, _⟩ := hc.spl
    have hI := hXI _ _ hX
    have hle := hs.le
    refine ⟨fun port bs hb => ?_, fun port => ?_, ⟨by simp, by simp⟩⟩
    · have e : k.mach.feed s port bs = k.feed s port bs := rfl
      rw [e]
      unfold LK.feed
      split
      · simp
      · split
        · simp
        · split
          · simp
          · rename_i hb32
            have h1 := eachAll_small HS (cutS s.beg bs).1 s.t hI (cutS_len bs s.beg hle).2
            have h2 := cutS_le s.beg bs
            dsimp only
            split <;> exact ⟨by dsimp only; omega, by dsimp only; omega⟩
    · have e : k.mach.fin s port = k.fin s port := rfl
      rw [e]
      unfold LK.fin
      split
      · simp
      · split
        · simp
        · dsimp only
          have hfew := HS.fewE s.t s.beg
          have h1 := HS.each s.t s.beg hI hle
          split
          · have h3 := HS.last s.t hI
            have h4 := HS.fewL s.t
            simp only [List.nil_append]
            exact ⟨by omega, by omega⟩
          · have h3 := HS.last _ (HS.keep s.t s.beg hI hle)
            have h4 := HS.fewL (k.each s.t s.beg).2
            simp only [List.length_append, List.map_append, List.sum_append]
            exact ⟨by omega, by omega⟩
end
end Go.Proofs.YtdhmlojodihjkaaDoor
