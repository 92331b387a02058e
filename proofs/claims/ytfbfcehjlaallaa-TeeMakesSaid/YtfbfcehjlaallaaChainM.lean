/- The machine of package chain is one that Drive can drive. -/
import Derived.Test.YtfbfcehjlaallaaClone
import Derived.Test.YtfbfcehjlaallaaChainP
import Derived.Test.YtfbfcehjlaallaaBase
namespace Go.Proofs.Ytfbfcehjlaallaa
open Go Go.RowKit

def chC (s : ChS) : Array Value := #[.int .i64 s.at_, .bool false, .bool s.over, .int .i64 s.ins]
def ChInv (g B : Nat) (s : ChS) (F : Nat → Prop) (w : World) : Prop :=
  (∀ j, F j ↔ j = g) ∧ B ≤ g ∧ Blk w g 57 (chC s) ∧ 0 ≤ s.at_ ∧ s.at_ ≤ 4 ∧ s.ins ≤ 4 ∧ (s.over = false → s.at_ < s.ins)

section
variable {g B : Nat}

theorem ch_cells {s : ChS} {w : World} (h : Blk w g 57 (chC s)) : w.cell? ⟨g, 0, none⟩ = some (.int .i64 s.at_) ∧ w.cell? ⟨g, 1, none⟩ = some (.bool false) ∧ w.cell? ⟨g, 2, none⟩ = some (.bool s.over) ∧ w.cell? ⟨g, 3, none⟩ = some (.int .i64 s.ins) :=
  ⟨(h.cell 0).trans rfl, (h.cell 1).trans rfl, (h.cell 2).trans rfl, (h.cell 3).trans rfl⟩

theorem base_need2 (a : Int) (ov : Bool) (w : World) (h0 : w.cell? ⟨g, 0, none⟩ = some (.int .i64 a)) (h1 : w.cell? ⟨g, 1, none⟩ = some (.bool false)) (h2 : w.cell? ⟨g, 2, none⟩ = some (.bool ov)) :
    Calls Try.prog 91 #[.pointer (some ⟨g, 0, none⟩)] w fun e w' => e = .returned (.int .i64 (if ov = true then -1 else a)) ∧ w = w' := by
  cases ov
  all_goals
    go_enter Try.func91, Try.ntmps91
    go_wp2
    go_ret
    exact ⟨rfl, rfl⟩

theorem ch_ans {s : ChS} {F : Nat → Prop} {w : World} (h : ChInv g B s F w) (n : Int) : MAns chainM (ChInv g B) w F ([], n, s) (.returned (.tuple #[.slice none 0 0, .int .i64 n])) w :=
  ⟨_, F, rfl, h, fun _ hk => .inl hk, Chg.refl _ _, OutsAt.nil _ _ _ _⟩

set_option maxRecDepth 100000 in
theorem ch_feed (s : ChS) (F : Nat → Prop) (w : World) (port : Int) (A : Option Addr) (c : Nat) (bs : Bs) (h : ChInv g B s F w) (hr : Rd w (fun j => ¬ F j) 1 A bs.length (u8s bs)) (hl : bs.length ≤ 100000) :
    Calls Try.prog 122 #[.pointer (some ⟨g, 0, none⟩), .int .i64 port, .slice A bs.length c] w (MAns chainM (ChInv g B) w F (chainM.feed s port bs)) := by
  have hinv := h
  obtain ⟨hF, hB, hb, ha0, ha4, hi4, hov⟩ := h
  obtain ⟨k0, k1, k2, k3⟩ := ch_cells hb
  obtain ⟨ins, at_, ov⟩ := s
  dsimp only at k0 k1 k2 k3 ha0 ha4 hi4 hov
  have hfin := fun n => ch_ans hinv n
  replace hfin := Lib.hid hfin
  by_cases ho : ov = true
  · subst ho
    have e : chainM.feed ⟨ins, at_, true⟩ port bs = ([], 4, ⟨ins, at_, true⟩) := by dsimp only; rw [if_pos rfl]
    rw [e]
    clear hb hr hF e
    go_enter Try.func122, Try.ntmps122
    go_wp2
    go_ret2
    exact hfin.out 4
  · have ho' : ov = false := by simpa using ho
    subst ho'
    by_cases hp : port = at_
    · subst hp
      by_cases hlen : bs.length = 0 ∨ bs.length > 32
      · have e : chainM.feed ⟨ins, port, false⟩ port bs = ([], 1, ⟨ins, port, false⟩) := by dsimp only; rw [if_neg (by simp), if_neg (by simp), if_pos hlen]
        rw [e]
        clear hb hr hF e
        rcases hlen with hz | hz
        · have hz1 : ((bs.length : Int) == 0) = true := by rw [hz]; rfl
          go_enter Try.func122, Try.ntmps122
          go_wp2
          go_ret2
          exact hfin.out 1
        · have hz1 : ((bs.length : Int) == 0) = false := by rw [beq_eq_false_iff_ne]; omega
          have hz2 : (32 : Int) < (bs.length : Int) := by omega
          go_enter Try.func122, Try.ntmps122
          go_wp2
          go_ret2
          exact hfin.out 1
      · have hz1 : ((bs.length : Int) == 0) = false := by rw [beq_eq_false_iff_ne]; omega
        have hz2 : ¬ (32 : Int) < (bs.length : Int) := by omega
        have hcl := clone_any _ A c bs w hr (by omega) hl
        have e : chainM.feed ⟨ins, port, false⟩ port bs = ([(0, bs)], 0, ⟨ins, port, false⟩) := by dsimp only; rw [if_neg (by simp), if_neg (by simp), if_neg hlen]
        rw [e]
        replace hb := Lib.hid hb
        replace hF := Lib.hid hF
        clear hr e hlen
        go_enter Try.func122, Try.ntmps122
        go_wp2_with (first
          | (go_at_call 95; go_in)
          | (go_at_call 93; go_in)
          | (go_at_call 48; refine hcl.mono ?_; rintro e1 w1 ⟨A1, c1, rfl, hr1, hb1⟩))
        go_ret2
        have hs := hb1.size
        refine ⟨_, F, rfl, ⟨hF.out, hB, ((hb.out.chg (Chg.of_below (S := fun _ => False) hb1) (fun h => h))).alloc _, ha0, ha4, hi4, fun _ => hov trivial⟩, fun _ hk => .inl hk, ((Chg.of_below hb1).alloc _), ?_⟩
        exact OutsAt.one 0 hs ⟨A1, c1, rfl, hr1⟩
    · have e : chainM.feed ⟨ins, at_, false⟩ port bs = ([], 1, ⟨ins, at_, false⟩) := by dsimp only; rw [if_neg (by simp), if_pos hp]
      rw [e]
      have hp1 : (port == at_) = false := by simpa using hp
      have hp2 : (port != at_) = true := by simpa using hp
      clear hb hr hF e
      go_enter Try.func122, Try.ntmps122
      go_wp2
      go_ret2
      exact hfin.out 1

set_option maxRecDepth 100000 in
theorem ch_end (s : ChS) (F : Nat → Prop) (w : World) (port : Int) (h : ChInv g B s F w) :
    Calls Try.prog 121 #[.pointer (some ⟨g, 0, none⟩), .int .i64 port] w (MAns chainM (ChInv g B) w F (chainM.fin s port)) := by
  have hinv := h
  obtain ⟨hF, hB, hb, ha0, ha4, hi4, hov⟩ := h
  obtain ⟨k0, k1, k2, k3⟩ := ch_cells hb
  have f0 := hb.frozen 0
  have f2 := hb.frozen 2
  obtain ⟨ins, at_, ov⟩ := s
  dsimp only at k0 k1 k2 k3 ha0 ha4 hi4 hov
  have hfin := fun n => ch_ans hinv n
  replace hfin := Lib.hid hfin
  replace hb := Lib.hid hb
  replace hF := Lib.hid hF
  by_cases ho : ov = true
  · subst ho
    have e : chainM.fin ⟨ins, at_, true⟩ port = ([], 4, ⟨ins, at_, true⟩) := by dsimp only; rw [if_pos rfl]
    rw [e]
    clear e
    go_enter Try.func121, Try.ntmps121
    go_wp2
    go_ret2
    exact hfin.out 4
  · have ho' : ov = false := by simpa using ho
    subst ho'
    by_cases hp : port = at_
    · subst hp
      have hov := hov rfl
      have e : chainM.fin ⟨ins, port, false⟩ port = ([], 0, ⟨ins, port + 1, decide (port + 1 = ins)⟩) := by dsimp only; rw [if_neg (by simp), if_neg (by simp)]
      rw [e]
      clear e
      by_cases hl : port + 1 = ins
      · subst hl
        rw [decide_eq_true rfl]
        go_enter Try.func121, Try.ntmps121
        go_wp2
        go_end0
        go_wp2
        go_end0
        go_wp2
        go_ret2
        refine ⟨_, F, rfl, ⟨hF.out, hB, (hb.out.set 0 _).set 2 _, by dsimp only; omega, by dsimp only; omega, by dsimp only; omega, fun h => by cases h⟩, fun _ hk => .inl hk, (((Chg.refl _ _).setCell (p := ⟨g, 0, none⟩) (.inl ((hF.out g).2 rfl)) _).setCell (p := ⟨g, 2, none⟩) (.inl ((hF.out g).2 rfl)) _), OutsAt.nil _ _ _ _⟩
      · have hl1 : (port + 1 == ins) = false := by rw [beq_eq_false_iff_ne]; exact hl
        rw [decide_eq_false hl]
        go_enter Try.func121, Try.ntmps121
        go_wp2
        go_end0
        go_wp2
        go_ret2
        refine ⟨_, F, rfl, ⟨hF.out, hB, hb.out.set 0 _, by dsimp only; omega, by dsimp only; omega, by dsimp only; omega, fun _ => by dsimp only; omega⟩, fun _ hk => .inl hk, ((Chg.refl _ _).setCell (p := ⟨g, 0, none⟩) (.inl ((hF.out g).2 rfl)) _), OutsAt.nil _ _ _ _⟩
    · have e : chainM.fin ⟨ins, at_, false⟩ port = ([], 1, ⟨ins, at_, false⟩) := by dsimp only; rw [if_neg (by simp), if_pos hp]
      rw [e]
      have hp1 : (port == at_) = false := by simpa using hp
      have hp2 : (port != at_) = true := by simpa using hp
      clear e
      go_enter Try.func121, Try.ntmps121
      go_wp2
      go_ret2
      exact hfin.out 1

theorem ch_mach : MachOk Try.prog chainM B 55 (.pointer (some ⟨g, 0, none⟩)) (fun _ => True) (ChInv g B) 91 89 122 121 90
      (.pointer (some ⟨g, 0, none⟩)) (.pointer (some ⟨g, 0, none⟩)) (.pointer (some ⟨g, 0, none⟩)) (.pointer (some ⟨g, 0, none⟩)) (.pointer (some ⟨g, 0, none⟩)) where
  env _ _ _ _ := trivial
  keep s F w w' S h hc hS := ⟨h.1, h.2.1, h.2.2.1.chg hc (hS g ((h.1 g).2 rfl)), h.2.2.2⟩
  inside s F w h := by
    obtain ⟨hF, hB, hb, _⟩ := h
    have := hb.lt
    exact ⟨by omega, fun j hj => by have := (hF j).1 hj; omega⟩
  mN := ⟨fun w => by kernel_rfl, fun args w => by kernel_rfl⟩
  mH := ⟨fun w => by kernel_rfl, fun args w => by kernel_rfl⟩
  mF := ⟨fun w => by kernel_rfl, fun args w => by kernel_rfl⟩
  mE := ⟨fun w => by kernel_rfl, fun args w => by kernel_rfl⟩
  mM := ⟨fun w => by kernel_rfl, fun args w => by kernel_rfl⟩
  need s F w h _ := by
    obtain ⟨h0, h1, h2, _⟩ := ch_cells h.2.2.1
    exact (base_need2 s.at_ s.over w h0 h1 h2).mono (by rintro e w' ⟨rfl, rfl⟩; exact ⟨rfl, Chg.refl _ _⟩)
  held s F w h _ := (base_held w).mono (by rintro e w' ⟨rfl, rfl⟩; exact ⟨rfl, Chg.refl _ _⟩)
  feed s F w port A c bs h _ hr hl := ch_feed s F w port A c bs h hr hl
  fin s F w port h _ := ch_end s F w port h
  more s F w h _ := by
    obtain ⟨_, h1, h2, _⟩ := ch_cells h.2.2.1
    exact (base_more s.over w h1 h2).mono (by rintro e w' ⟨rfl, rfl⟩; exact ch_ans h _)
  small s F w h := by
    refine ⟨fun port bs hb => ?_, fun port => ?_, ⟨by simp, by simp⟩⟩
    · dsimp only
      split
      · simp
      · split
        · simp
        · split
          · simp
          · simp only [List.length_cons, List.length_nil, List.map_cons, List.map_nil, List.sum_cons, List.sum_nil]; omega
    · dsimp only
      split
      · simp
      · split
        · simp
        · simp
end
end Go.Proofs.Ytfbfcehjlaallaa
