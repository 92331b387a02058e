/- The machine of package tee is one that Drive can drive. -/
import Derived.Test.YtfbfcehjlaallaaChainM
import Derived.Test.YtfbfcehjlaallaaTeeP
namespace Go.Proofs.Ytfbfcehjlaallaa
open Go Go.RowKit

def teC (s : TeS) : Array Value := #[.int .i64 0, .bool false, .bool s.over, .int .i64 s.outs]
def TeInv (g B : Nat) (s : TeS) (F : Nat → Prop) (w : World) : Prop :=
  (∀ j, F j ↔ j = g) ∧ B ≤ g ∧ Blk w g 78 (teC s) ∧ s.outs ≤ 4

section
variable {g B : Nat}

theorem te_cells {s : TeS} {w : World} (h : Blk w g 78 (teC s)) : w.cell? ⟨g, 0, none⟩ = some (.int .i64 0) ∧ w.cell? ⟨g, 1, none⟩ = some (.bool false) ∧ w.cell? ⟨g, 2, none⟩ = some (.bool s.over) ∧ w.cell? ⟨g, 3, none⟩ = some (.int .i64 s.outs) :=
  ⟨(h.cell 0).trans rfl, (h.cell 1).trans rfl, (h.cell 2).trans rfl, (h.cell 3).trans rfl⟩

theorem te_ans {s : TeS} {F : Nat → Prop} {w : World} (h : TeInv g B s F w) (n : Int) : MAns teeM (TeInv g B) w F ([], n, s) (.returned (.tuple #[.slice none 0 0, .int .i64 n])) w :=
  ⟨_, F, rfl, h, fun _ hk => .inl hk, Chg.refl _ _, OutsAt.nil _ _ _ _⟩

/-- The Outs so far: a row of the call's own, whose bytes lie in other new blocks. -/
def TeRow (w : World) (n : Nat) (bs : Bs) (v : Value) (wr : World) : Prop :=
  ∃ its : List (Int × Value × Bs), teeOuts n bs = its.map (fun t => (t.1, t.2.2)) ∧ wr.ownsRow w.heap.size 101 2 v n (its.flatMap fun t => [.int .i64 t.1, t.2.1]) ∧
    ∀ t ∈ its, BsAt wr (fun j => w.heap.size ≤ j ∧ v.ownBlock ≠ some j) t.2.1 t.2.2

theorem info_outT : (Try.prog.info? 101).map (fun i => (i.zero, i.size, i.bytes)) = some (some (.agg #[.int .i64 0, .slice none 0 0]), 2, 32) := by kernel_rfl
theorem teeOuts_len (n : Nat) (bs : Bs) : (teeOuts n bs).length = n := by simp [teeOuts]
theorem teeOuts_succ (n : Nat) (bs : Bs) : teeOuts (n + 1) bs = teeOuts n bs ++ [((n : Int), bs)] := by simp [teeOuts, List.range_succ]

set_option maxHeartbeats 1000000 in
set_option maxRecDepth 100000 in
theorem te_feed (s : TeS) (F : Nat → Prop) (w : World) (port : Int) (A : Option Addr) (c : Nat) (bs : Bs) (h : TeInv g B s F w) (hr : Rd w (fun j => ¬ F j) 1 A bs.length (u8s bs)) (hl : bs.length ≤ 100000) :
    Calls Try.prog 163 #[.pointer (some ⟨g, 0, none⟩), .int .i64 port, .slice A bs.length c] w (MAns teeM (TeInv g B) w F (teeM.feed s port bs)) := by
  obtain ⟨i0, hi0, iz0, iz1, iz2⟩ := info_parts info_outT
  have hinv := h
  obtain ⟨hF, hB, hb, hi4⟩ := h
  obtain ⟨k0, k1, k2, k3⟩ := te_cells hb
  obtain ⟨outs, ov⟩ := s
  dsimp only at k0 k1 k2 k3 hi4
  have hfin := fun n => te_ans hinv n
  replace hfin := Lib.hid hfin
  by_cases ho : ov = true
  · subst ho
    have e : teeM.feed ⟨outs, true⟩ port bs = ([], 4, ⟨outs, true⟩) := by dsimp only; rw [if_pos rfl]
    rw [e]
    clear hb hr hF e
    go_enter Try.func163, Try.ntmps163
    go_wp2
    go_ret2
    exact hfin.out 4
  · have ho' : ov = false := by simpa using ho
    subst ho'
    by_cases hp : port = 0
    · subst hp
      by_cases hlen : bs.length = 0 ∨ bs.length > 32
      · have e : teeM.feed ⟨outs, false⟩ 0 bs = ([], 1, ⟨outs, false⟩) := by dsimp only; rw [if_neg (by simp), if_neg (by simp), if_pos hlen]
        rw [e]
        clear hb hr hF e
        rcases hlen with hz | hz
        · have hz1 : ((bs.length : Int) == 0) = true := by rw [hz]; rfl
          go_enter Try.func163, Try.ntmps163
          go_wp2
          go_ret2
          exact hfin.out 1
        · have hz1 : ((bs.length : Int) == 0) = false := by rw [beq_eq_false_iff_ne]; omega
          have hz2 : (32 : Int) < (bs.length : Int) := by omega
          go_enter Try.func163, Try.ntmps163
          go_wp2
          go_ret2
          exact hfin.out 1
      · have hz1 : ((bs.length : Int) == 0) = false := by rw [beq_eq_false_iff_ne]; omega
        have hz2 : ¬ (32 : Int) < (bs.length : Int) := by omega
        have e : teeM.feed ⟨outs, false⟩ 0 bs = (teeOuts outs bs, 0, ⟨outs, false⟩) := by dsimp only; rw [if_neg (by simp), if_neg (by simp), if_neg hlen]
        rw [e]
        have hpos : 0 < bs.length := by omega
        clear e hlen
        have hgl := hb.lt
        have hr0 := hr
        replace hb := Lib.hid hb
        replace hF := Lib.hid hF
        clear hr
        go_enter Try.func163, Try.ntmps163
        go_wp2
        go_loopw [24, 9] (fun i v wr => ∃ k : Nat, k ≤ outs ∧ i = .int .i64 k ∧ Chg (fun _ => False) w wr ∧ TeRow w k bs v wr) (fun i _ _ => outs - (intOf i).toNat)
        case atStart => exact ⟨0, by omega, rfl, Chg.refl _ _, [], rfl, by simpa using World.ownsRow_nil w _ _ _, fun _ h => by cases h⟩
        case round =>
          obtain ⟨k, hk, rfl, hch, its, hits, hown, hbs⟩ := hrel
          by_cases hlt : k < outs
          · have hlt' : (k : Int) < (outs : Int) := by omega
            have hcl := clone_any _ A c bs wr (hr0.chg hch (fun _ _ _ h => h)) hpos hl
            have hs0 := hch.size
            replace hits := Lib.hid hits
            go_wp2_with (first
              | (go_at_call 48
                 refine hcl.mono ?_
                 rintro e1 w1 ⟨A1, c1, rfl, hr1, hb1⟩)
              | (at_builtin
                 refine wpList_append_own_at _ rfl (.tmp 27) (.tmp 32) 88 rfl w.heap.size 101 i0 _ 2 32 Try.underlying88 hi0 iz0 iz1 iz2 rfl (by omega) u9 k (its.flatMap fun t => [.int .i64 t.1, t.2.1]) rfl ((ownsRow_chg hown (Chg.of_below (S := fun _ => False) hb1) (fun _ _ h => h)).alloc _) ⟨w1.heap.size, 0, none⟩ 1 1 [.int .i64 k, .slice A1 bs.length c1] rfl rfl (World.news_of_block (cs := #[.int .i64 k, .slice A1 bs.length c1]) (t := 101) (fr := (0, 0)) (heap_alloc_new w1 _)) (by simp [Value.oneCell']) (by simp only [maxLen]; omega) (by omega) (by have := hb1.size; simp; omega) ?_
                 intro v2 w2 hown2 hg2 hv2 hat2))
            go_roundw
            case rel =>
              have hug : ∀ j, u9.ownBlock = some j → w.heap.size ≤ j ∧ j < wr.heap.size := fun j e => ⟨(hown.lt j e).1, (hown.lt j e).2⟩
              have hs1 := hb1.size
              have hc1 : Chg (fun _ => False) wr (w1.alloc (.cells #[.int .i64 k, .slice A1 bs.length c1] 101)) := (Chg.of_below hb1).alloc _
              have hc2 : Chg (fun j => u9.ownBlock = some j) (w1.alloc (.cells #[.int .i64 k, .slice A1 bs.length c1] 101)) w2 := (Chg.refl _ _).grown hg2 (fun j e => .inl e)
              have hsz : (w1.alloc (.cells #[.int .i64 k, .slice A1 bs.length c1] 101)).heap.size = w1.heap.size + 1 := by simp
              have hnew : ∀ j, v2.ownBlock = some j → u9.ownBlock = some j ∨ j = w1.heap.size + 1 := fun j e => by
                rcases hat2 with h | h
                · exact .inl (h.symm.trans e)
                · exact .inr (by rw [h] at e; injection e with e; rw [← e, hsz])
              refine ⟨k + 1, by omega, by go_num, (hch.trans hc1 (fun _ h _ => h)).trans hc2 (fun x hx hlt => by have := (hug x hx).1; omega), its ++ [((k : Int), .slice A1 bs.length c1, bs)], ?_, ?_, ?_⟩
              · rw [teeOuts_succ, hits.out]; simp
              · simpa using hown2
              · intro t ht
                rcases List.mem_append.1 ht with ht | ht
                · have h1 := ((hbs t ht).mono (D' := fun j => w.heap.size ≤ j ∧ u9.ownBlock ≠ some j ∧ j < wr.heap.size) (fun j hj hlt => ⟨hj.1, hj.2, hlt⟩)).chg hc1 (fun _ _ _ h => h)
                  refine (h1.chg hc2 (fun j hj _ e => hj.2.1 e)).mono (fun j hj _ => ⟨hj.1, fun e => ?_⟩)
                  rcases hnew j e with h | h
                  · exact hj.2.1 h
                  · have := hj.2.2; omega
                · simp at ht
                  subst ht
                  have h0 : BsAt w1 (fun j => wr.heap.size ≤ j) (.slice A1 bs.length c1) bs := ⟨A1, c1, rfl, hr1⟩
                  have h1 := ((h0.mono (D' := fun j => wr.heap.size ≤ j ∧ j < w1.heap.size) (fun j hj hlt => ⟨hj, hlt⟩)).chg ((Chg.refl (fun _ => False) w1).alloc (.cells #[.int .i64 k, .slice A1 bs.length c1] 101)) (fun _ _ _ h => h))
                  refine (h1.chg hc2 (fun j hj _ e => by have := (hug j e).2; omega)).mono (fun j hj _ => ⟨by omega, fun e => ?_⟩)
                  rcases hnew j e with h | h
                  · have := (hug j h).2; omega
                  · omega
            case measure => simp [intOf]; omega
          · have hlt' : ¬ (k : Int) < (outs : Int) := by omega
            have hko : k = outs := by omega
            subst hko
            have hbo : ∀ t ∈ its, BsAt wr (fun j => w.heap.size ≤ j) t.2.1 t.2.2 := fun t ht => (hbs t ht).mono (fun j hj _ => hj.1)
            obtain ⟨A2, c2, rfl, hrd⟩ := own_rd hown
            replace hits := Lib.hid hits
            replace hbo := Lib.hid hbo
            clear hbs
            go_wp2
            go_ret2
            have el := teeOuts_len k bs
            exact ⟨_, F, rfl, ⟨hF.out, hB, hb.out.chg hch (fun h => h), hi4⟩, fun _ hk => .inl hk, hch.mono (fun _ h _ => h.elim), ⟨A2, c2, its, by rw [el]; rfl, hits.out, by rw [el]; exact hrd, hbo.out⟩⟩
    · have e : teeM.feed ⟨outs, false⟩ port bs = ([], 1, ⟨outs, false⟩) := by dsimp only; rw [if_neg (by simp), if_pos hp]
      rw [e]
      have hp1 : (port == 0) = false := by simpa using hp
      have hp2 : (port != 0) = true := by simpa using hp
      clear hb hr hF e
      go_enter Try.func163, Try.ntmps163
      go_wp2
      go_ret2
      exact hfin.out 1

set_option maxRecDepth 100000 in
theorem te_end (s : TeS) (F : Nat → Prop) (w : World) (port : Int) (h : TeInv g B s F w) :
    Calls Try.prog 162 #[.pointer (some ⟨g, 0, none⟩), .int .i64 port] w (MAns teeM (TeInv g B) w F (teeM.fin s port)) := by
  have hinv := h
  obtain ⟨hF, hB, hb, hi4⟩ := h
  obtain ⟨k0, k1, k2, k3⟩ := te_cells hb
  have f2 := hb.frozen 2
  obtain ⟨outs, ov⟩ := s
  dsimp only at k0 k1 k2 k3 hi4
  have hfin := fun n => te_ans hinv n
  replace hfin := Lib.hid hfin
  replace hb := Lib.hid hb
  replace hF := Lib.hid hF
  by_cases ho : ov = true
  · subst ho
    have e : teeM.fin ⟨outs, true⟩ port = ([], 4, ⟨outs, true⟩) := by dsimp only; rw [if_pos rfl]
    rw [e]
    clear e
    go_enter Try.func162, Try.ntmps162
    go_wp2
    go_ret2
    exact hfin.out 4
  · have ho' : ov = false := by simpa using ho
    subst ho'
    by_cases hp : port = 0
    · subst hp
      have e : teeM.fin ⟨outs, false⟩ 0 = ([], 0, ⟨outs, true⟩) := by dsimp only; rw [if_neg (by simp), if_neg (by simp)]
      rw [e]
      clear e
      go_enter Try.func162, Try.ntmps162
      go_wp2
      go_end0
      go_wp2
      go_ret2
      exact ⟨_, F, rfl, ⟨hF.out, hB, hb.out.set 2 _, hi4⟩, fun _ hk => .inl hk, ((Chg.refl _ _).setCell (p := ⟨g, 2, none⟩) (.inl ((hF.out g).2 rfl)) _), OutsAt.nil _ _ _ _⟩
    · have e : teeM.fin ⟨outs, false⟩ port = ([], 1, ⟨outs, false⟩) := by dsimp only; rw [if_neg (by simp), if_pos hp]
      rw [e]
      have hp1 : (port == 0) = false := by simpa using hp
      have hp2 : (port != 0) = true := by simpa using hp
      clear e
      go_enter Try.func162, Try.ntmps162
      go_wp2
      go_ret2
      exact hfin.out 1

theorem te_mach : MachOk Try.prog teeM B 76 (.pointer (some ⟨g, 0, none⟩)) (fun _ => True) (TeInv g B) 91 89 163 162 90
      (.pointer (some ⟨g, 0, none⟩)) (.pointer (some ⟨g, 0, none⟩)) (.pointer (some ⟨g, 0, none⟩)) (.pointer (some ⟨g, 0, none⟩)) (.pointer (some ⟨g, 0, none⟩)) where
  env _ _ _ _ := trivial
  keep s F w w' S h hc hS := ⟨h.1, h.2.1, h.2.2.1.chg hc (hS g ((h.1 g).2 rfl)), h.2.2.2⟩
  inside s F w h := by
    obtain ⟨hF, hB, hb, _⟩ := h
    have := hb.lt
    exact ⟨by omega, fun j hj => by have := (hF j).1 hj; omega⟩
  mN := ⟨fun w => by kernel_rfl, fun args w => by kernel_rfl⟩
  mH := ⟨fun w => by kernel_rfl, fun args w => by kernel_rfl⟩
  mF := ⟨fun w => by kernel_rfl, fun args w => by kernel_rfl⟩
  mE := ⟨fun w => by kernel_rfl, fun args w => by kernel_rfl⟩
  mM := ⟨fun w => by kernel_rfl, fun args w => by kernel_rfl⟩
  need s F w h _ := by
    obtain ⟨h0, h1, h2, _⟩ := te_cells h.2.2.1
    exact (base_need s.over w h0 h1 h2).mono (by rintro e w' ⟨rfl, rfl⟩; exact ⟨rfl, Chg.refl _ _⟩)
  held s F w h _ := (base_held w).mono (by rintro e w' ⟨rfl, rfl⟩; exact ⟨rfl, Chg.refl _ _⟩)
  feed s F w port A c bs h _ hr hl := te_feed s F w port A c bs h hr hl
  fin s F w port h _ := te_end s F w port h
  more s F w h _ := by
    obtain ⟨_, h1, h2, _⟩ := te_cells h.2.2.1
    exact (base_more s.over w h1 h2).mono (by rintro e w' ⟨rfl, rfl⟩; exact te_ans h _)
  small s F w h := by
    refine ⟨fun port bs hb => ?_, fun port => ?_, ⟨by simp, by simp⟩⟩
    · dsimp only
      split
      · simp
      · split
        · simp
        · split
          · simp
          · have h4 := h.2.2.2
            have h5 : s.outs * bs.length ≤ 4 * bs.length := Nat.mul_le_mul_right _ h4
            rw [teeOuts_sum, teeOuts_len]
            exact ⟨by omega, by omega⟩
    · dsimp only
      split
      · simp
      · split
        · simp
        · simp
end
end Go.Proofs.Ytfbfcehjlaallaa
