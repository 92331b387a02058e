/- The contract of (*Got).put. -/
import Derived.Test.YtkgmbomfkdkofaaPut
import Derived.Deep.RegionHeld3
import Derived.Deep.DrawnRows
import Derived.BigQuiet
import Derived.BigRegion
import Derived.ChangeAlike
namespace Go.Proofs.Ytkgmbomfkdkofaa
open Go Go.RowKit

theorem strv_append (a b : Bs) : (⟨a.toArray⟩ : ByteArray) ++ ⟨b.toArray⟩ = ⟨(a ++ b).toArray⟩ := by
  apply ByteArray.ext
  simp

/-- What put does: the loop's own state. -/
def PutSt := (Nat → Bs) × Bool × Nat

structure PutRel (G : Nat) (need err held : Int) (taken : Nat → Nat) (W w : World) (s : (Nat → Bs) × Bool × Nat) : Prop where
  blk : Blk w G 42 (gotC s.1 need err held taken s.2.1)
  chg : Chg (fun j => j = G) W w

theorem gotC_out (outs : Nat → Bs) (need err held : Int) (taken : Nat → Nat) (bad : Bool) (p : Nat) (hp : p < 4) (x : Bs) :
    (gotC outs need err held taken bad).setIfInBounds p (strv x) = gotC (upd outs p x) need err held taken bad := by
  obtain rfl | rfl | rfl | rfl : p = 0 ∨ p = 1 ∨ p = 2 ∨ p = 3 := by omega
  all_goals simp [gotC, upd]
theorem gotC_bad (outs : Nat → Bs) (need err held : Int) (taken : Nat → Nat) (bad : Bool) : (gotC outs need err held taken bad).setIfInBounds 11 (.bool true) = gotC outs need err held taken true := by simp [gotC]
theorem gotC_err (outs : Nat → Bs) (need err held e : Int) (taken : Nat → Nat) (bad : Bool) : (gotC outs need err held taken bad).setIfInBounds 5 (.int .i64 e) = gotC outs need e held taken bad := by simp [gotC]

theorem putAll_take (s : (Nat → Bs) × Bool × Nat) (l : Outs) (m : Nat) (h : m < l.length) : putAll s (l.take (m + 1)) = put1 (putAll s (l.take m)) l[m] := by
  unfold putAll
  rw [List.take_succ_eq_append_getElem h, List.foldl_append]
  rfl
theorem put1_sum (s : (Nat → Bs) × Bool × Nat) (o : Int × Bs) : (put1 s o).2.2 = s.2.2 + o.2.length := by unfold put1; split <;> rfl
theorem putAll_sum (l : Outs) : ∀ s : (Nat → Bs) × Bool × Nat, (putAll s l).2.2 = s.2.2 + (l.map fun o => o.2.length).sum := by
  induction l with
  | nil => intro s; simp [putAll]
  | cons o r ih =>
    intro s
    have := ih (put1 s o)
    simp only [putAll] at this ⊢
    rw [List.foldl_cons, this, put1_sum]
    simp [Nat.add_assoc]
theorem sum_take (l : List Nat) (m : Nat) : (l.take m).sum ≤ l.sum := by
  conv => rhs; rw [← List.take_append_drop m l]
  rw [List.sum_append]; omega

theorem put1_len (s : (Nat → Bs) × Bool × Nat) (o : Int × Bs) (j : Nat) : ((put1 s o).1 j).length ≤ (s.1 j).length + o.2.length := by
  unfold put1
  split
  · simp
  · simp only [upd]; split
    · rename_i h; subst h; simp
    · omega
theorem putAll_len (l : Outs) (j : Nat) : ∀ s : (Nat → Bs) × Bool × Nat, ((putAll s l).1 j).length ≤ (s.1 j).length + (l.map fun o => o.2.length).sum := by
  induction l with
  | nil => intro s; simp [putAll]
  | cons o r ih =>
    intro s
    have h1 := ih (put1 s o)
    have h2 := put1_len s o j
    simp only [putAll, List.foldl_cons, List.map_cons, List.sum_cons] at h1 ⊢
    omega

set_option maxHeartbeats 2000000 in
set_option maxRecDepth 100000 in
theorem put_any (G : Nat) (D : Nat → Prop) (v : Value) (l : Outs) (outs : Nat → Bs) (need err held e : Int) (taken : Nat → Nat) (bad : Bool) (w : World)
    (hb : Blk w G 42 (gotC outs need err held taken bad)) (ho : OutsAt w D v l) (hD : ∀ j, D j → j ≠ G) (hl : l.length ≤ 1000000) (hs : (l.map fun o => o.2.length).sum ≤ 1000000000)
    (hout : ∀ j, (outs j).length ≤ 1000000000000) :
    Calls Try.prog 30 #[.pointer (some ⟨G, 0, none⟩), v, .int .i64 e] w fun e' w' => e' = .returned (.tuple #[]) ∧
      Blk w' G 42 (gotC (putAll (outs, bad, 0) l).1 need e held taken (putAll (outs, bad, 0) l).2.1) ∧ Chg (fun j => j = G) w w' := by
  obtain ⟨A, c, its, rfl, hits0, hr, hi⟩ := ho
  have hits := Lib.hid hits0
  clear hits0
  go_enter Try.func30, Try.ntmps30
  go_wp2
  go_loopw [6, 7] (fun s i wr => ∃ m : Nat, m ≤ l.length ∧ i = .int .i64 m ∧ s = .int .i64 ((putAll (outs, bad, 0) (l.take m)).2.2 : Nat) ∧ PutRel G need err held taken w wr (putAll (outs, bad, 0) (l.take m)))
    (fun _ i _ => l.length - (intOf i).toNat)
  case atStart => exact ⟨0, Nat.zero_le _, rfl, rfl, hb, Chg.refl _ _⟩
  case round =>
    obtain ⟨m, hm, rfl, rfl, hbr, hch⟩ := hrel
    by_cases hlt : m < l.length
    · have hlt2 : m < its.length := by have h := hlt; rw [hits.out] at h; simpa using h
      obtain ⟨b', off, rfl, hb1, hb2, hcell0⟩ := hr.2 (by omega)
      have hm1 : l[m] = ((its[m]'hlt2).1, (its[m]'hlt2).2.2) := by simp only [hits.out, List.getElem_map]
      have hflat := flat2 its m hlt2
      have hc0 := (hch.cell (p := ⟨b', off + 2 * m, none⟩) hb1 (hD _ hb2)).trans (hcell0 _ _ hflat.1)
      have hc1 := (hch.cell (p := ⟨b', off + (2 * m + 1), none⟩) hb1 (hD _ hb2)).trans (hcell0 _ _ hflat.2)
      obtain ⟨A2, c2, hv2, hr2o⟩ := hi _ (List.getElem_mem hlt2)
      have hr2 := hr2o.chg hch (fun j hj _ => hD j hj)
      clear hr2o
      have hstep := putAll_take (outs, bad, 0) l m hlt
      have hsum := putAll_sum (l.take (m + 1)) (outs, bad, 0)
      have hsum2 : ((l.take (m + 1)).map fun o => o.2.length).sum ≤ 1000000000 := by rw [List.map_take]; exact Nat.le_trans (sum_take _ _) hs
      rw [hstep, put1_sum] at hsum
      rw [hm1] at hstep hsum
      generalize its[m]'hlt2 = it at *
      obtain ⟨p, sv, bs⟩ := it
      simp only at hc0 hc1 hv2 hr2 hstep hsum
      subst hv2
      have hlen : ∀ j, ((putAll (outs, bad, 0) (l.take m)).1 j).length ≤ 1001000000000 := fun j => by
        have h1 := putAll_len (l.take m) j (outs, bad, 0)
        have h2 : ((l.take m).map fun o => o.2.length).sum ≤ 1000000000 := by rw [List.map_take]; exact Nat.le_trans (sum_take _ _) hs
        have h3 := hout j
        simp only at h1
        omega
      generalize putAll (outs, bad, 0) (l.take m) = st at *
      obtain ⟨o1, bd, sm⟩ := st
      simp only at hbr hsum hstep hlen
      have hres : ∀ W' : World, Blk W' G 42 (gotC (put1 (o1, bd, sm) (p, bs)).1 need err held taken (put1 (o1, bd, sm) (p, bs)).2.1) → Chg (fun j => j = G) w W' → PutRel G need err held taken w W' (putAll (outs, bad, 0) (l.take (m + 1))) := fun W' h1 h2 => by
        rw [hstep]; exact ⟨h1, h2⟩
      have hsum' : sm + bs.length ≤ 1000000000 := by omega
      have e1 : 2 * m = m * 2 := by omega
      rw [e1] at hc0 hc1
      rw [← Nat.add_assoc] at hc1
      have h11 : wr.cell? ⟨G, 11, none⟩ = some (.bool bd) := (hbr.cell _).trans rfl
      have hf : ∀ i, wr.frozen? ⟨G, i, none⟩ = false := fun i => hbr.frozen i
      have o0 : wr.cell? ⟨G, 0, none⟩ = some (strv (o1 0)) := (hbr.cell _).trans rfl
      have o1' : wr.cell? ⟨G, 1, none⟩ = some (strv (o1 1)) := (hbr.cell _).trans rfl
      have o2 : wr.cell? ⟨G, 2, none⟩ = some (strv (o1 2)) := (hbr.cell _).trans rfl
      have o3 : wr.cell? ⟨G, 3, none⟩ = some (strv (o1 3)) := (hbr.cell _).trans rfl
      have hbG : b' ≠ G := hD _ hb2
      have hmi : (0 : Int) ≤ (m : Int) := by omega
      have hmi2 : (m : Int) < (l.length : Int) := by omega
      have hsn : (((sm + bs.length : Nat)) : Int) = (sm : Int) + (bs.length : Int) := by omega
      have hS : Hid ((putAll (outs, bad, 0) (l.take (m + 1))).2.2 = sm + bs.length) := by show _ = _; rw [hstep, put1_sum]
      clear hstep hsum hm1 hb hcell0 hflat e1 hsum2
      by_cases hbad : p < 0 ∨ p > 3 ∨ bs = []
      · have hp1 : put1 (o1, bd, sm) (p, bs) = (o1, true, sm + bs.length) := by unfold put1; rw [if_pos hbad]
        rw [hp1] at hres
        have hb1' := hbr.set 11 (.bool true)
        rw [gotC_bad] at hb1'
        have hch1 := hch.setCell (p := ⟨G, 11, none⟩) (.inl rfl) (.bool true)
        have hb2' := hb1'.set 11 (.bool true)
        rw [gotC_bad] at hb2'
        have hres1 := hres _ hb1' hch1
        have hres2 := hres _ hb2' (hch1.setCell (p := ⟨G, 11, none⟩) (.inl rfl) (.bool true))
        clear hres hbr hb1' hb2' hch1 hp1 o0 o1' o2 o3
        have hz : bs = [] → ((bs.length : Int) == 0) = true := fun h => by rw [h]; rfl
        by_cases hp0 : p < 0
        · by_cases hq : 1024 < (sm : Int) + (bs.length : Int)
          all_goals
            go_wp2
            go_roundw
            case rel => exact ⟨m + 1, by omega, by go_num, by rw [hS.out]; go_num, by first | exact hres1 | exact hres2⟩
            case measure => simp [intOf]; omega
        · by_cases hp3 : 3 < p
          · by_cases hq : 1024 < (sm : Int) + (bs.length : Int)
            all_goals
              go_wp2
              go_roundw
              case rel => exact ⟨m + 1, by omega, by go_num, by rw [hS.out]; go_num, by first | exact hres1 | exact hres2⟩
              case measure => simp [intOf]; omega
          · have hz1 := hz (by rcases hbad with h | h | h <;> first | exact absurd h hp0 | exact absurd h hp3 | exact h)
            clear hz hbad
            by_cases hq : 1024 < (sm : Int) + (bs.length : Int)
            all_goals
              go_wp2
              go_roundw
              case rel => exact ⟨m + 1, by omega, by go_num, by rw [hS.out]; go_num, by first | exact hres1 | exact hres2⟩
              case measure => simp [intOf]; omega
      · have hne : bs ≠ [] := fun h => hbad (.inr (.inr h))
        have hpl : 0 < bs.length := List.length_pos_iff.2 hne
        have hp0 : ¬ p < 0 := fun h => hbad (.inl h)
        have hp3 : ¬ 3 < p := fun h => hbad (.inr (.inl h))
        have hz1 : ((bs.length : Int) == 0) = false := by rw [beq_eq_false_iff_ne]; omega
        obtain ⟨g2, of2, rfl, _, hg2, hcl⟩ := hr2.2 hpl
        have hg2' : g2 ≠ G := hD _ hg2
        have hcv : ∀ W : World, W.heap[g2]? = wr.heap[g2]? → (convert 22 9 (.slice (some ⟨g2, of2, none⟩) bs.length c2)).run Try.prog W = .ok (strv bs) W := fun W hW => conv_str g2 of2 c2 bs (fun i x hx => by
            rw [World.cell?_of_block (w := wr) (a := ⟨g2, of2 + i, none⟩) hW]
            exact hcl i _ (u8s_at hx))
        have hcvd : (convert 22 9 (.slice (some ⟨g2, of2, none⟩) bs.length c2)).run Try.prog wr.drew = .ok (strv bs) wr.drew := hcv _ rfl
        have hcvd2 : (convert 22 9 (.slice (some ⟨g2, of2, none⟩) bs.length c2)).run Try.prog (wr.setCell ⟨G, 11, none⟩ (.bool true)).drew = .ok (strv bs) (wr.setCell ⟨G, 11, none⟩ (.bool true)).drew := hcv _ (Below.heap_setCell _ _ _ _ hg2')
        clear hcv
        have hp1 : put1 (o1, bd, sm) (p, bs) = (upd o1 p.toNat (o1 p.toNat ++ bs), bd || decide (sm + bs.length > 1024), sm + bs.length) := by unfold put1; rw [if_neg hbad]
        rw [hp1] at hres
        have hnt : p.toNat < 4 := by omega
        have hgo := fun (b : Bool) => gotC_out o1 need err held taken b p.toNat hnt (o1 p.toNat ++ bs)
        by_cases hq : 1024 < (sm : Int) + (bs.length : Int)
        · have hd : (bd || decide (sm + bs.length > 1024)) = true := by rw [decide_eq_true (by omega)]; simp
          rw [hd] at hres
          have hb1' := hbr.set 11 (.bool true)
          rw [gotC_bad] at hb1'
          have hb2' := hb1'.drew.set p.toNat (strv (o1 p.toNat ++ bs))
          rw [hgo] at hb2'
          have hres1 := hres _ hb2' ((hch.setCell (p := ⟨G, 11, none⟩) (.inl rfl) (.bool true)).drew.setCell (p := ⟨G, p.toNat, none⟩) (.inl rfl) _)
          clear hres hbr hb1' hb2' hp1 hgo hz1 hr2 hcl hd
          obtain rfl | rfl | rfl | rfl : p = 0 ∨ p = 1 ∨ p = 2 ∨ p = 3 := by omega
          · have hcat : ∀ W : World, (Op.stringOp .add ⟨(o1 0).toArray⟩ ⟨bs.toArray⟩).run Try.prog W = .ok (strv (o1 0 ++ bs)) W := fun W => by
              have := hlen 0
              rw [run_string_add_sum W _ _ (by simp [ByteArray.size]; omega), strv_append]
            have q1 : (wr.setCell ⟨G, 11, none⟩ (.bool true)).cell? ⟨G, 0, none⟩ = some (strv (o1 0)) := (World.cell?_setCell_other _ _ _ _ (by simp)).trans o0
            have q2 : (wr.setCell ⟨G, 11, none⟩ (.bool true)).cell? ⟨b', off + m * 2 + 1, none⟩ = some (.slice (some ⟨g2, of2, none⟩) bs.length c2) := (World.cell?_setCell_other _ _ _ _ (by simp)).trans hc1
            clear hlen
            go_wp2
            go_region
            go_wp2
            go_roundw
            case rel => exact ⟨m + 1, by omega, by go_num, by rw [hS.out]; go_num, hres1⟩
            case measure => simp [intOf]; omega
          · have hcat : ∀ W : World, (Op.stringOp .add ⟨(o1 1).toArray⟩ ⟨bs.toArray⟩).run Try.prog W = .ok (strv (o1 1 ++ bs)) W := fun W => by
              have := hlen 1
              rw [run_string_add_sum W _ _ (by simp [ByteArray.size]; omega), strv_append]
            have q1 : (wr.setCell ⟨G, 11, none⟩ (.bool true)).cell? ⟨G, 1, none⟩ = some (strv (o1 1)) := (World.cell?_setCell_other _ _ _ _ (by simp)).trans o1'
            have q2 : (wr.setCell ⟨G, 11, none⟩ (.bool true)).cell? ⟨b', off + m * 2 + 1, none⟩ = some (.slice (some ⟨g2, of2, none⟩) bs.length c2) := (World.cell?_setCell_other _ _ _ _ (by simp)).trans hc1
            clear hlen
            go_wp2
            go_region
            go_wp2
            go_roundw
            case rel => exact ⟨m + 1, by omega, by go_num, by rw [hS.out]; go_num, hres1⟩
            case measure => simp [intOf]; omega
          · have hcat : ∀ W : World, (Op.stringOp .add ⟨(o1 2).toArray⟩ ⟨bs.toArray⟩).run Try.prog W = .ok (strv (o1 2 ++ bs)) W := fun W => by
              have := hlen 2
              rw [run_string_add_sum W _ _ (by simp [ByteArray.size]; omega), strv_append]
            have q1 : (wr.setCell ⟨G, 11, none⟩ (.bool true)).cell? ⟨G, 2, none⟩ = some (strv (o1 2)) := (World.cell?_setCell_other _ _ _ _ (by simp)).trans o2
            have q2 : (wr.setCell ⟨G, 11, none⟩ (.bool true)).cell? ⟨b', off + m * 2 + 1, none⟩ = some (.slice (some ⟨g2, of2, none⟩) bs.length c2) := (World.cell?_setCell_other _ _ _ _ (by simp)).trans hc1
            clear hlen
            go_wp2
            go_region
            go_wp2
            go_roundw
            case rel => exact ⟨m + 1, by omega, by go_num, by rw [hS.out]; go_num, hres1⟩
            case measure => simp [intOf]; omega
          · have hcat : ∀ W : World, (Op.stringOp .add ⟨(o1 3).toArray⟩ ⟨bs.toArray⟩).run Try.prog W = .ok (strv (o1 3 ++ bs)) W := fun W => by
              have := hlen 3
              rw [run_string_add_sum W _ _ (by simp [ByteArray.size]; omega), strv_append]
            have q1 : (wr.setCell ⟨G, 11, none⟩ (.bool true)).cell? ⟨G, 3, none⟩ = some (strv (o1 3)) := (World.cell?_setCell_other _ _ _ _ (by simp)).trans o3
            have q2 : (wr.setCell ⟨G, 11, none⟩ (.bool true)).cell? ⟨b', off + m * 2 + 1, none⟩ = some (.slice (some ⟨g2, of2, none⟩) bs.length c2) := (World.cell?_setCell_other _ _ _ _ (by simp)).trans hc1
            clear hlen
            go_wp2
            go_region
            go_wp2
            go_roundw
            case rel => exact ⟨m + 1, by omega, by go_num, by rw [hS.out]; go_num, hres1⟩
            case measure => simp [intOf]; omega
        · have hd : (bd || decide (sm + bs.length > 1024)) = bd := by rw [decide_eq_false (by omega)]; simp
          rw [hd] at hres
          have hb2' := hbr.drew.set p.toNat (strv (o1 p.toNat ++ bs))
          rw [hgo] at hb2'
          have hres1 := hres _ hb2' (hch.drew.setCell (p := ⟨G, p.toNat, none⟩) (.inl rfl) _)
          clear hres hbr hb2' hp1 hgo hz1 hr2 hcl hd
          obtain rfl | rfl | rfl | rfl : p = 0 ∨ p = 1 ∨ p = 2 ∨ p = 3 := by omega
          · have hcat : ∀ W : World, (Op.stringOp .add ⟨(o1 0).toArray⟩ ⟨bs.toArray⟩).run Try.prog W = .ok (strv (o1 0 ++ bs)) W := fun W => by
              have := hlen 0
              rw [run_string_add_sum W _ _ (by simp [ByteArray.size]; omega), strv_append]
            clear hlen
            go_wp2
            go_region
            go_wp2
            go_roundw
            case rel => exact ⟨m + 1, by omega, by go_num, by rw [hS.out]; go_num, hres1⟩
            case measure => simp [intOf]; omega
          · have hcat : ∀ W : World, (Op.stringOp .add ⟨(o1 1).toArray⟩ ⟨bs.toArray⟩).run Try.prog W = .ok (strv (o1 1 ++ bs)) W := fun W => by
              have := hlen 1
              rw [run_string_add_sum W _ _ (by simp [ByteArray.size]; omega), strv_append]
            clear hlen
            go_wp2
            go_region
            go_wp2
            go_roundw
            case rel => exact ⟨m + 1, by omega, by go_num, by rw [hS.out]; go_num, hres1⟩
            case measure => simp [intOf]; omega
          · have hcat : ∀ W : World, (Op.stringOp .add ⟨(o1 2).toArray⟩ ⟨bs.toArray⟩).run Try.prog W = .ok (strv (o1 2 ++ bs)) W := fun W => by
              have := hlen 2
              rw [run_string_add_sum W _ _ (by simp [ByteArray.size]; omega), strv_append]
            clear hlen
            go_wp2
            go_region
            go_wp2
            go_roundw
            case rel => exact ⟨m + 1, by omega, by go_num, by rw [hS.out]; go_num, hres1⟩
            case measure => simp [intOf]; omega
          · have hcat : ∀ W : World, (Op.stringOp .add ⟨(o1 3).toArray⟩ ⟨bs.toArray⟩).run Try.prog W = .ok (strv (o1 3 ++ bs)) W := fun W => by
              have := hlen 3
              rw [run_string_add_sum W _ _ (by simp [ByteArray.size]; omega), strv_append]
            clear hlen
            go_wp2
            go_region
            go_wp2
            go_roundw
            case rel => exact ⟨m + 1, by omega, by go_num, by rw [hS.out]; go_num, hres1⟩
            case measure => simp [intOf]; omega
    · have h5 : wr.cell? ⟨G, 5, none⟩ = some (.int .i64 err) := (hbr.cell _).trans rfl
      have hf5 := hbr.frozen 5
      have hkk : m = l.length := by omega
      subst hkk
      rw [List.take_length] at hbr
      have hb5 := hbr.set 5 (.int .i64 e)
      rw [gotC_err] at hb5
      have hch5 := hch.setCell (p := ⟨G, 5, none⟩) (.inl rfl) (.int .i64 e)
      clear hb hbr hch
      go_wp2
      go_end0
      exact ⟨rfl, hb5, hch5⟩
end Go.Proofs.Ytkgmbomfkdkofaa
