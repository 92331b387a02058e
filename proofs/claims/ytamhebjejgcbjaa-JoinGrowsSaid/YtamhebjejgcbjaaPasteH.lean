/- paste: Held; its machine is one that Drive can drive. -/
import Derived.Test.YtamhebjejgcbjaaPasteF
namespace Go.Proofs.Ytamhebjejgcbjaa
open Go Go.RowKit

theorem wts_take (l : List PQ) (i : Nat) (h : i < l.length) : ((l.take (i + 1)).map paWt).sum = ((l.take i).map paWt).sum + paWt l[i] := by
  rw [List.take_succ_eq_append_getElem h, List.map_append, List.sum_append]; simp
theorem lens_le : ∀ (l : List Bs) (c : Nat), (∀ x ∈ l, x.length ≤ c) → lens l ≤ l.length * c
  | [], c, _ => by simp [lens]
  | x :: r, c, h => by
    have h1 := h x (by simp)
    have h2 := lens_le r c (fun y hy => h y (by simp [hy]))
    unfold lens at h2 ⊢
    simp only [List.map_cons, List.sum_cons, List.length_cons, Nat.succ_mul]
    omega
theorem wt_le {q : PQ} (h : PQOk q) (hb : q.beg.length ≤ 64) : paWt q ≤ 2200 ∧ lens q.ls ≤ 2048 := by
  have h1 := lens_le q.ls 64 h.short
  have h2 := h.few
  have h3 : q.ls.length * 64 ≤ 32 * 64 := Nat.mul_le_mul_right _ h2
  have e : (q.ls.map List.length).sum = lens q.ls := rfl
  refine ⟨?_, by omega⟩
  unfold paWt
  rw [e]
  split <;> omega

section
variable {g n B : Nat}

theorem base_need3 (a : Int) (ov : Bool) (w : World) (h0 : w.cell? ⟨g, 0, none⟩ = some (.int .i64 a)) (h1 : w.cell? ⟨g, 1, none⟩ = some (.bool false)) (h2 : w.cell? ⟨g, 2, none⟩ = some (.bool ov)) :
    Calls Try.prog 122 #[.pointer (some ⟨g, 0, none⟩)] w fun e w' => e = .returned (.int .i64 (if ov = true then -1 else a)) ∧ w = w' := by
  cases ov
  all_goals
    go_enter Try.func122, Try.ntmps122
    go_wp2
    go_ret
    exact ⟨rfl, rfl⟩

set_option maxHeartbeats 1000000 in
set_option maxRecDepth 100000 in
theorem pa_held_any (s : PaS) (F : Nat → Prop) (w : World) (h : PaInv g n B s F w) :
    Calls Try.prog 156 #[.pointer (some ⟨g, 0, none⟩)] w fun e w' => e = .returned (.int .i64 (pasteM.held s)) ∧ Chg (fun _ => False) w w' := by
  obtain ⟨gi, csI, rv, lv, hok, hW, hm, hFF⟩ := h
  obtain ⟨k0, k1, k2, k4, k5, hfz⟩ := pa_cells hm
  have hwt : ∀ k (hk : k < s.qs.length), paWt s.qs[k] ≤ 2200 ∧ Calls Try.prog 160 #[.pointer (some ⟨gi, k * 68, none⟩)] w fun e w' => e = .returned (.int .i64 (paWt s.qs[k])) ∧ w = w' := fun k hk => by
    have hq : s.qs[k]? = some s.qs[k] := List.getElem?_eq_getElem hk
    obtain ⟨fl, hqa, hfl⟩ := hm.q _ _ hq
    have hqo := hok.qs _ (List.getElem_mem hk)
    have hle := wt_le hqo hqa.spl.le
    have := hqo.few
    exact ⟨hle.1, (weight_any 112 gi (k * 68) B csI _ (lv k) w fl hm.ins hqa (hm.own _ _ hq) (by omega) (by omega)).mono (fun e w' h => ⟨h.1, h.2.symm⟩)⟩
  have hsum : ∀ k, k ≤ s.qs.length → ((s.qs.take k).map paWt).sum ≤ k * 2200 := fun k => by
    induction k with
    | zero => intro _; simp
    | succ k ih =>
      intro hk
      rw [wts_take s.qs k (by omega)]
      have := ih (by omega)
      have := (hwt k (by omega)).1
      omega
  obtain ⟨A, c, rfl, hcell⟩ := strs_cell B hm.row
  have hrows := hok.rows
  have hrl : s.row.length ≤ 4 := by have := hok.row; have := hok.n4; omega
  have hql : s.qs.length ≤ 4 := by have := hok.len; have := hok.n4; omega
  have hlr := lens_le s.row 64 hrows
  have e : pasteM.held s = (((s.qs.map paWt).sum + lens s.row : Nat) : Int) := rfl
  rw [e]
  replace hcell := Lib.hid hcell
  replace hwt := Lib.hid hwt
  replace hsum := Lib.hid hsum
  have hqI : (s.qs.length : Int) ≤ 4 := by omega
  have hrI : (s.row.length : Int) ≤ 4 := by omega
  clear hok hm hFF hW e hrows k0 k1 k2 hfz
  go_enter Try.func156, Try.ntmps156
  go_wp2
  go_loopw [3, 12] (fun n i wr => ∃ k : Nat, k ≤ s.qs.length ∧ i = .int .i64 k ∧ n = .int .i64 (((s.qs.take k).map paWt).sum : Nat) ∧ wr = w) (fun _ i _ => s.qs.length - (intOf i).toNat)
  case atStart => exact ⟨0, Nat.zero_le _, rfl, by simp, rfl⟩
  case round =>
    obtain ⟨k, hk, rfl, rfl, rfl⟩ := hrel
    by_cases hlt : k < s.qs.length
    · have hwk := (hwt.out k hlt).2
      have hs := wts_take s.qs k hlt
      have hle := hsum.out (k + 1) hlt
      rw [hs] at hle
      have hltI : (k : Int) < (s.qs.length : Int) := by omega
      have hk0 : (0 : Int) ≤ (k : Int) := by omega
      replace hwk := Lib.hid hwk
      generalize paWt s.qs[k] = x at *
      replace hs := Lib.hid hs
      generalize ((s.qs.take k).map paWt).sum = n0 at *
      have hxI : (x : Int) ≤ 100000 := by omega
      have hnI : (n0 : Int) ≤ 100000 := by omega
      go_wp2_with (first
        | (go_at_call 160
           refine hwk.out.mono ?_
           rintro e1 w1 ⟨rfl, rfl⟩))
      go_roundw
      case rel => exact ⟨k + 1, by omega, by go_num, by rw [hs.out]; go_num, trivial⟩
      case measure => simp [intOf]; omega
    · have hkl : k = s.qs.length := by omega
      have hltI : ¬ (k : Int) < (s.qs.length : Int) := by omega
      have hfin : ((s.qs.take k).map paWt).sum = (s.qs.map paWt).sum := by rw [hkl, List.take_length]
      have hn4 := hsum.out k hk
      rw [hfin] at hn4 ⊢
      obtain ⟨n1, hn1e⟩ : ∃ n1, (s.qs.map paWt).sum = n1 := ⟨_, rfl⟩
      rw [hn1e] at hn4 ⊢
      replace hn1e := Lib.hid hn1e
      have hn1 : (n1 : Int) ≤ 8800 := by omega
      replace hfin := Lib.hid hfin
      go_wp2
      go_loopw [3, 30] (fun n i wr2 => ∃ k : Nat, k ≤ s.row.length ∧ i = .int .i64 k ∧ n = .int .i64 (n1 + lens (s.row.take k) : Nat) ∧ wr2 = wr) (fun _ i _ => s.row.length - (intOf i).toNat)
      case atStart => exact ⟨0, Nat.zero_le _, rfl, by simp [lens], rfl⟩
      case round =>
        obtain ⟨k, hk, rfl, rfl, rfl⟩ := hrel
        by_cases hlt : k < s.row.length
        · obtain ⟨g2, off, rfl, hg2, hc⟩ := hcell.out k hlt
          have hs := lens_take s.row k hlt
          have hle := lens_take_le s.row (k + 1)
          generalize s.row[k] = x at *
          generalize lens (s.row.take k) = n0 at *
          have hs := Lib.hid hs
          have hxl : (x.length : Int) ≤ 100000 := by have := hs.out; omega
          have hnl : (n0 : Int) ≤ 100000 := by have := hs.out; omega
          have hbs : (⟨x.toArray⟩ : ByteArray).size = x.length := by simp [ByteArray.size]
          go_wp2
          go_roundw
          case rel => exact ⟨k + 1, by omega, by go_num, by rw [hs.out]; go_num, trivial⟩
          case measure => simp [intOf]; omega
        · have hkl : k = s.row.length := by omega
          have hfin : lens (s.row.take k) = lens s.row := by rw [hkl, List.take_length]
          replace hfin := Lib.hid hfin
          go_wp2
          go_ret
          rw [hfin.out, ← hn1e.out]
          exact ⟨rfl, Chg.refl _ _⟩

theorem pa_small (s : PaS) (h : PaOk n s) (hW : PaW s) (hbeg : ∀ q ∈ s.qs, q.beg.length ≤ 64) : (∀ port bs, bs.length ≤ 100000 → (pasteM.feed s port bs).1.length ≤ 1000000 ∧ ((pasteM.feed s port bs).1.map fun o => o.2.length).sum ≤ 10000000) ∧
    (∀ port, (pasteM.fin s port).1.length ≤ 1000000 ∧ ((pasteM.fin s port).1.map fun o => o.2.length).sum ≤ 10000000) ∧ ((pasteM.more s).1.length ≤ 1000000 ∧ ((pasteM.more s).1.map fun o => o.2.length).sum ≤ 10000000) := by
  have key : ∀ s1 : PaS, PaOk n s1 → (tellS 0 (paAll s1).1).length ≤ 1000000 ∧ ((tellS 0 (paAll s1).1).map fun o => o.2.length).sum ≤ 10000000 := fun s1 h1 => by
    have h2 := paAll_ok _ s1 (Nat.lt_succ_self _) h1
    have h3 := joinS_le _ 1000 h2.2.2.1
    have h4 := paMu_le h1
    have h5 : (paAll s1).1.length * 1001 ≤ 2000 * 1001 := Nat.mul_le_mul_right _ (by omega)
    unfold tellS
    split
    · simp
    · simp only [List.length_singleton, List.map_cons, List.map_nil, List.sum_cons, List.sum_nil]; omega
  refine ⟨fun port bs _ => ?_, fun port => ?_, by simp, by simp⟩
  · show (paFeed s port bs).1.length ≤ 1000000 ∧ ((paFeed s port bs).1.map fun o => o.2.length).sum ≤ 10000000
    unfold paFeed
    split
    · simp
    split
    · simp
    split
    · simp
    rename_i ho _ hlen
    obtain ⟨q, hq, hql, hqe⟩ := hW (by simpa using ho)
    rw [hq]
    dsimp only
    split
    · simp
    exact key _ (h.setQ _ _ (pushed_ok hql (hbeg q (List.mem_of_getElem? hq)) (by omega)))
  · show (paFin s port).1.length ≤ 1000000 ∧ ((paFin s port).1.map fun o => o.2.length).sum ≤ 10000000
    unfold paFin
    split
    · simp
    split
    · simp
    rename_i ho _
    obtain ⟨q, hq, hql, hqe⟩ := hW (by simpa using ho)
    rw [hq]
    dsimp only
    exact key _ (h.setQ _ _ (closed_ok hql (hbeg q (List.mem_of_getElem? hq))))

theorem pa_mach : MachOk Try.prog pasteM B 88 (.pointer (some ⟨g, 0, none⟩)) (fun _ => True) (PaInv g n B) 122 156 155 154 121
      (.pointer (some ⟨g, 0, none⟩)) (.pointer (some ⟨g, 0, none⟩)) (.pointer (some ⟨g, 0, none⟩)) (.pointer (some ⟨g, 0, none⟩)) (.pointer (some ⟨g, 0, none⟩)) where
  env _ _ _ _ := trivial
  keep s F w w' S h hc hS := by
    obtain ⟨gi, csI, rv, lv, hok, hW, hm, hFF⟩ := h
    exact ⟨gi, csI, rv, lv, hok, hW, hm.keep hc (fun k hk => hS k ((hFF k).2 (by rw [← hok.len]; exact hk))), hFF⟩
  inside s F w h := by
    obtain ⟨gi, csI, rv, lv, hok, hW, hm, hFF⟩ := h
    refine ⟨by have := hm.blk.lt; have := hm.ge.1; omega, fun k hk => hm.inside k ?_⟩
    rw [hok.len]
    exact (hFF k).1 hk
  mN := ⟨fun w => by kernel_rfl, fun args w => by kernel_rfl⟩
  mH := ⟨fun w => by kernel_rfl, fun args w => by kernel_rfl⟩
  mF := ⟨fun w => by kernel_rfl, fun args w => by kernel_rfl⟩
  mE := ⟨fun w => by kernel_rfl, fun args w => by kernel_rfl⟩
  mM := ⟨fun w => by kernel_rfl, fun args w => by kernel_rfl⟩
  need s F w h _ := by
    obtain ⟨gi, csI, rv, lv, hok, hW, hm, hFF⟩ := h
    obtain ⟨k0, k1, k2, _⟩ := pa_cells hm
    exact (base_need3 s.at_ s.over w k0 k1 k2).mono (by rintro e w' ⟨rfl, rfl⟩; exact ⟨rfl, Chg.refl _ _⟩)
  held s F w h _ := pa_held_any s F w h
  feed s F w port A c bs h _ hr hl := pa_feed s F w port A c bs h hr hl
  fin s F w port h _ := pa_end s F w port h
  more s F w h _ := by
    have hinv := h
    obtain ⟨gi, csI, rv, lv, hok, hW, hm, hFF⟩ := h
    obtain ⟨_, k1, k2, _⟩ := pa_cells hm
    exact (base_more s.over w k1 k2).mono (by rintro e w' ⟨rfl, rfl⟩; exact pa_ans hinv _ rfl)
  small s F w h := by
    obtain ⟨gi, csI, rv, lv, hok, hW, hm, hFF⟩ := h
    refine pa_small s hok hW (fun q hq => ?_)
    obtain ⟨j, hj, rfl⟩ := List.mem_iff_getElem.1 hq
    obtain ⟨fl, hqa, _⟩ := hm.q j _ (List.getElem?_eq_getElem hj)
    exact hqa.spl.le
end
end Go.Proofs.Ytamhebjejgcbjaa
