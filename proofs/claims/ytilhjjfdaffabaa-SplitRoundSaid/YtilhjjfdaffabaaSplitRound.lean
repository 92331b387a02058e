/- SplitRound: the outputs, taken by turns, are the input. -/
import Derived.Test.YtilhjjfdaffabaaSplitTold
import Derived.Test.YtilhjjfdaffabaaSplitLns
import Derived.Test.YtilhjjfdaffabaaCat4
namespace Go.Proofs.Ytilhjjfdaffabaa.Split
open Go Go.RowKit

theorem fit_of (n : Nat) (h1 : 1 ≤ n) (h4 : n ≤ 4) : fitP ⟨16, n, [], []⟩ := by
  obtain rfl | rfl | rfl | rfl : n = 1 ∨ n = 2 ∨ n = 3 ∨ n = 4 := by omega
  all_goals exact ⟨by decide, rfl⟩
theorem gotC_out (outs : Nat → Bs) (need err held : Int) (taken : Nat → Nat) (bad : Bool) (k : Nat) (x : Bs) (hk : k < 4) : (gotC outs need err held taken bad).setIfInBounds k (strv x) = gotC (upd outs k x) need err held taken bad := by
  obtain rfl | rfl | rfl | rfl : k = 0 ∨ k = 1 ∨ k = 2 ∨ k = 3 := by omega
  all_goals simp [gotC, upd]
theorem eq_four (W : World) : (Op.equalIn 10000 39 (.agg #[strv [], strv [], strv [], strv []]) (.agg #[.string ⟨#[]⟩, .string ⟨#[]⟩, .string ⟨#[]⟩, .string ⟨#[]⟩])).run Try.prog W = .ok true W := by kernel_rfl
theorem str_head (S P c : Bs) (e : P ++ c = S) : (⟨S.toArray⟩ : ByteArray).extract 0 P.length = ⟨P.toArray⟩ := by
  subst e
  apply ByteArray.ext
  simp
theorem str_tail (S P c : Bs) (e : P ++ c = S) : (⟨S.toArray⟩ : ByteArray).extract P.length S.length = ⟨c.toArray⟩ := by
  subst e
  apply ByteArray.ext
  have : P.length + c.length - P.length = c.length := by omega
  simp [this]

theorem sum_le64 (ls : List Bs) (h : ∀ x ∈ ls, x.length ≤ 64) : (ls.map List.length).sum ≤ 64 * ls.length := by
  induction ls with
  | nil => simp
  | cons l r ih =>
    have h1 := ih (fun x hx => h x (by simp [hx]))
    have h2 := h l (by simp)
    simp
    omega

set_option maxHeartbeats 4000000 in
set_option maxRecDepth 100000 in
theorem round_law (n : Int) (b : Bs) (cuts : List Int) (A C : Option Addr) (ci cc : Nat) (w : World)
    (hn : -9223372036854775808 ≤ n ∧ n ≤ 9223372036854775807) (hcb : b.length ≤ ci) (_ : ci ≤ maxLen) (hins : Rd w (fun _ => True) 1 A b.length (u8s b)) (hcl : cuts.length ≤ maxLen) (hcuts : Rd w (fun _ => True) 1 C cuts.length (i64s cuts)) (hE : E w.heap.size w) :
    Calls Try.prog 9 #[.int .i64 n, .slice A b.length ci, .slice C cuts.length cc] w (TruePost w) := by
  have hEE : ∀ W, Chg (fun _ => False) w W → E w.heap.size W := fun W hW => E_on (hW.below (Nat.le_refl _) (fun _ h => h.elim)) hE
  have haw := fun (W : World) (hW : Chg (fun _ => False) w W) => awake_any w.heap.size W hW.size (hEE W hW)
  have hhv := fun (W : World) (C2 : Option Addr) (c2 : Nat) (hr : Rd W (fun _ => True) 1 C2 1 [.slice C cuts.length cc]) =>
    heavy_any (fun _ => True) 16 n none none 0 0 0 0 none C2 0 c2 [] [(C, cuts.length, cc)] W (by simp [maxLen]) (by simp [maxLen]) (by simp [maxLen]) ⟨none, 0, [], rfl, rfl, Rd.nil _ _ _ _, fun _ h => by cases h⟩ (fun _ h => by cases h) hr (by simp) (by
      intro c hc
      simp at hc
      subst hc
      exact hcl)
  have hst : Blk (w.alloc (.cells #[.int .i64 16, .int .i64 n, .slice none 0 0, .slice none 0 0] 24)) w.heap.size 24 #[.int .i64 16, .int .i64 n, .slice none 0 0, .slice none 0 0] := Blk.new _ _ _
  generalize hh : heavyB 0 0 [] [(C, cuts.length, cc)] = hβ at *
  replace haw := Lib.hid haw
  replace hhv := Lib.hid hhv
  by_cases hok : b.length ≤ 2000 ∧ 1 ≤ n ∧ n ≤ 4
  · cases hβ
    · have hsz := heavyB_false hh
      obtain ⟨m, rfl⟩ : ∃ m : Nat, n = m := ⟨n.toNat, by omega⟩
      have hl1 : ¬ (m : Int) < 1 := by omega
      have hl4 : ¬ (4 : Int) < (m : Int) := by omega
      have hl2 : ¬ (2000 : Int) < (b.length : Int) := by omega
      have hm1 : 1 ≤ m := by omega
      have hm4 : m ≤ 4 := by omega
      have hf := fit_of m (by omega) (by omega)
      have hln := fun (W : World) (hW : Chg (fun _ => False) w W) => lns_any b A ci W (hins.chg hW (fun _ _ _ h => h)) hcb (by omega)
      have hal := turn_ended m b
      have hnl := (refLines_sum ⟨b, true, 0, 0, 0⟩).2
      have hl64 := refLines_len ⟨b, true, 0, 0, 0⟩
      have ho := left_start m hm1 (endS b)
      have htl := fun (hd0 : (den m [endS b]).need = -1 ∧ (den m [endS b]).err = 0) (W : World) (hW : Chg (fun _ => False) w W) (A2 : Option Addr) (c2 : Nat) (hi2 : BssAt W (fun _ => True) (.slice A2 [b].length c2) [b]) =>
        told_any (fun _ => True) ⟨16, m, [], []⟩ ⟨by dsimp only; omega, by dsimp only; omega, by simp, by simp⟩ [b] ⟨hf, by rw [(fit_n hf).2.2.1]; rfl⟩ (fun x hx => by simp at hx; subst hx; omega) hd0 cuts (by have := hsz.2.2.2.2 (C, cuts.length, cc) (by simp); dsimp only at this; omega) _ A2 C c2 cc W (prm_lit W 16 m) (by simp) hi2 (hcuts.chg hW (fun _ _ _ h => h)) w.heap.size hW.size (hEE W hW)
      unfold ToldPost at htl
      unfold LnsPost at hln
      have hbs := fun (W : World) (hW : Chg (fun _ => False) w W) (g : Nat) (hg : W.heap.size = g) (T : TypeId) => (show BssAt (W.alloc (.cells #[.slice A b.length ci] T)) (fun _ => True) (.slice (some ⟨g, 0, none⟩) 1 1) [b] from
        ⟨some ⟨g, 0, none⟩, 1, [(b, .slice A b.length ci)], rfl, rfl, row_new _ 1 rfl hg, fun t ht => by
          simp at ht
          subst ht
          exact ⟨⟨A, ci, rfl, (hins.chg hW (fun _ _ _ h => h)).chg ((Chg.refl (fun _ => False) W).alloc _) (fun _ _ _ h => h)⟩, capOk_slice hcb⟩⟩)
      replace htl := Lib.hid htl
      replace hbs := Lib.hid hbs
      change b.length ≤ 2000 ∧ _ at hok
      have ho0 : (den m [endS b]).outs = left m (refLines ⟨b, true, 0, 0, 0⟩).lines 0 := ho
      clear ho
      generalize refLines ⟨b, true, 0, 0, 0⟩ = r at *
      replace hln := Lib.hid hln
      replace ho0 := Lib.hid ho0
      replace hl64 := Lib.hid hl64
      clear hsz hf hEE hE hins hcuts
      replace hh := Lib.hid hh
      obtain ⟨lines, all, r1, r2, r3⟩ := r
      cases all
      · clear hal htl hbs hst
        go_enter Try.func9, Try.ntmps9
        go_wp2_with (first
          | (go_at_call 10
             refine (hhv.out _ _ _ (row_new _ 1 rfl (by simp))).mono ?_
             rintro e1 w1 ⟨rfl, hc1⟩
             have k1 : Chg (fun _ => False) w w1 := (((Chg.refl _ _).alloc _).alloc _).trans hc1 (fun _ h _ => h))
          | (go_at_call 24
             refine (hln.out _ k1).mono ?_
             rintro e2 w2 ⟨A2, c2, rfl, hr2, hc2⟩
             have k2 : Chg (fun _ => False) w w2 := k1.trans hc2 (fun _ h _ => h))
          | (go_at_call 11
             refine (haw.out _ k2).mono ?_
             rintro e9 w9 ⟨rfl, hc9⟩))
        go_ret
        exact ⟨rfl, k2.trans hc9 (fun _ h _ => h)⟩
      · replace hal := Lib.hid (hal rfl)
        dsimp only at hnl
        go_enter Try.func9, Try.ntmps9
        go_wp2_with (first
          | (go_at_call 10
             refine (hhv.out _ _ _ (row_new _ 1 rfl (by simp))).mono ?_
             rintro e1 w1 ⟨rfl, hc1⟩
             have k1 : Chg (fun _ => False) w w1 := (((Chg.refl _ _).alloc _).alloc _).trans hc1 (fun _ h _ => h)
             have hb1 := (hst.alloc _).chg hc1 (fun h => h))
          | (go_at_call 24
             refine (hln.out _ k1).mono ?_
             rintro e2 w2 ⟨A2, c2, rfl, hr2, hc2⟩
             have k2 : Chg (fun _ => False) w w2 := k1.trans hc2 (fun _ h _ => h)
             have hb2 := hb1.chg hc2 (fun h => h)
             have q0 : w2.cell? ⟨w.heap.size, 0, none⟩ = some (.int .i64 16) := (hb2.cell 0).trans rfl
             have q1 : w2.cell? ⟨w.heap.size, 1, none⟩ = some (.int .i64 m) := (hb2.cell 1).trans rfl
             have q2 : w2.cell? ⟨w.heap.size, 2, none⟩ = some (.slice none 0 0) := (hb2.cell 2).trans rfl
             have q3 : w2.cell? ⟨w.heap.size, 3, none⟩ = some (.slice none 0 0) := (hb2.cell 3).trans rfl)
          | (go_at_call 25
             refine (htl.out hal.out _ (k2.alloc _) _ _ (hbs.out w2 k2 _ rfl _)).mono ?_
             rintro e3 w3 ⟨hd, tk, rfl, hc3⟩
             have k3 : Chg (fun _ => False) w w3 := (k2.alloc _).trans hc3 (fun _ h _ => h)
             have hr3 := (hr2.chg ((Chg.refl (fun _ => False) w2).alloc _) (fun _ _ _ h => h)).chg hc3 (fun _ _ _ h => h))
          | (refine wpList_store_got rfl (.tmp 10) (.tmp 49) rfl w3.heap.size _ _ _ _ _ _ rfl rfl _ (Blk.new w3 _ _) rfl ?_
             intro w4 hG4 hc4
             have k34 : Chg (fun _ => False) w3 w4 := ((Chg.refl _ _).alloc _).trans hc4 (fun k hk hlt => by omega)
             have k4 : Chg (fun _ => False) w w4 := k3.trans k34 (fun _ h _ => h)
             have hr4 := (hr3.mono (D' := fun k => k < w3.heap.size) (fun _ _ h => h)).chg k34 (fun _ _ _ h => h)))
        clear q0 q1 q2 q3 hr2 hr3
        rw [ho0.out] at hG4
        generalize hgg : w3.heap.size = gg at *
        generalize (den m [endS b]).need = dn at *
        generalize (den m [endS b]).err = de at *
        have hm0 : ((m : Int) == 0) = false := by rw [beq_eq_false_iff_ne]; omega
        have hm0' : ¬ (m : Int) = 0 := by omega
        have hgw : w.heap.size ≤ gg := by have := k3.size; omega
        go_loopw [12] (fun i wr => ∃ k : Nat, k ≤ lines.length ∧ i = .int .i64 k ∧ Blk wr gg 42 (gotC (left m lines k) dn de hd tk false) ∧ Chg (fun j => j = gg) w4 wr) (fun i _ => lines.length - (intOf i).toNat)
        case atStart => exact ⟨0, by omega, rfl, hG4, Chg.refl _ _⟩
        case round =>
          obtain ⟨k, hk, rfl, hGk, hch⟩ := hrel
          have kr : Chg (fun _ => False) w wr := k4.trans hch (fun k hk hlt => by omega)
          by_cases hlt : k < lines.length
          · have hlt' : (k : Int) < (lines.length : Int) := by omega
            have hk0 : (0 : Int) ≤ (k : Int) := by omega
            obtain ⟨g3, o3, u, rfl, hg3, _, hu, hcell⟩ := (hr4.chg hch (fun j hj _ e => by omega)).at_ hlt
            rw [List.getElem?_map, List.getElem?_eq_getElem hlt] at hu
            simp only [Option.map_some, Option.some.injEq] at hu
            subst hu
            have hlm : k % m < m := Nat.mod_lt _ (by omega)
            have hlh := left_here m hm1 lines k hlt
            have hlu := left_upd m lines k hlt
            have hmod : Int.tmod (k : Int) (m : Int) = ((k % m : Nat) : Int) := by
              rw [Int.tmod_eq_emod_of_nonneg (by omega)]; rfl
            have hmod2 : (k : Int) % (m : Int) = ((k % m : Nat) : Int) := rfl
            have hcl := (hGk.cell (k % m)).trans (out_at _ _ _ _ _ _ (k % m) (by omega))
            have hfz : ∀ i, wr.frozen? ⟨gg, i, none⟩ = false := fun i => hGk.frozen i
            have hst2 := hGk.set (k % m) (strv (left m lines (k + 1) (k % m)))
            rw [gotC_out _ _ _ _ _ _ _ _ (by omega), hlu] at hst2
            have hSl : (left m lines k (k % m)).length ≤ 1000000 := by
              have h1 := spl_len m (k % m) (lines.drop k) (k % m)
              have h2 := sum_le64 (lines.drop k) (fun x hx => hl64.out x (List.mem_of_mem_drop hx))
              unfold left
              rw [if_pos hlm]
              rw [List.length_drop] at h1 h2
              omega
            have hx64 := hl64.out _ (List.getElem_mem hlt)
            generalize k % m = j at *
            generalize lines[k] = x at *
            generalize left m lines k j = S at *
            generalize left m lines (k + 1) j = tl at *
            have hj4 : (j : Int) < 4 := by omega
            have hj0 : (0 : Int) ≤ (j : Int) := by omega
            have c1 := fun W => run_cat4 x [10] (by omega) (by simp) W
            have hex := str_head S (x ++ [10]) tl hlh.symm
            have hex2 := str_tail S (x ++ [10]) tl hlh.symm
            have hPl : (x ++ [10]).length ≤ S.length := by rw [hlh]; simp
            have hPb : (x ++ [10]).length ≤ 65 := by simp; omega
            generalize hPP : x ++ [10] = P at *
            have ha1 : ¬ ((S.length : Nat) : Int) < ((P.length : Nat) : Int) := by omega
            have ha2 : ((P.length : Nat) : Int) ≤ ((S.length : Nat) : Int) := by omega
            have hSz : (⟨S.toArray⟩ : ByteArray).size = S.length := by simp [ByteArray.size]
            replace hPP := Lib.hid hPP
            replace hlh := Lib.hid hlh
            replace hlu := Lib.hid hlu
            replace hst2 := Lib.hid hst2
            replace hGk := Lib.hid hGk
            go_wp2
            go_region
            all_goals
              go_wp2
              go_roundw
              case rel => exact ⟨k + 1, by omega, by go_num, hst2.out, (hch.setCell (p := ⟨gg, j, none⟩) (.inl rfl) _).drew⟩
              case measure => simp [intOf]; omega
          · have hlt' : ¬ (k : Int) < (lines.length : Int) := by omega
            obtain rfl : k = lines.length := by omega
            have e0 : left m lines lines.length = fun _ => [] := funext fun j => left_end m lines _ (Nat.le_refl _) j
            rw [e0] at hGk
            have z0 : wr.cell? ⟨gg, 0, none⟩ = some (strv []) := (hGk.cell 0).trans rfl
            have z1 : wr.cell? ⟨gg, 1, none⟩ = some (strv []) := (hGk.cell 1).trans rfl
            have z2 : wr.cell? ⟨gg, 2, none⟩ = some (strv []) := (hGk.cell 2).trans rfl
            have z3 : wr.cell? ⟨gg, 3, none⟩ = some (strv []) := (hGk.cell 3).trans rfl
            have heq := fun W => eq_four W
            clear e0 hGk
            go_wp2_with (first
              | (go_at_call 11
                 refine (haw.out _ kr).mono ?_
                 rintro e9 w9 ⟨rfl, hc9⟩))
            go_ret
            exact ⟨rfl, kr.trans hc9 (fun _ h _ => h)⟩
    · clear hh hE hEE hins hcuts hok
      go_enter Try.func9, Try.ntmps9
      go_wp2_with (first
        | (go_at_call 10
           refine (hhv.out _ _ _ (row_new _ 1 rfl (by simp))).mono ?_
           rintro e1 w1 ⟨rfl, hc1⟩
           have k1 : Chg (fun _ => False) w w1 := (((Chg.refl _ _).alloc _).alloc _).trans hc1 (fun _ h _ => h))
        | (go_at_call 11
           refine (haw.out _ k1).mono ?_
           rintro e9 w9 ⟨rfl, hc9⟩))
      go_ret
      exact ⟨rfl, k1.trans hc9 (fun _ h _ => h)⟩
  · clear hh hE hEE hins hcuts
    rcases (by omega : ((2000 : Int) < (b.length : Int)) ∨ (¬ (2000 : Int) < (b.length : Int) ∧ n < 1) ∨ (¬ (2000 : Int) < (b.length : Int) ∧ ¬ n < 1 ∧ 4 < n)) with h1 | ⟨h1, h2⟩ | ⟨h1, h2, h3⟩
    all_goals
      clear hok
      cases hβ
      all_goals
        go_enter Try.func9, Try.ntmps9
        go_wp2_with (first
          | (go_at_call 10
             refine (hhv.out _ _ _ (row_new _ 1 rfl (by simp))).mono ?_
             rintro e1 w1 ⟨rfl, hc1⟩
             have k1 : Chg (fun _ => False) w w1 := (((Chg.refl _ _).alloc _).alloc _).trans hc1 (fun _ h _ => h))
          | (go_at_call 11
             refine (haw.out _ k1).mono ?_
             rintro e9 w9 ⟨rfl, hc9⟩))
        go_ret
        exact ⟨rfl, k1.trans hc9 (fun _ h _ => h)⟩
end Go.Proofs.Ytilhjjfdaffabaa.Split
