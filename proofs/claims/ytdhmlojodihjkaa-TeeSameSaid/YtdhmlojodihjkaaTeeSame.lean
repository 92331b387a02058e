/- TeeSame: each output is the input. -/
import Derived.Test.YtdhmlojodihjkaaTeeTold
namespace Go.Proofs.Ytdhmlojodihjkaa.Tee
open Go Go.RowKit

theorem fit_of (n : Nat) (h1 : 1 ≤ n) (h4 : n ≤ 4) : fitP ⟨15, n, [], []⟩ := by
  obtain rfl | rfl | rfl | rfl : n = 1 ∨ n = 2 ∨ n = 3 ∨ n = 4 := by omega
  all_goals exact ⟨by decide, rfl⟩

set_option maxHeartbeats 4000000 in
set_option maxRecDepth 100000 in
theorem same_law (n : Int) (b : Bs) (cuts : List Int) (A C : Option Addr) (ci cc : Nat) (w : World)
    (hn : -9223372036854775808 ≤ n ∧ n ≤ 9223372036854775807) (hcb : b.length ≤ ci) (_ : ci ≤ maxLen) (hins : Rd w (fun _ => True) 1 A b.length (u8s b)) (hcl : cuts.length ≤ maxLen) (hcuts : Rd w (fun _ => True) 1 C cuts.length (i64s cuts)) (hE : E w.heap.size w) :
    Calls Try.prog 16 #[.int .i64 n, .slice A b.length ci, .slice C cuts.length cc] w (TruePost w) := by
  have hEE : ∀ W, Chg (fun _ => False) w W → E w.heap.size W := fun W hW => E_on (hW.below (Nat.le_refl _) (fun _ h => h.elim)) hE
  have haw := fun (W : World) (hW : Chg (fun _ => False) w W) => awake_any w.heap.size W hW.size (hEE W hW)
  have hhv := fun (W : World) (C2 : Option Addr) (c2 : Nat) (hr : Rd W (fun _ => True) 1 C2 1 [.slice C cuts.length cc]) =>
    heavy_any (fun _ => True) 15 n none none 0 0 0 0 none C2 0 c2 [] [(C, cuts.length, cc)] W (by simp [maxLen]) (by simp [maxLen]) (by simp [maxLen]) ⟨none, 0, [], rfl, rfl, Rd.nil _ _ _ _, fun _ h => by cases h⟩ (fun _ h => by cases h) hr (by simp) (by
      intro c hc
      simp at hc
      subst hc
      exact hcl)
  have hst : Blk (w.alloc (.cells #[.int .i64 15, .int .i64 n, .slice none 0 0, .slice none 0 0] 24)) w.heap.size 24 #[.int .i64 15, .int .i64 n, .slice none 0 0, .slice none 0 0] := Blk.new _ _ _
  generalize hh : heavyB 0 0 [] [(C, cuts.length, cc)] = hβ at *
  replace haw := Lib.hid haw
  replace hhv := Lib.hid hhv
  by_cases hok : b.length ≤ 2000 ∧ 1 ≤ n ∧ n ≤ 4
  · cases hβ
    · have hsz := heavyB_false hh
      obtain ⟨m, rfl⟩ : ∃ m : Nat, n = m := ⟨n.toNat, by omega⟩
      have hl1 : ¬ (m : Int) < 1 := by omega
      have hl4 : ¬ (4 : Int) < (m : Int) := by omega
      have hl2 : ¬ (2000 : Int) < (b.length : Int) := by omega
      have hm4 : m ≤ 4 := by omega
      have hf := fit_of m (by omega) hm4
      have hd0 : (den m [endS b]).need = -1 ∧ (den m [endS b]).err = 0 := ⟨rfl, rfl⟩
      have ho : ∀ j, (den m [endS b]).outs j = if j < m then b else [] := fun j => rfl
      have htl := fun (W : World) (hW : Chg (fun _ => False) w W) (A2 : Option Addr) (c2 : Nat) (hi2 : BssAt W (fun _ => True) (.slice A2 [b].length c2) [b]) =>
        told_any (fun _ => True) ⟨15, m, [], []⟩ ⟨by dsimp only; omega, by dsimp only; omega, by simp, by simp⟩ [b] ⟨hf, by rw [(fit_n hf).2.2.1]; rfl⟩ (fun x hx => by simp at hx; subst hx; omega) hd0 cuts (by have := hsz.2.2.2.2 (C, cuts.length, cc) (by simp); dsimp only at this; omega) _ A2 C c2 cc W (prm_lit W 15 m) (by simp) hi2 (hcuts.chg hW (fun _ _ _ h => h)) w.heap.size hW.size (hEE W hW)
      unfold ToldPost at htl
      have hbs := fun (W : World) (hW : Chg (fun _ => False) w W) (g : Nat) (hg : W.heap.size = g) (T : TypeId) => (show BssAt (W.alloc (.cells #[.slice A b.length ci] T)) (fun _ => True) (.slice (some ⟨g, 0, none⟩) 1 1) [b] from
        ⟨some ⟨g, 0, none⟩, 1, [(b, .slice A b.length ci)], rfl, rfl, row_new _ 1 rfl hg, fun t ht => by
          simp at ht
          subst ht
          exact ⟨⟨A, ci, rfl, (hins.chg hW (fun _ _ _ h => h)).chg ((Chg.refl (fun _ => False) W).alloc _) (fun _ _ _ h => h)⟩, capOk_slice hcb⟩⟩)
      have hcv := fun (W : World) (hW : Chg (fun _ => False) w W) => conv_rd W _ A b ci (hins.chg hW (fun _ _ _ h => h))
      replace htl := Lib.hid htl
      replace hbs := Lib.hid hbs
      replace hcv := Lib.hid hcv
      replace hd0 := Lib.hid hd0
      replace ho := Lib.hid ho
      clear hsz hf hEE hE hins hcuts
      replace hh := Lib.hid hh
      go_enter Try.func16, Try.ntmps16
      go_wp2_with (first
        | (go_at_call 32
           refine (hhv.out _ _ _ (row_new _ 1 rfl (by simp))).mono ?_
           rintro e1 w1 ⟨rfl, hc1⟩
           have k1 : Chg (fun _ => False) w w1 := (((Chg.refl _ _).alloc _).alloc _).trans hc1 (fun _ h _ => h)
           have hb1 := (hst.alloc _).chg hc1 (fun h => h)
           have q0 : w1.cell? ⟨w.heap.size, 0, none⟩ = some (.int .i64 15) := (hb1.cell 0).trans rfl
           have q1 : w1.cell? ⟨w.heap.size, 1, none⟩ = some (.int .i64 m) := (hb1.cell 1).trans rfl
           have q2 : w1.cell? ⟨w.heap.size, 2, none⟩ = some (.slice none 0 0) := (hb1.cell 2).trans rfl
           have q3 : w1.cell? ⟨w.heap.size, 3, none⟩ = some (.slice none 0 0) := (hb1.cell 3).trans rfl)
        | (go_at_call 38
           refine (htl.out _ (k1.alloc _) _ _ (hbs.out w1 k1 _ rfl _)).mono ?_
           rintro e2 w2 ⟨hd, tk, rfl, hc2⟩
           have k2 : Chg (fun _ => False) w w2 := (k1.alloc _).trans hc2 (fun _ h _ => h))
        | (refine wpList_store_got rfl (.tmp 8) (.tmp 37) rfl w2.heap.size _ _ _ _ _ _ rfl rfl _ (Blk.new w2 _ _) rfl ?_
           intro w3 hG3 hc3
           have k3 : Chg (fun _ => False) w w3 := (k2.alloc _).trans hc3 (fun k hk hlt => by have := k2.size; omega)))
      have hcv3 := hcv.out w3 k3
      have hout : ∀ j, j < 4 → w3.cell? ⟨w2.heap.size, j, none⟩ = some (strv (if j < m then b else [])) := fun j hj => by
        rw [hG3.cell j, out_at _ _ _ _ _ _ j hj, ho.out j]
      replace hout := Lib.hid hout
      clear hb1 hst
      have hglt := hG3.lt
      go_loopw [10] (fun i wr => ∃ k : Nat, k ≤ 4 ∧ i = .int .i64 k ∧ Chg (fun _ => False) w3 wr) (fun i _ => 4 - (intOf i).toNat)
      case atStart => exact ⟨0, by omega, rfl, Chg.refl _ _⟩
      case round =>
        obtain ⟨k, hk, rfl, hch⟩ := hrel
        by_cases hlt : k < 4
        · have hlt' : (k : Int) < 4 := by omega
          have hk0 : (0 : Int) ≤ (k : Int) := by omega
          have hok2 : wr.cell? ⟨w2.heap.size, k, none⟩ = some (strv (if k < m then b else [])) := (hch.cell (p := ⟨w2.heap.size, k, none⟩) hglt (fun h => h)).trans (hout.out k hlt)
          have kr := k3.trans hch (fun _ h _ => h)
          by_cases hkm : k < m
          · rw [if_pos hkm] at hok2
            have hkm' : (k : Int) < (m : Int) := by omega
            have hkm2 : ¬ (m : Int) ≤ (k : Int) := by omega
            have hkm3 : decide (m ≤ k) = false := decide_eq_false (by omega)
            have hkm4 : decide (k < m) = true := decide_eq_true hkm
            have hkm5 : decide ((m : Int) ≤ (k : Int)) = false := decide_eq_false hkm2
            have hkm6 : decide ((k : Int) < (m : Int)) = true := decide_eq_true hkm'
            have hcvn := fun n => hcv.out _ (kr.drewN n)
            have hh5 := Lib.hid hkm5
            have hh2 := Lib.hid hkm2
            have hh3 := Lib.hid hkm3
            clear hkm5 hkm2 hkm3
            go_wp2
            have hkm5 := hh5.out
            have hkm2 := hh2.out
            have hkm3 := hh3.out
            go_quiet (fail)
            go_wp2
            go_roundw
            case rel => exact ⟨k + 1, by omega, by go_num, hch.drewN _⟩
            case measure => simp [intOf]; omega
          · rw [if_neg hkm] at hok2
            have hkm' : ¬ (k : Int) < (m : Int) := by omega
            have hkm2 : (m : Int) ≤ (k : Int) := by omega
            have hkm3 : decide (m ≤ k) = true := decide_eq_true (by omega)
            have hkm4 : decide (k < m) = false := decide_eq_false hkm
            have hkm5 : decide ((m : Int) ≤ (k : Int)) = true := decide_eq_true hkm2
            have hkm6 : decide ((k : Int) < (m : Int)) = false := decide_eq_false hkm'
            go_wp2
            go_quiet (fail)
            go_wp2
            go_roundw
            case rel => exact ⟨k + 1, by omega, by go_num, hch.drewN _⟩
            case measure => simp [intOf]; omega
        · have hlt' : ¬ (k : Int) < 4 := by omega
          go_wp2_with (first
            | (go_at_call 33
               refine (haw.out _ (k3.trans hch (fun _ h _ => h))).mono ?_
               rintro e9 w9 ⟨rfl, hc9⟩))
          go_ret
          exact ⟨rfl, (k3.trans hch (fun _ h _ => h)).trans hc9 (fun _ h _ => h)⟩
    · clear hh hE hEE hins hcuts hok
      go_enter Try.func16, Try.ntmps16
      go_wp2_with (first
        | (go_at_call 32
           refine (hhv.out _ _ _ (row_new _ 1 rfl (by simp))).mono ?_
           rintro e1 w1 ⟨rfl, hc1⟩
           have k1 : Chg (fun _ => False) w w1 := (((Chg.refl _ _).alloc _).alloc _).trans hc1 (fun _ h _ => h))
        | (go_at_call 33
           refine (haw.out _ k1).mono ?_
           rintro e9 w9 ⟨rfl, hc9⟩))
      go_ret
      exact ⟨rfl, k1.trans hc9 (fun _ h _ => h)⟩
  · clear hh hE hEE hins hcuts
    rcases (by omega : ((2000 : Int) < (b.length : Int)) ∨ (¬ (2000 : Int) < (b.length : Int) ∧ n < 1) ∨ (¬ (2000 : Int) < (b.length : Int) ∧ ¬ n < 1 ∧ 4 < n)) with h1 | ⟨h1, h2⟩ | ⟨h1, h2, h3⟩
    all_goals
      clear hok
      cases hβ
      all_goals
        go_enter Try.func16, Try.ntmps16
        go_wp2_with (first
          | (go_at_call 32
             refine (hhv.out _ _ _ (row_new _ 1 rfl (by simp))).mono ?_
             rintro e1 w1 ⟨rfl, hc1⟩
             have k1 : Chg (fun _ => False) w w1 := (((Chg.refl _ _).alloc _).alloc _).trans hc1 (fun _ h _ => h))
          | (go_at_call 33
             refine (haw.out _ k1).mono ?_
             rintro e9 w9 ⟨rfl, hc9⟩))
        go_ret
        exact ⟨rfl, k1.trans hc9 (fun _ h _ => h)⟩
end Go.Proofs.Ytdhmlojodihjkaa.Tee
