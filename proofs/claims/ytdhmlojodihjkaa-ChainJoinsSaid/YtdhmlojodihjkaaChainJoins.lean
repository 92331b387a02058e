/- ChainJoins: all bytes, one input behind the other. -/
import Derived.Test.YtdhmlojodihjkaaChainTold
import Derived.Test.YtdhmlojodihjkaaCat
namespace Go.Proofs.Ytdhmlojodihjkaa.Chain
open Go Go.RowKit

theorem go_end (l : List Bs) : ∀ i, chainGo (l.map endS) i = (l.flatten, -1) := by
  induction l with
  | nil => intro i; rfl
  | cons b r ih =>
    intro i
    show chainGo (endS b :: r.map endS) i = _
    rw [chainGo, if_pos (show (endS b).ended = true from rfl), ih]
    rfl
theorem flat_le {m : List Bs} {n : Nat} (h : ∀ b ∈ m, b.length ≤ 1000) (hn : m.length ≤ n) : m.flatten.length ≤ n * 1000 := by
  have key : m.flatten.length ≤ m.length * 1000 := by
    clear hn
    induction m with
    | nil => simp
    | cons b r ih =>
      have h1 := h b (by simp)
      have h2 := ih (fun x hx => h x (by simp [hx]))
      simp only [List.flatten_cons, List.length_append, List.length_cons, Nat.succ_mul]
      omega
  exact Nat.le_trans key (Nat.mul_le_mul_right _ hn)
theorem fit_of (n : Nat) (h1 : 1 ≤ n) (h4 : n ≤ 4) : fitP ⟨12, n, [], []⟩ := by
  obtain rfl | rfl | rfl | rfl : n = 1 ∨ n = 2 ∨ n = 3 ∨ n = 4 := by omega
  all_goals exact ⟨by decide, rfl⟩

set_option maxHeartbeats 4000000 in
set_option maxRecDepth 100000 in
theorem joins_law (l : List Bs) (cuts : List Int) (A C : Option Addr) (ci cc : Nat) (w : World)
    (_ : l.length ≤ maxLen) (hins : BssAt w (fun _ => True) (.slice A l.length ci) l) (_ : ∀ b ∈ l, b.length ≤ maxLen) (hcl : cuts.length ≤ maxLen) (hcuts : Rd w (fun _ => True) 1 C cuts.length (i64s cuts)) (hE : E w.heap.size w) :
    Calls Try.prog 9 #[.slice A l.length ci, .slice C cuts.length cc] w (TruePost w) := by
  have hEE : ∀ W, Chg (fun _ => False) w W → E w.heap.size W := fun W hW => E_on (hW.below (Nat.le_refl _) (fun _ h => h.elim)) hE
  have haw := fun (W : World) (hW : Chg (fun _ => False) w W) => awake_any w.heap.size W hW.size (hEE W hW)
  have hhv := fun (W : World) (C2 : Option Addr) (c2 : Nat) (hr : Rd W (fun _ => True) 1 C2 1 [.slice C cuts.length cc]) =>
    heavy_any (fun _ => True) 12 l.length none none 0 0 0 0 none C2 0 c2 [] [(C, cuts.length, cc)] W (by simp [maxLen]) (by simp [maxLen]) (by simp [maxLen]) ⟨none, 0, [], rfl, rfl, Rd.nil _ _ _ _, fun _ h => by cases h⟩ (fun _ h => by cases h) hr (by simp) (by
      intro c hc
      simp at hc
      subst hc
      exact hcl)
  have hst : Blk (w.alloc (.cells #[.int .i64 12, .int .i64 l.length, .slice none 0 0, .slice none 0 0] 24)) w.heap.size 24 #[.int .i64 12, .int .i64 l.length, .slice none 0 0, .slice none 0 0] := Blk.new _ _ _
  generalize hh : heavyB 0 0 [] [(C, cuts.length, cc)] = hβ at *
  replace haw := Lib.hid haw
  replace hhv := Lib.hid hhv
  by_cases hlen : 1 ≤ l.length ∧ l.length ≤ 4
  · cases hβ
    · have hsz := heavyB_false hh
      have hl1 : ¬ (l.length : Int) < 1 := by omega
      have hl4 : ¬ (4 : Int) < (l.length : Int) := by omega
      have hf := fit_of l.length hlen.1 hlen.2
      have hgo := go_end l 0
      have hd0 : (den l.length (l.map endS)).need = -1 ∧ (den l.length (l.map endS)).err = 0 := ⟨by show (chainGo (l.map endS) 0).2 = -1; rw [hgo], rfl⟩
      have ho0 : (den l.length (l.map endS)).outs 0 = l.flatten := by show outs0 (chainGo (l.map endS) 0).1 0 = _; rw [hgo]; rfl
      have htl := fun (hb : ∀ b ∈ l, b.length ≤ 10000) (W : World) (hW : Chg (fun _ => False) w W) =>
        told_any (fun _ => True) ⟨12, l.length, [], []⟩ ⟨by dsimp only; omega, by dsimp only; omega, by simp, by simp⟩ l ⟨hf, by rw [(fit_n hf).2.2.1]; simp⟩ hb hd0 cuts (by have := hsz.2.2.2.2 (C, cuts.length, cc) (by simp); dsimp only at this; omega) _ A C ci cc W (prm_lit W 12 l.length) (by omega) (hins.chg hW (fun _ _ _ h => h)) (hcuts.chg hW (fun _ _ _ h => h)) w.heap.size hW.size (hEE W hW)
      unfold ToldPost at htl
      obtain ⟨A', ci', its, hvs, hli, hri, hbi⟩ := hins
      cases hvs
      have hil : its.length = l.length := by rw [hli]; simp
      replace htl := Lib.hid htl
      replace hd0 := Lib.hid hd0
      replace ho0 := Lib.hid ho0
      replace hli := Lib.hid hli
      replace hil := Lib.hid hil
      replace hgo := Lib.hid hgo
      clear hsz hf hEE hE
      replace hh := Lib.hid hh
      go_enter Try.func9, Try.ntmps9
      go_wp2_with (first
        | (go_at_call 17
           refine (hhv.out _ _ _ (row_new _ 1 rfl (by simp))).mono ?_
           rintro e1 w1 ⟨rfl, hc1⟩
           have k1 : Chg (fun _ => False) w w1 := (((Chg.refl _ _).alloc _).alloc _).trans hc1 (fun _ h _ => h)
           have hb1 := (hst.alloc _).chg hc1 (fun h => h)))
      have q0 : w1.cell? ⟨w.heap.size, 0, none⟩ = some (.int .i64 12) := (hb1.cell 0).trans rfl
      have q1 : w1.cell? ⟨w.heap.size, 1, none⟩ = some (.int .i64 l.length) := (hb1.cell 1).trans rfl
      have q2 : w1.cell? ⟨w.heap.size, 2, none⟩ = some (.slice none 0 0) := (hb1.cell 2).trans rfl
      have q3 : w1.cell? ⟨w.heap.size, 3, none⟩ = some (.slice none 0 0) := (hb1.cell 3).trans rfl
      clear hb1 hst
      go_loop [7, 6] (fun i v => ∃ k : Nat, k ≤ l.length ∧ i = .int .i64 k ∧ v = strv (l.take k).flatten ∧ ∀ b ∈ l.take k, b.length ≤ 1000) (fun i _ => l.length - (intOf i).toNat)
      case atStart => exact ⟨0, by omega, rfl, by simp, fun _ h => by simp at h⟩
      case round =>
        obtain ⟨k, hk, rfl, rfl, hsm⟩ := hrel
        by_cases hlt : k < l.length
        · have hlt' : (k : Int) < (l.length : Int) := by omega
          have hk0 : (0 : Int) ≤ (k : Int) := by omega
          obtain ⟨g2, o2, u, rfl, hg2, hD2, hu, hcell⟩ := hri.at_ hlt
          have hki : k < its.length := by have := hil.out; omega
          rw [List.getElem?_map, List.getElem?_eq_getElem hki] at hu
          simp only [Option.map_some, Option.some.injEq] at hu
          obtain ⟨⟨A2, c2, hv2, hr2⟩, hcap⟩ := hbi _ (List.getElem_mem hki)
          have hlk : l[k] = its[k].1 := by simp only [hli.out, List.getElem_map]
          have htk : (l.take (k + 1)).flatten = (l.take k).flatten ++ its[k].1 := by rw [List.take_succ_eq_append_getElem hlt, List.flatten_append, hlk]; simp
          have htm : ∀ b ∈ l.take (k + 1), b ∈ l.take k ∨ b = its[k].1 := fun b hb => by
            rw [List.take_succ_eq_append_getElem hlt, hlk] at hb
            simpa using hb
          rw [← hu, hv2] at hcell
          generalize its[k] = t at *
          have hcell' : w1.cell? ⟨g2, o2 + k, none⟩ = some (.slice A2 t.1.length c2) := (k1.cell (p := ⟨g2, o2 + k, none⟩) hg2 (fun h => h)).trans hcell
          have hcv := conv_rd w1 _ A2 t.1 c2 (hr2.chg k1 (fun _ _ _ h => h))
          have hfl : (l.take k).flatten.length ≤ k * 1000 := flat_le hsm (by simp; omega)
          have hk4 : k ≤ 4 := by omega
          replace htk := Lib.hid htk
          replace htm := Lib.hid htm
          replace hsm := Lib.hid hsm
          replace hfl := Lib.hid hfl
          clear hcell hu hbi hr2 hv2 hlk
          by_cases hbig : (1000 : Int) < (t.1.length : Int)
          · go_wp2_with (first
              | (go_at_call 18
                 refine (haw.out _ k1).mono ?_
                 rintro e9 w9 ⟨rfl, hc9⟩))
            go_ret
            exact ⟨rfl, k1.trans hc9 (fun _ h _ => h)⟩
          · have hcat := fun W => run_cat2 (l.take k).flatten t.1 (by have := hfl.out; omega) (by omega) W
            go_wp2
            go_round
            case rel =>
              refine ⟨k + 1, by omega, by go_num, by rw [htk.out], fun b hb => ?_⟩
              rcases htm.out b hb with h | h
              · exact hsm.out b h
              · subst h; omega
            case measure => simp [intOf]; omega
        · have hlt' : ¬ (k : Int) < (l.length : Int) := by omega
          have hkn : k = l.length := by omega
          subst hkn
          rw [List.take_of_length_le (Nat.le_refl _)] at hsm ⊢
          replace hsm := Lib.hid hsm
          go_wp2_with (first
            | (go_at_call 31
               refine (htl.out (fun b hb => by have := hsm.out b hb; omega) w1 k1).mono ?_
               rintro e2 w2 ⟨hd, tk, rfl, hc2⟩
               have k2 : Chg (fun _ => False) w w2 := k1.trans hc2 (fun _ h _ => h))
            | (refine wpList_store_got rfl (.tmp 8) (.tmp 53) rfl w2.heap.size _ _ _ _ _ _ rfl rfl _ (Blk.new w2 _ _) rfl ?_
               intro w3 hG3 hc3
               have k3 : Chg (fun _ => False) w w3 := (k2.alloc _).trans hc3 (fun k hk hlt => by have := k2.size; omega)
               have g0 : w3.cell? ⟨w2.heap.size, 0, none⟩ = some (strv l.flatten) := (hG3.cell 0).trans (by rw [← ho0.out]; rfl))
            | (go_at_call 18
               refine (haw.out _ k3).mono ?_
               rintro e9 w9 ⟨rfl, hc9⟩))
          go_ret
          exact ⟨rfl, k3.trans hc9 (fun _ h _ => h)⟩
    · clear hh hE hEE hins hcuts
      go_enter Try.func9, Try.ntmps9
      go_wp2_with (first
        | (go_at_call 17
           refine (hhv.out _ _ _ (row_new _ 1 rfl (by simp))).mono ?_
           rintro e1 w1 ⟨rfl, hc1⟩
           have k1 : Chg (fun _ => False) w w1 := (((Chg.refl _ _).alloc _).alloc _).trans hc1 (fun _ h _ => h))
        | (go_at_call 18
           refine (haw.out _ k1).mono ?_
           rintro e9 w9 ⟨rfl, hc9⟩))
      go_ret
      exact ⟨rfl, k1.trans hc9 (fun _ h _ => h)⟩
  · clear hh hE hEE hins hcuts
    rcases (by omega : (l.length : Int) < 1 ∨ (¬ (l.length : Int) < 1 ∧ (4 : Int) < (l.length : Int))) with h1 | ⟨h1, h4⟩
    all_goals
      cases hβ
      all_goals
        go_enter Try.func9, Try.ntmps9
        go_wp2_with (first
          | (go_at_call 17
             refine (hhv.out _ _ _ (row_new _ 1 rfl (by simp))).mono ?_
             rintro e1 w1 ⟨rfl, hc1⟩
             have k1 : Chg (fun _ => False) w w1 := (((Chg.refl _ _).alloc _).alloc _).trans hc1 (fun _ h _ => h))
          | (go_at_call 18
             refine (haw.out _ k1).mono ?_
             rintro e9 w9 ⟨rfl, hc9⟩))
        go_ret
        exact ⟨rfl, k1.trans hc9 (fun _ h _ => h)⟩
end Go.Proofs.Ytdhmlojodihjkaa.Chain
