/- NumberRises: the numbers rise. -/
import Derived.Test.YtdhmlojodihjkaaDoorNumberTold
import Derived.Test.YtdhmlojodihjkaaDoorNumberLns
import Derived.Test.YtdhmlojodihjkaaDoorDig
import Derived.Test.YtdhmlojodihjkaaDoorCat3
namespace Go.Proofs.YtdhmlojodihjkaaDoor.Number
open Go Go.RowKit

theorem fit_of (n : Int) (h1 : 0 ≤ n) (h4 : n ≤ 1000000000) : fitP ⟨10, n, [], []⟩ := by
  refine ⟨?_, rfl⟩
  have e : wi n 0 1000000000 = true := by simp [wi, h1, h4]
  unfold refCheck refRow refHolds
  simp [e, ze]

theorem ended_den (n : Int) (b : Bs) (h : (refLines ⟨b, true, 0, 0, 0⟩).all = true) : (den n [endS b]).need = -1 ∧ (den n [endS b]).err = 0 := by
  have hf := refLines_ended b h
  have hr := linesAll_ref numK n (endS b)
  have hf2 : (cutS [] (endS b).bs).2.2 = false := hf
  rw [hf2] at hr
  constructor
  · show (linesAll numK n (endS b)).2.1 = -1
    rw [hr]; simp [endS]
  · show (linesAll numK n (endS b)).2.2 = 0
    rw [hr]; simp

theorem byteArray_size (S : Bs) : (⟨S.toArray⟩ : ByteArray).size = S.length := by simp [ByteArray.size]
theorem byteArray_at (S : Bs) (j : Nat) (h : j < (⟨S.toArray⟩ : ByteArray).size) : (⟨S.toArray⟩ : ByteArray)[j]'h = S[j]'(by rw [byteArray_size] at h; exact h) := rfl
theorem str_at (S ds r : Bs) (e : ds ++ r = S) (j : Nat) (hj : j < ds.length) (h : j < (⟨S.toArray⟩ : ByteArray).size) (hd : 48 ≤ (ds[j]'hj).toNat ∧ (ds[j]'hj).toNat ≤ 57) :
    (48 : Int) ≤ (((⟨S.toArray⟩ : ByteArray)[j]'h).toNat : Nat) ∧ ¬ (57 : Int) < (((⟨S.toArray⟩ : ByteArray)[j]'h).toNat : Nat) ∧ (ds[j]'hj).toNat = ((⟨S.toArray⟩ : ByteArray)[j]'h).toNat := by
  subst e
  rw [byteArray_at, List.getElem_append_left hj]
  exact ⟨by omega, by omega, rfl⟩
theorem str_blank (S ds r : Bs) (e : ds ++ 32 :: r = S) (h : ds.length < (⟨S.toArray⟩ : ByteArray).size) : ¬ (48 : Int) ≤ (((⟨S.toArray⟩ : ByteArray)[ds.length]'h).toNat : Nat) := by
  subst e
  rw [byteArray_at, List.getElem_append_right (Nat.le_refl _)]
  simp
theorem str_first (S : Bs) (d : UInt8) (r r2 : Bs) (e : d :: r ++ r2 = S) (h : 0 < (⟨S.toArray⟩ : ByteArray).size) (hd : d ≠ 48) : ((((⟨S.toArray⟩ : ByteArray)[0]'h).toNat : Nat) : Int) ≠ 48 := by
  subst e
  rw [byteArray_at]
  intro h2
  apply hd
  have h3 : d.toNat = 48 := by
    have : (((d.toNat : Nat)) : Int) = 48 := h2
    omega
  exact UInt8.toNat_inj.1 h3
theorem str_mid (S a P c : Bs) (e : a ++ (P ++ c) = S) : (⟨S.toArray⟩ : ByteArray).extract a.length (a.length + P.length) = ⟨P.toArray⟩ := by
  subst e
  apply ByteArray.ext
  simp
theorem str_end (S a P c : Bs) (e : a ++ (P ++ c) = S) : (⟨S.toArray⟩ : ByteArray).extract (a.length + P.length) S.length = ⟨c.toArray⟩ := by
  subst e
  apply ByteArray.ext
  have : a.length + (P.length + c.length) - (a.length + P.length) = c.length := by omega
  simp [this]
theorem digV_pre (ds : Bs) (j : Nat) : digV (ds.take j) ≤ digV ds := by
  have := digV_le (ds.take j) (ds.drop j)
  rwa [List.take_append_drop] at this

theorem decDigits_len11 (u : Nat) (h : u ≤ 3000000000) : (Lib.decDigits u).length ≤ 11 := by
  have step : ∀ n v : Nat, v < 10 ^ n → 1 ≤ n → (Lib.decDigits v).length ≤ n := by
    intro n
    induction n with
    | zero => intro v _ h; omega
    | succ n ih =>
      intro v hv _
      by_cases h10 : v < 10
      · rw [Lib.decDigits_one h10]; simp
      · rw [Lib.decDigits, dif_neg h10, List.length_append]
        have h2 : v / 10 < 10 ^ n := by rw [Nat.pow_succ] at hv; omega
        have h3 : 1 ≤ n := by
          rcases Nat.eq_zero_or_pos n with rfl | h
          · simp at hv; omega
          · exact h
        have := ih (v / 10) h2 h3
        simp; omega
  exact step 11 u (by omega) (by omega)

/-- What stands ahead at line i: its number's digits, and the line. -/
theorem num_dec (m : Nat) (lines : List Bs) (i : Nat) (hm : m ≤ 1000000000) (hl : lines.length ≤ 1000000000) (h : i < lines.length) :
    ∃ (ds tl : Bs), numText ((m : Int) + (i : Int)) (lines.drop i) = ds ++ (([32] ++ lines[i] ++ [10]) ++ tl) ∧ tl = numText ((m : Int) + ((i + 1 : Nat) : Int)) (lines.drop (i + 1)) ∧ 1 ≤ ds.length ∧ ds.length ≤ 11 ∧
      digV ds = m + i ∧ (∀ j, (hj : j < ds.length) → 48 ≤ ds[j].toNat ∧ ds[j].toNat ≤ 57) ∧ (∀ j, (hj : j < ds.length) → digV (ds.take (j + 1)) = digV (ds.take j) * 10 + (ds[j].toNat - 48)) ∧ (1 < ds.length → ∃ d r, ds = d :: r ∧ d ≠ 48) ∧ m + i ≤ 3000000000 := by
  refine ⟨Lib.decDigits (m + i), _, ?_, rfl, ?_, ?_, (decDigits_all _).1, fun j hj => (decDigits_all _).2 _ (List.getElem_mem hj), fun j hj => ?_, fun h1 => ?_, by omega⟩
  · rw [List.drop_eq_getElem_cons h]
    show nPiece _ _ ++ numText _ _ = _
    unfold nPiece
    rw [show ((m : Int) + (i : Int)) = ((m + i : Nat) : Int) by omega, Lib.itoa_nonneg, show (((m + i : Nat) : Int) + 1) = ((m : Int) + ((i + 1 : Nat) : Int)) by omega]
    simp
  · have := decDigits_ne (m + i)
    exact List.length_pos_iff.2 this
  · exact decDigits_len11 _ (by omega)
  · rw [← digV_snoc, List.take_succ_eq_append_getElem hj]
  · rcases decDigits_head (m + i) with h2 | h2
    · omega
    · exact h2

set_option maxHeartbeats 4000000 in
set_option maxRecDepth 100000 in
theorem rises_law (n : Int) (b : Bs) (cuts : List Int) (A C : Option Addr) (ci cc : Nat) (w : World)
    (hn : -9223372036854775808 ≤ n ∧ n ≤ 9223372036854775807) (hcb : b.length ≤ ci) (_ : ci ≤ maxLen) (hins : Rd w (fun _ => True) 1 A b.length (u8s b)) (hcl : cuts.length ≤ maxLen) (hcuts : Rd w (fun _ => True) 1 C cuts.length (i64s cuts)) (hE : E w.heap.size w) :
    Calls Tryd.prog 16 #[.int .i64 n, .slice A b.length ci, .slice C cuts.length cc] w (TruePost w) := by
  have hEE : ∀ W, Chg (fun _ => False) w W → E w.heap.size W := fun W hW => E_on (hW.below (Nat.le_refl _) (fun _ h => h.elim)) hE
  have haw := fun (W : World) (hW : Chg (fun _ => False) w W) => awake_any w.heap.size W hW.size (hEE W hW)
  have hhv := fun (W : World) (C2 : Option Addr) (c2 : Nat) (hr : Rd W (fun _ => True) 1 C2 1 [.slice C cuts.length cc]) =>
    heavy_any (fun _ => True) 10 n none none 0 0 0 0 none C2 0 c2 [] [(C, cuts.length, cc)] W (by simp [maxLen]) (by simp [maxLen]) (by simp [maxLen]) ⟨none, 0, [], rfl, rfl, Rd.nil _ _ _ _, fun _ h => by cases h⟩ (fun _ h => by cases h) hr (by simp) (by
      intro c hc
      simp at hc
      subst hc
      exact hcl)
  have hst : Blk (w.alloc (.cells #[.int .i64 10, .int .i64 n, .slice none 0 0, .slice none 0 0] 24)) w.heap.size 24 #[.int .i64 10, .int .i64 n, .slice none 0 0, .slice none 0 0] := Blk.new _ _ _
  generalize hh : heavyB 0 0 [] [(C, cuts.length, cc)] = hβ at *
  replace haw := Lib.hid haw
  replace hhv := Lib.hid hhv
  by_cases hok : b.length ≤ 2000 ∧ 0 ≤ n ∧ n ≤ 1000000000
  · cases hβ
    · have hsz := heavyB_false hh
      obtain ⟨m, rfl⟩ : ∃ m : Nat, n = m := ⟨n.toNat, by omega⟩
      have hl1 : ¬ (m : Int) < 0 := by omega
      have hl4 : ¬ (1000000000 : Int) < (m : Int) := by omega
      have hl2 : ¬ (2000 : Int) < (b.length : Int) := by omega
      have hm4 : m ≤ 1000000000 := by omega
      have hf := fit_of m (by omega) (by omega)
      have hln := fun (W : World) (hW : Chg (fun _ => False) w W) => lns_any b A ci W (hins.chg hW (fun _ _ _ h => h)) hcb (by omega)
      have hal := ended_den m b
      have hnl := (refLines_sum ⟨b, true, 0, 0, 0⟩).2
      have hl64 := refLines_len ⟨b, true, 0, 0, 0⟩
      have ho := fun j => num_outs m (by omega) (by omega) (endS b) (by show b.length ≤ _; omega) j
      have htl := fun (hd0 : (den m [endS b]).need = -1 ∧ (den m [endS b]).err = 0) (W : World) (hW : Chg (fun _ => False) w W) (A2 : Option Addr) (c2 : Nat) (hi2 : BssAt W (fun _ => True) (.slice A2 [b].length c2) [b]) =>
        told_any (fun _ => True) ⟨10, m, [], []⟩ ⟨by dsimp only; omega, by dsimp only; omega, by simp, by simp⟩ [b] ⟨hf, by rw [(fit_n hf).2.2.1]; rfl⟩ (fun x hx => by simp at hx; subst hx; omega) hd0 cuts (by have := hsz.2.2.2.2 (C, cuts.length, cc) (by simp); dsimp only at this; omega) _ A2 C c2 cc W (prm_lit W 10 m) (by simp) hi2 (hcuts.chg hW (fun _ _ _ h => h)) w.heap.size hW.size (hEE W hW)
      unfold ToldPost at htl
      unfold LnsPost at hln
      have hbs := fun (W : World) (hW : Chg (fun _ => False) w W) (g : Nat) (hg : W.heap.size = g) (T : TypeId) => (show BssAt (W.alloc (.cells #[.slice A b.length ci] T)) (fun _ => True) (.slice (some ⟨g, 0, none⟩) 1 1) [b] from
        ⟨some ⟨g, 0, none⟩, 1, [(b, .slice A b.length ci)], rfl, rfl, row_new _ 1 rfl hg, fun t ht => by
          simp at ht
          subst ht
          exact ⟨⟨A, ci, rfl, (hins.chg hW (fun _ _ _ h => h)).chg ((Chg.refl (fun _ => False) W).alloc _) (fun _ _ _ h => h)⟩, capOk_slice hcb⟩⟩)
      replace htl := Lib.hid htl
      replace hbs := Lib.hid hbs
      change b.length ≤ 2000 ∧ _ at hok
      have ho0 : (den m [endS b]).outs 0 = numText m (refLines ⟨b, true, 0, 0, 0⟩).lines := ho 0
      clear ho
      generalize refLines ⟨b, true, 0, 0, 0⟩ = r at *
      replace hln := Lib.hid hln
      replace ho0 := Lib.hid ho0
      replace hl64 := Lib.hid hl64
      clear hsz hf hEE hE hins hcuts
      replace hh := Lib.hid hh
      obtain ⟨lines, all, r1, r2, r3⟩ := r
      cases all
      · clear hal htl hbs hst
        go_enter Tryd.func16, Tryd.ntmps16
        go_wp2_with (first
          | (go_at_call 33
             refine (hhv.out _ _ _ (row_new _ 1 rfl (by simp))).mono ?_
             rintro e1 w1 ⟨rfl, hc1⟩
             have k1 : Chg (fun _ => False) w w1 := (((Chg.refl _ _).alloc _).alloc _).trans hc1 (fun _ h _ => h))
          | (go_at_call 39
             refine (hln.out _ k1).mono ?_
             rintro e2 w2 ⟨A2, c2, rfl, hr2, hc2⟩
             have k2 : Chg (fun _ => False) w w2 := k1.trans hc2 (fun _ h _ => h))
          | (go_at_call 34
             refine (haw.out _ k2).mono ?_
             rintro e9 w9 ⟨rfl, hc9⟩))
        go_ret
        exact ⟨rfl, k2.trans hc9 (fun _ h _ => h)⟩
      · replace hal := Lib.hid (hal rfl)
        dsimp only at hnl
        go_enter Tryd.func16, Tryd.ntmps16
        go_wp2_with (first
          | (go_at_call 33
             refine (hhv.out _ _ _ (row_new _ 1 rfl (by simp))).mono ?_
             rintro e1 w1 ⟨rfl, hc1⟩
             have k1 : Chg (fun _ => False) w w1 := (((Chg.refl _ _).alloc _).alloc _).trans hc1 (fun _ h _ => h)
             have hb1 := (hst.alloc _).chg hc1 (fun h => h))
          | (go_at_call 39
             refine (hln.out _ k1).mono ?_
             rintro e2 w2 ⟨A2, c2, rfl, hr2, hc2⟩
             have k2 : Chg (fun _ => False) w w2 := k1.trans hc2 (fun _ h _ => h)
             have hb2 := hb1.chg hc2 (fun h => h)
             have q0 : w2.cell? ⟨w.heap.size, 0, none⟩ = some (.int .i64 10) := (hb2.cell 0).trans rfl
             have q1 : w2.cell? ⟨w.heap.size, 1, none⟩ = some (.int .i64 m) := (hb2.cell 1).trans rfl
             have q2 : w2.cell? ⟨w.heap.size, 2, none⟩ = some (.slice none 0 0) := (hb2.cell 2).trans rfl
             have q3 : w2.cell? ⟨w.heap.size, 3, none⟩ = some (.slice none 0 0) := (hb2.cell 3).trans rfl)
          | (go_at_call 40
             refine (htl.out hal.out _ (k2.alloc _) _ _ (hbs.out w2 k2 _ rfl _)).mono ?_
             rintro e3 w3 ⟨hd, tk, rfl, hc3⟩
             have k3 : Chg (fun _ => False) w w3 := (k2.alloc _).trans hc3 (fun _ h _ => h)
             have hr3 := (hr2.chg ((Chg.refl (fun _ => False) w2).alloc _) (fun _ _ _ h => h)).chg hc3 (fun _ _ _ h => h))
          | (refine wpList_store_got rfl (.tmp 10) (.tmp 51) rfl w3.heap.size _ _ _ _ _ _ rfl rfl _ (Blk.new w3 _ _) rfl ?_
             intro w4 hG4 hc4
             have k34 : Chg (fun _ => False) w3 w4 := ((Chg.refl _ _).alloc _).trans hc4 (fun k hk hlt => by omega)
             have k4 : Chg (fun _ => False) w w4 := k3.trans k34 (fun _ h _ => h)
             have hr4 := hr3.chg k34 (fun _ _ _ h => h)
             have g0 : w4.cell? ⟨w3.heap.size, 0, none⟩ = some (strv (numText m lines)) := (hG4.cell 0).trans (by rw [← ho0.out]; rfl)))
        clear q0 q1 q2 q3 hr2 hr3
        have h10 := Lib.hid (fun i h => num_dec m lines i hm4 (by omega) h)
        go_loopw [13, 12] (fun i rest wr => ∃ k : Nat, k ≤ lines.length ∧ i = .int .i64 k ∧ rest = strv (numText ((m : Int) + (k : Int)) (lines.drop k)) ∧ Chg (fun _ => False) w4 wr) (fun i _ _ => lines.length - (intOf i).toNat)
        case atStart => exact ⟨0, by omega, rfl, by simp, Chg.refl _ _⟩
        case round =>
          obtain ⟨k, hk, rfl, rfl, hch⟩ := hrel
          have kr := k4.trans hch (fun _ h _ => h)
          by_cases hlt : k < lines.length
          · have hlt' : (k : Int) < (lines.length : Int) := by omega
            have hk0 : (0 : Int) ≤ (k : Int) := by omega
            obtain ⟨g3, o3, u, rfl, hg3, _, hu, hcell⟩ := (hr4.chg hch (fun _ _ _ h => h)).at_ hlt
            rw [List.getElem?_map, List.getElem?_eq_getElem hlt] at hu
            simp only [Option.map_some, Option.some.injEq] at hu
            subst hu
            obtain ⟨ds, tl, hS, htl2, hdl, hdl2, hdv, hdd, hd1, hdh, hsum⟩ := h10.out k hlt
            have hSlen := numText_len (lines.drop k) (fun y hy => hl64.out y (List.mem_of_mem_drop hy)) ((m : Int) + (k : Int)) (by omega) (by simp; omega)
            rw [hS] at hSlen
            rw [List.length_drop] at hSlen
            rw [hS]
            have hx64 := hl64.out _ (List.getElem_mem hlt)
            generalize lines[k] = x at *
            generalize hSS : ds ++ (([32] ++ x ++ [10]) ++ tl) = S at *
            have hSl : S.length = ds.length + (x.length + 2 + tl.length) := by rw [← hSS]; simp; omega
            obtain ⟨wo, rfl⟩ : ∃ wo, wo = wr := ⟨wr, rfl⟩
            go_wp2
            go_loopw [15, 14] (fun d v wq => ∃ j : Nat, j ≤ ds.length ∧ d = .int .i64 j ∧ v = .int .i64 (digV (ds.take j) : Nat) ∧ Chg (fun _ => False) wo wq) (fun d _ _ => ds.length - (intOf d).toNat)
            case atStart => exact ⟨0, by omega, rfl, rfl, Chg.refl _ _⟩
            case round =>
              obtain ⟨j, hj, rfl, rfl, hch2⟩ := hrel
              by_cases hjl : j < ds.length
              · have hjl' : (j : Int) < (S.length : Int) := by omega
                have hj12 : (j : Int) < 12 := by omega
                have hj0 : (0 : Int) ≤ (j : Int) := by omega
                obtain ⟨hx1, hx2, hx3⟩ := str_at S ds (([32] ++ x ++ [10]) ++ tl) hSS j hjl (by rw [byteArray_size]; omega) (hdd j hjl)
                have hpp := digV_pre ds (j + 1)
                have hst1 := hd1 j hjl
                rw [hx3] at hst1
                clear hd1 hdd
                go_wp2
                go_roundw
                case rel => exact ⟨j + 1, by omega, by go_num, by rw [hst1]; congr 1; first | omega | (unfold wrap64; omega), hch2⟩
                case measure => simp [intOf]; omega
              · obtain rfl : j = ds.length := by omega
                have hjl' : ((ds.length : Nat) : Int) < (S.length : Int) := by omega
                have hj12 : ((ds.length : Nat) : Int) < 12 := by omega
                have hj0 : (0 : Int) ≤ ((ds.length : Nat) : Int) := by omega
                have hSz : (⟨S.toArray⟩ : ByteArray).size = S.length := byteArray_size S
                have hjz : ds.length < (⟨S.toArray⟩ : ByteArray).size := by rw [byteArray_size]; omega
                have h0z : 0 < (⟨S.toArray⟩ : ByteArray).size := by rw [byteArray_size]; omega
                have hx1 := str_blank S ds (x ++ [10] ++ tl) (by rw [← hSS]; simp) hjz
                have hcx := (hch2.cell (p := ⟨g3, o3 + k, none⟩) hg3 (fun h => h)).trans hcell
                have c1 := fun W => run_cat3 [32] x (by simp) (by omega) W
                have c2 := fun W => run_cat3 ([32] ++ x) [10] (by simp; omega) (by simp) W
                have hPl : ([32] ++ x ++ [10]).length = x.length + 2 := by simp
                have hex := str_mid S ds ([32] ++ x ++ [10]) tl hSS
                have hex2 := str_end S ds ([32] ++ x ++ [10]) tl hSS
                have hdl' : ¬ ((ds.length : Nat) : Int) = 0 := by omega
                rw [List.take_length, hdv]
                generalize hPP : [32] ++ x ++ [10] = P at *
                generalize hyy : [32] ++ x = y at *
                replace hPP := Lib.hid hPP
                replace hyy := Lib.hid hyy
                replace htl2 := Lib.hid htl2
                replace hSS := Lib.hid hSS
                have hPl2 : P.length = x.length + 2 := hPl
                have ha1 : ¬ ((S.length : Nat) : Int) < ((ds.length : Nat) : Int) + ((P.length : Nat) : Int) := by omega
                have ha2 : ((ds.length : Nat) : Int) + ((P.length : Nat) : Int) ≤ ((S.length : Nat) : Int) := by omega
                have ha3 : ds.length + P.length ≤ S.length := by omega
                have hdsn : ¬ ds = [] := fun e => by rw [e] at hdl; simp at hdl
                have hS0 : 0 < S.length := by omega
                have hb0 : (((ds.length : Nat) : Int) == 0) = false := by rw [beq_eq_false_iff_ne]; omega
                have hPb : P.length ≤ 66 := by omega
                have hSb : S.length ≤ 1000000000 := by omega
                clear hd1 hdd hcell hSl hPl hPl2
                by_cases hone : 1 < ds.length
                · obtain ⟨d0, r0, hd0, hd48⟩ := hdh hone
                  have hone' : (1 : Int) < ((ds.length : Nat) : Int) := by omega
                  have hx2 := str_first S d0 r0 (P ++ tl) (by rw [← hd0]; exact hSS.out) h0z hd48
                  have hx3 : (((((⟨S.toArray⟩ : ByteArray)[0]'h0z).toNat : Nat) : Int) == 48) = false := by rw [beq_eq_false_iff_ne]; exact hx2
                  clear hd0 hdh
                  go_wp2
                  go_roundw
                  case rel => exact ⟨k + 1, by omega, by go_num, by rw [← htl2.out, hex2], hch.trans hch2 (fun _ h _ => h)⟩
                  case measure => simp [intOf]; omega
                · have hone' : ¬ (1 : Int) < ((ds.length : Nat) : Int) := by omega
                  clear hdh
                  go_wp2
                  go_roundw
                  case rel => exact ⟨k + 1, by omega, by go_num, by rw [← htl2.out, hex2], hch.trans hch2 (fun _ h _ => h)⟩
                  case measure => simp [intOf]; omega
          · have hlt' : ¬ (k : Int) < (lines.length : Int) := by omega
            obtain rfl : k = lines.length := by omega
            rw [List.drop_length]
            clear h10
            go_wp2_with (first
              | (go_at_call 34
                 refine (haw.out _ kr).mono ?_
                 rintro e9 w9 ⟨rfl, hc9⟩))
            go_ret
            exact ⟨rfl, kr.trans hc9 (fun _ h _ => h)⟩
    · clear hh hE hEE hins hcuts hok
      go_enter Tryd.func16, Tryd.ntmps16
      go_wp2_with (first
        | (go_at_call 33
           refine (hhv.out _ _ _ (row_new _ 1 rfl (by simp))).mono ?_
           rintro e1 w1 ⟨rfl, hc1⟩
           have k1 : Chg (fun _ => False) w w1 := (((Chg.refl _ _).alloc _).alloc _).trans hc1 (fun _ h _ => h))
        | (go_at_call 34
           refine (haw.out _ k1).mono ?_
           rintro e9 w9 ⟨rfl, hc9⟩))
      go_ret
      exact ⟨rfl, k1.trans hc9 (fun _ h _ => h)⟩
  · clear hh hE hEE hins hcuts
    rcases (by omega : ((2000 : Int) < (b.length : Int)) ∨ (¬ (2000 : Int) < (b.length : Int) ∧ n < 0) ∨ (¬ (2000 : Int) < (b.length : Int) ∧ ¬ n < 0 ∧ 1000000000 < n)) with h1 | ⟨h1, h2⟩ | ⟨h1, h2, h3⟩
    all_goals
      clear hok
      cases hβ
      all_goals
        go_enter Tryd.func16, Tryd.ntmps16
        go_wp2_with (first
          | (go_at_call 33
             refine (hhv.out _ _ _ (row_new _ 1 rfl (by simp))).mono ?_
             rintro e1 w1 ⟨rfl, hc1⟩
             have k1 : Chg (fun _ => False) w w1 := (((Chg.refl _ _).alloc _).alloc _).trans hc1 (fun _ h _ => h))
          | (go_at_call 34
             refine (haw.out _ k1).mono ?_
             rintro e9 w9 ⟨rfl, hc9⟩))
        go_ret
        exact ⟨rfl, k1.trans hc9 (fun _ h _ => h)⟩
end Go.Proofs.YtdhmlojodihjkaaDoor.Number
