/- PasteColumns: the k-th fields of the rows are the k-th input's lines. -/
import Derived.Test.YtamhebjejgcbjaaPasteColA
namespace Go.Proofs.Ytamhebjejgcbjaa.Paste
open Go Go.RowKit

theorem prm_one {w : World} (c : UInt8) (k n : Int) (g : Nat) (T : TypeId) (h : Blk w g T #[.int .u8 c.toNat]) : PAt w (fun _ => True) (.agg #[.int .i64 k, .int .i64 n, .slice (some ⟨g, 0, none⟩) 1 1, .slice none 0 0]) ⟨k, n, [c], []⟩ :=
  ⟨some ⟨g, 0, none⟩, 1, none, 0, rfl, ⟨rfl, fun _ => ⟨g, 0, rfl, h.lt, trivial, fun j u hu => by
    obtain rfl : j = 0 := by
      have h1 : j < 1 := (List.getElem?_eq_some_iff.1 hu).1
      omega
    simp [u8s] at hu
    subst hu
    exact (h.cell 0).trans rfl⟩⟩, Rd.nil _ _ _ _⟩
theorem fit_of (n : Nat) (c : UInt8) (hc : c ≠ 10) (h1 : 1 ≤ n) (h4 : n ≤ 4) : fitP ⟨13, n, [c], []⟩ := by
  have ho : oneB [c] = true := by unfold oneB; simp [hc]
  refine ⟨?_, rfl⟩
  obtain rfl | rfl | rfl | rfl : n = 1 ∨ n = 2 ∨ n = 3 ∨ n = 4 := by omega
  all_goals simp [refCheck, refRow, refHolds, ho, wi, ze]
theorem insT_end (l : List Bs) {k : Nat} (hk : k < l.length) : insT (l.map endS) k = (refLines (endS l[k])).lines := by
  unfold insT rdT
  rw [sAt_get (by simpa using hk)]; simp
theorem insE_end (l : List Bs) {k : Nat} (hk : k < l.length) : insE (l.map endS) k = (refLines (endS l[k])).all := by
  unfold insE rdE
  rw [sAt_get (by simpa using hk)]; simp

set_option maxHeartbeats 8000000 in
set_option maxRecDepth 100000 in
theorem columns_law (c : UInt8) (l : List Bs) (cuts : List Int) (A C : Option Addr) (ci cc : Nat) (w : World)
    (_ : l.length ≤ maxLen) (hins : BssAt w (fun _ => True) (.slice A l.length ci) l) (_ : ∀ b ∈ l, b.length ≤ maxLen) (hcl : cuts.length ≤ maxLen) (hcuts : Rd w (fun _ => True) 1 C cuts.length (i64s cuts)) (hE : E w.heap.size w) :
    Calls Try.prog 5 #[.int .u8 c.toNat, .slice A l.length ci, .slice C cuts.length cc] w (TruePost w) := by
  have hEE : ∀ W, Chg (fun _ => False) w W → E w.heap.size W := fun W hW => E_on (hW.below (Nat.le_refl _) (fun _ h => h.elim)) hE
  have haw := fun (W : World) (hW : Chg (fun _ => False) w W) => awake_any w.heap.size W hW.size (hEE W hW)
  have hhv := fun (W : World) (C2 : Option Addr) (c2 : Nat) (hr : Rd W (fun _ => True) 1 C2 1 [.slice C cuts.length cc]) =>
    heavy_any (fun _ => True) 13 l.length (some ⟨w.heap.size, 0, none⟩) none 1 1 0 0 none C2 0 c2 [] [(C, cuts.length, cc)] W (by simp [maxLen]) (by simp [maxLen]) (by simp [maxLen]) ⟨none, 0, [], rfl, rfl, Rd.nil _ _ _ _, fun _ h => by cases h⟩ (fun _ h => by cases h) hr (by simp) (by
      intro c hc
      simp at hc
      subst hc
      exact hcl)
  have hst0 : Blk (w.alloc (.cells #[.int .u8 c.toNat] 5)) w.heap.size 5 #[.int .u8 c.toNat] := Blk.new _ _ _
  have hst : Blk ((w.alloc (.cells #[.int .u8 c.toNat] 5)).alloc (.cells #[.int .i64 13, .int .i64 l.length, .slice (some ⟨w.heap.size, 0, none⟩) 1 1, .slice none 0 0] 24)) (w.heap.size + 1) 24 #[.int .i64 13, .int .i64 l.length, .slice (some ⟨w.heap.size, 0, none⟩) 1 1, .slice none 0 0] := blk_new' _ _ (by simp)
  generalize hh : heavyB 1 0 [] [(C, cuts.length, cc)] = hβ at *
  replace haw := Lib.hid haw
  replace hhv := Lib.hid hhv
  have hc8 := c.toNat_lt
  by_cases hlen : 1 ≤ l.length ∧ l.length ≤ 4
  · cases hβ
    · by_cases hc10 : c = 10
      · have hcI : ((c.toNat : Int) == 10) = true := by rw [hc10]; rfl
        have hl1 : ¬ (l.length : Int) < 1 := by omega
        have hl4 : ¬ (4 : Int) < (l.length : Int) := by omega
        replace hc10 := Lib.hid hc10
        clear hh hE hEE hins hcuts hst hst0
        go_enter Try.func5, Try.ntmps5
        go_wp2_with (first
          | (go_at_call 24
             refine (hhv.out _ _ _ (row_new _ 1 rfl (by simp))).mono ?_
             rintro e1 w1 ⟨rfl, hc1⟩
             have k1 : Chg (fun _ => False) w w1 := ((((Chg.refl _ _).alloc _).alloc _).alloc _).trans hc1 (fun _ h _ => h))
          | (go_at_call 26
             refine (haw.out _ k1).mono ?_
             rintro e9 w9 ⟨rfl, hc9⟩))
        go_ret
        exact ⟨rfl, k1.trans hc9 (fun _ h _ => h)⟩
      · have hsz := heavyB_false hh
        have hl1 : ¬ (l.length : Int) < 1 := by omega
        have hl4 : ¬ (4 : Int) < (l.length : Int) := by omega
        have hcI : ((c.toNat : Int) == 10) = false := by
          rw [beq_eq_false_iff_ne]
          intro h
          apply hc10
          apply UInt8.toNat_inj.1
          show c.toNat = 10
          omega
        have hf := fit_of l.length c hc10 hlen.1 hlen.2
        have htl := fun (hb : ∀ b ∈ l, b.length ≤ 10000) (hd0 : (den ⟨13, l.length, [c], []⟩ (l.map endS)).need = -1 ∧ (den ⟨13, l.length, [c], []⟩ (l.map endS)).err = 0) (W : World) (hW : Chg (fun _ => False) w W) (hP : Blk W w.heap.size 5 #[.int .u8 c.toNat]) =>
          told_any (fun _ => True) ⟨13, l.length, [c], []⟩ ⟨by dsimp only; omega, by dsimp only; omega, by simp, by simp⟩ l ⟨hf, by rw [(fit_n hf).2.2.2.1]; simp⟩ hb hd0 cuts (by have := hsz.2.2.2.2 (C, cuts.length, cc) (by simp); dsimp only at this; omega) _ A C ci cc W (prm_one c 13 l.length w.heap.size _ hP) (by omega) (hins.chg hW (fun _ _ _ h => h)) (hcuts.chg hW (fun _ _ _ h => h)) w.heap.size hW.size (hEE W hW)
        unfold ToldPost at htl
        replace htl := Lib.hid htl
        clear hf
        go_enter Try.func5, Try.ntmps5
        go_wp2_with (first
          | (go_at_call 24
             refine (hhv.out _ _ _ (row_new _ 1 rfl (by simp))).mono ?_
             rintro e1 w1 ⟨rfl, hc1⟩
             have k1 : Chg (fun _ => False) w w1 := ((((Chg.refl _ _).alloc _).alloc _).alloc _).trans hc1 (fun _ h _ => h)
             have hb1 := (hst.alloc _).chg hc1 (fun h => h)
             have hb0 := ((hst0.alloc _).alloc _).chg hc1 (fun h => h)))
        obtain ⟨A', ci', its, hvs, hli, hri, hbi⟩ := hins
        cases hvs
        have hil : its.length = l.length := by rw [hli]; simp
        have hTk : ∀ k (hk : k < its.length), insT (l.map endS) k = (refLines (endS its[k].1)).lines ∧ insE (l.map endS) k = (refLines (endS its[k].1)).all := fun k hk => by
          have hkl : k < l.length := by omega
          have e : l[k] = its[k].1 := by simp only [hli, List.getElem_map]
          rw [insT_end l hkl, insE_end l hkl, e]
          exact ⟨rfl, rfl⟩
        have hTl : ∀ k (hk : k < its.length), its[k].1.length ≤ 1000 → (insT (l.map endS) k).length ≤ 1000 := fun k hk h => by
          rw [(hTk k hk).1]
          have := refLines_sum (endS its[k].1)
          have e : (endS its[k].1).bs.length = its[k].1.length := rfl
          omega
        have hcd := fun (h : ∀ j, j < l.length → insE (l.map endS) j = true) => col_den c (l.map endS) (by simp; omega) (fun j hj => h j (by simpa using hj))
        rw [List.length_map] at hcd
        have hT64 : ∀ j, ∀ x ∈ insT (l.map endS) j, x.length ≤ 64 := fun j x hx => refLines_len (sAt (l.map endS) j) x hx
        replace hcd := Lib.hid hcd
        replace hT64 := Lib.hid hT64
        have hmx : ∀ k, mxT (insT (l.map endS)) (k + 1) = max (mxT (insT (l.map endS)) k) (insT (l.map endS) k).length := fun _ => rfl
        obtain ⟨i0, hi0, iz0, iz1, iz2⟩ := info_parts info_lns
        have hsz1 := k1.size
        replace hli := Lib.hid hli
        replace hil := Lib.hid hil
        replace hTk := Lib.hid hTk
        replace hTl := Lib.hid hTl
        replace hmx := Lib.hid hmx
        replace hh := Lib.hid hh
        replace hbi := Lib.hid hbi
        generalize hTT : insT (l.map endS) = T at *
        replace hTT := Lib.hid hTT
        clear hst hst0 hcuts
        go_loopw [10, 9, 8] (fun i rows v wr => ∃ k : Nat, k ≤ l.length ∧ i = .int .i64 k ∧ rows = .int .i64 (mxT T k) ∧ mxT T k ≤ 1000 ∧ Chg (fun _ => False) w1 wr ∧ ColAll w1.heap.size T k v wr ∧ (∀ j (hj : j < its.length), j < k → its[j].1.length ≤ 1000) ∧ ∀ j, j < k → insE (l.map endS) j = true) (fun i _ _ _ => l.length - (intOf i).toNat)
        case atStart => exact ⟨0, Nat.zero_le _, rfl, rfl, Nat.zero_le _, Chg.refl _ _, ⟨fun _ => (none, 0), World.ownsRow_nil _ _ _ _, fun k hk => by omega⟩, (fun j _ hj => by omega), fun j hj => by omega⟩
        case round =>
          obtain ⟨k, hk, rfl, rfl, hmk, hch, hcol, hsm, hal⟩ := hrel
          have kr : Chg (fun _ => False) w wr := k1.trans hch (fun _ h _ => h)
          by_cases hlt : k < l.length
          · have hlt' : (k : Int) < (l.length : Int) := by omega
            have hk0 : (0 : Int) ≤ (k : Int) := by omega
            have hk4 : (k : Int) ≤ 4 := by omega
            obtain ⟨g2, o2, u, rfl, hg2, hD2, hu, hcell⟩ := hri.at_ hlt
            have hki : k < its.length := by have := hil.out; omega
            rw [List.getElem?_map, List.getElem?_eq_getElem hki] at hu
            simp only [Option.map_some, Option.some.injEq] at hu
            obtain ⟨⟨A2, c2, hv2, hr2⟩, hcap⟩ := hbi.out _ (List.getElem_mem hki)
            have hTk1 := hTk.out k hki
            have hTl1 := hTl.out k hki
            have hmx1 := hmx.out k
            have hsm1 : its[k].1.length ≤ 1000 → ∀ j (hj : j < its.length), j < k + 1 → its[j].1.length ≤ 1000 := fun h j hj hjk => by
              rcases Nat.lt_or_ge j k with h1 | h1
              · exact hsm j hj h1
              · obtain rfl : j = k := by omega
                exact h
            have hal1 : insE (l.map endS) k = true → ∀ j, j < k + 1 → insE (l.map endS) j = true := fun h j hjk => by
              rcases Nat.lt_or_ge j k with h1 | h1
              · exact hal j h1
              · obtain rfl : j = k := by omega
                exact h
            rw [← hu, hv2] at hcell
            have hcap2 := hcap _ _ _ hv2
            generalize its[k] = t at *
            have hcell' : wr.cell? ⟨g2, o2 + k, none⟩ = some (.slice A2 t.1.length c2) := (kr.cell (p := ⟨g2, o2 + k, none⟩) hg2 (fun h => h)).trans hcell
            have hrb := hr2.chg kr (fun _ _ _ h => h)
            replace hsm := Lib.hid hsm
            replace hal := Lib.hid hal
            replace hsm1 := Lib.hid hsm1
            replace hal1 := Lib.hid hal1
            replace hcol := Lib.hid hcol
            replace hTk1 := Lib.hid hTk1
            replace hTl1 := Lib.hid hTl1
            replace hmx1 := Lib.hid hmx1
            clear hcell hu hr2 hv2 hcap
            by_cases hbig : (1000 : Int) < (t.1.length : Int)
            · go_wp2_with (first
                | (go_at_call 26
                   refine (haw.out _ kr).mono ?_
                   rintro e9 w9 ⟨rfl, hc9⟩))
              go_ret
              exact ⟨rfl, kr.trans hc9 (fun _ h _ => h)⟩
            · have hln := lns_new t.1 A2 c2 wr hrb (by omega) (by omega)
              have hr64 := hTk1.out
              generalize hR : refLines (endS t.1) = R at *
              replace hln := Lib.hid hln
              replace hR := Lib.hid hR
              obtain ⟨lines, all, r1, r2, r3⟩ := R
              dsimp only at hr64
              cases all with
              | false =>
                clear hr64
                go_wp2_with (first
                  | (go_at_call 29
                     refine hln.out.mono ?_
                     rintro e2 w2 ⟨A5, c5, rfl, hr5, hc2⟩
                     have k2 : Chg (fun _ => False) w w2 := kr.trans hc2 (fun _ h _ => h))
                  | (go_at_call 26
                     refine (haw.out _ k2).mono ?_
                     rintro e9 w9 ⟨rfl, hc9⟩))
                go_ret
                exact ⟨rfl, k2.trans hc9 (fun _ h _ => h)⟩
              | true =>
                replace hr64 := Lib.hid hr64
                have hbits := fun (W : World) (hW : Chg (fun _ => False) wr W) => hrb.chg hW (fun _ _ _ h => h)
                replace hbits := Lib.hid hbits
                clear hrb
                go_wp2_with (first
                  | (go_at_call 29
                     refine hln.out.mono ?_
                     rintro e2 w2 ⟨A5, c5, rfl, hr5, hc2⟩
                     have k2 : Chg (fun _ => False) w w2 := kr.trans hc2 (fun _ h _ => h)
                     have hcell2 : w2.cell? ⟨g2, o2 + k, none⟩ = some (.slice A2 t.1.length c2) := (hc2.cell (p := ⟨g2, o2 + k, none⟩) (by have := kr.size; show g2 < _; omega) (fun h => h)).trans hcell'))
                replace hr5 := Lib.hid hr5
                have hbt := hbits.out w2 hc2
                have hcl5 := hr64.out.1
                go_loopw [13] (fun q wq => ∃ q0 : Nat, q0 ≤ t.1.length ∧ q = .int .i64 q0 ∧ w2 = wq) (fun q _ => t.1.length - (intOf q).toNat)
                case atStart => exact ⟨0, Nat.zero_le _, rfl, rfl⟩
                case round =>
                  obtain ⟨q0, hq0, rfl, rfl⟩ := hrel
                  by_cases hql : q0 < t.1.length
                  · obtain ⟨g6, o6, u6, rfl, hg6, _, hu6, hc6⟩ := hbt.at_ (show q0 < t.1.length from hql)
                    have hx := u8s_at (List.getElem?_eq_getElem hql)
                    rw [hx] at hu6
                    injection hu6 with hu6
                    subst hu6
                    have hqI : (q0 : Int) < (t.1.length : Int) := by omega
                    have hq0I : (0 : Int) ≤ (q0 : Int) := by omega
                    have hqL : (t.1.length : Int) ≤ 1000 := by omega
                    generalize t.1[q0] = x at *
                    have hx8 := x.toNat_lt
                    clear hx
                    by_cases hxc : x = c
                    · have hxI : ((x.toNat : Int) == (c.toNat : Int)) = true := by rw [hxc]; simp
                      replace hxc := Lib.hid hxc
                      go_wp2_with (first
                        | (go_at_call 26
                           refine (haw.out _ k2).mono ?_
                           rintro e9 w9 ⟨rfl, hc9⟩))
                      go_ret
                      exact ⟨rfl, k2.trans hc9 (fun _ h _ => h)⟩
                    · have hxI : ((x.toNat : Int) == (c.toNat : Int)) = false := by
                        rw [beq_eq_false_iff_ne]
                        intro h
                        exact hxc (UInt8.toNat_inj.1 (by omega))
                      replace hxc := Lib.hid hxc
                      go_wp2
                      go_roundw
                      case rel => exact ⟨q0 + 1, by omega, by go_num, trivial⟩
                      case measure => simp [intOf]; omega
                  · have hqI : ¬ (q0 : Int) < (t.1.length : Int) := by omega
                    obtain ⟨S, hown, hbs⟩ := hcol.out
                    replace hbs := Lib.hid hbs
                    go_wp2_with (first
                      | (at_builtin
                         refine wpList_append_own_at _ rfl (.tmp 89) (.tmp 91) 46 rfl w1.heap.size 47 i0 _ 1 24 Try.underlying46 hi0 iz0 iz1 iz2 rfl (by omega) u8 k (colRow T S k) rfl ((ownsRow_chg hown hc2 (fun _ _ h => h)).alloc _) ⟨w2.heap.size, 0, none⟩ 1 1 [.slice A5 lines.length c5] rfl rfl (World.news_of_block (cs := #[.slice A5 lines.length c5]) (t := 47) (fr := (0, 0)) (heap_alloc_new w2 _)) (by simp [Value.oneCell']) (by simp only [maxLen]; omega) (by omega) (by have := hch.size; have := hc2.size; simp; omega) ?_
                         intro v2 w3 hown3 hg3 hv3 hat3))
                    go_roundw
                    case measure => simp [intOf]; omega
                    case rel =>
                      obtain ⟨hTe, hEe⟩ := hr64.out
                      change T k = lines at hTe
                      change insE (l.map endS) k = true at hEe
                      have hcm := ColAll.more (b := w1.heap.size) (T := T) (m := k) ⟨S, hown, (by rw [hTe]; exact hown3), hbs.out⟩ hch.size hc2 (by rw [hTe]; exact hr5.out) hg3 (by simpa using hat3)
                      have hl1 := hTl1.out (by omega)
                      have hm1 := hmx1.out
                      rw [hTe] at hl1 hm1
                      exact ⟨k + 1, by omega, by go_num, by rw [hm1]; congr 1; omega, by omega, hch.trans hcm.2 (fun j hj hlt => by omega), hcm.1, hsm1.out (by omega), hal1.out hEe⟩
          · have hlt' : ¬ (k : Int) < (l.length : Int) := by omega
            have hkn : k = l.length := by omega
            subst hkn
            obtain ⟨hdn, hde, hdo⟩ := hcd.out hal
            have hb10 : ∀ b ∈ l, b.length ≤ 10000 := fun b hb => by
              rw [hli.out] at hb
              obtain ⟨t, ht, rfl⟩ := List.mem_map.1 hb
              obtain ⟨j, hj, rfl⟩ := List.mem_iff_getElem.1 ht
              have := hsm j hj (by have := hil.out; omega)
              omega
            have hbr := hb1.chg hch (fun h => h)
            have q0 : wr.cell? ⟨w.heap.size + 1, 0, none⟩ = some (.int .i64 13) := (hbr.cell 0).trans rfl
            have q1 : wr.cell? ⟨w.heap.size + 1, 1, none⟩ = some (.int .i64 l.length) := (hbr.cell 1).trans rfl
            have q2 : wr.cell? ⟨w.heap.size + 1, 2, none⟩ = some (.slice (some ⟨w.heap.size, 0, none⟩) 1 1) := (hbr.cell 2).trans rfl
            have q3 : wr.cell? ⟨w.heap.size + 1, 3, none⟩ = some (.slice none 0 0) := (hbr.cell 3).trans rfl
            have htold := htl.out hb10 ⟨hdn, hde⟩ wr kr (hb0.chg hch (fun h => h))
            obtain ⟨g3, o3, c3, rfl, hg3, hcells⟩ := hcol.at_ (by omega)
            replace htold := Lib.hid htold
            replace hcells := Lib.hid hcells
            replace hdn := Lib.hid hdn
            replace hde := Lib.hid hde
            replace hdo := Lib.hid hdo
            have hRl := restR_len [c] (by simp) l.length hlen.2 T hT64.out (mxT T l.length)
            have hIl := restI_len [c] (by simp) l.length hlen.2 T hT64.out (mxT T l.length)
            have hfl := fld_len T hT64.out
            replace hRl := Lib.hid hRl
            replace hIl := Lib.hid hIl
            replace hfl := Lib.hid hfl
            clear hsm hal hb10 hbr hcol hb1 hb0 hri hbi
            go_wp2_with (first
              | (go_at_call 30
                 refine htold.out.mono ?_
                 rintro e2 w2 ⟨hd, tk, rfl, hc2⟩
                 have k2 : Chg (fun _ => False) wr w2 := hc2)
              | (refine wpList_store_got rfl (.tmp 14) (.tmp 102) rfl w2.heap.size _ _ _ _ _ _ rfl rfl _ (Blk.new w2 _ _) rfl ?_
                 intro w4 hG4 hc4
                 have k4 : Chg (fun _ => False) wr w4 := (k2.alloc _).trans hc4 (fun k hk hlt => by have := k2.size; omega)
                 have g0 : w4.cell? ⟨w2.heap.size, 0, none⟩ = some (strv (restR [c] l.length T (mxT T l.length) 0)) := (hG4.cell 0).trans (by rw [← hdo.out]; rfl)))
            generalize hgg : w2.heap.size = gg at *
            replace hgg := Lib.hid hgg
            have hmI : (mxT T l.length : Int) ≤ 1000 := by omega
            go_loopw [17, 16] (fun r rest wq => ∃ r0 : Nat, r0 ≤ mxT T l.length ∧ r = .int .i64 r0 ∧ rest = strv (restR [c] l.length T (mxT T l.length) r0) ∧ Chg (fun _ => False) w4 wq) (fun r _ _ => mxT T l.length - (intOf r).toNat)
            case atStart => exact ⟨0, Nat.zero_le _, rfl, rfl, Chg.refl _ _⟩
            case round =>
              obtain ⟨r0, hr0, rfl, rfl, hch3⟩ := hrel
              by_cases hrl : r0 < mxT T l.length
              · have hrlI : (r0 : Int) < (mxT T l.length : Int) := by omega
                have e0 := restR_step [c] l.length T hrl
                rw [e0]
                replace e0 := Lib.hid e0
                go_wp2
                go_loopw [18, 16] (fun i rest wq => ∃ i0 : Nat, i0 ≤ l.length ∧ i = .int .i64 i0 ∧ rest = strv (restI [c] l.length T (mxT T l.length) r0 i0) ∧ Chg (fun _ => False) w4 wq) (fun i _ _ => l.length - (intOf i).toNat)
                case atStart => exact ⟨0, Nat.zero_le _, rfl, rfl, hch3⟩
                case round =>
                  clear hch3
                  obtain ⟨i0, hi0, rfl, rfl, hch4⟩ := hrel
                  have kq := k4.trans hch4 (fun _ h _ => h)
                  by_cases hil0 : i0 < l.length
                  · have hilI : (i0 : Int) < (l.length : Int) := by omega
                    have hi0I : (0 : Int) ≤ (i0 : Int) := by omega
                    have hr0I : (0 : Int) ≤ (r0 : Int) := by omega
                    have hl4I : (l.length : Int) ≤ 4 := by omega
                    obtain ⟨A6, ca6, p0, hln⟩ := hcells.out i0 hil0
                    have p1 : wr.cell? ⟨g3, o3 + i0, none⟩ = some (.slice A6 (T i0).length ca6) := (kq.cell (p := ⟨g3, o3 + i0, none⟩) hg3 (fun h => h)).trans p0
                    have hstep := restI_step [c] l.length T (mxT T l.length) r0 hil0
                    have hzl0 := hIl.out r0 i0
                    have hf64 := hfl.out r0 i0
                    have hpc : piece [c] l.length T r0 i0 = fld T r0 i0 ++ (if i0 + 1 = l.length then [10] else [c]) := rfl
                    generalize hzz : restI [c] l.length T (mxT T l.length) r0 i0 = z at *
                    generalize hy : restI [c] l.length T (mxT T l.length) r0 (i0 + 1) = y at *
                    generalize hf : fld T r0 i0 = f at *
                    have hz260 : z.length ≤ 300000 := by omega
                    clear p0 hIl hRl hfl
                    by_cases hr : r0 < (T i0).length
                    · by_cases he : i0 + 1 = l.length
                      · skip
                        have hrI : (r0 : Int) < ((T i0).length : Int) := by omega
                        obtain ⟨g5, o5, rfl, hg5, q5⟩ := hln r0 hr
                        have hfx : f = (T i0)[r0] := by rw [← hf]; unfold fld; rw [List.getElem?_eq_getElem hr]; rfl
                        have q6 : wr.cell? ⟨g5, o5 + r0, none⟩ = some (strv f) := by rw [hfx]; exact (kq.cell (p := ⟨g5, o5 + r0, none⟩) hg5 (fun h => h)).trans q5
                        clear hfx q5 hln
                        have hlI : ((i0 : Int) == (l.length : Int) - 1) = true := by rw [beq_iff_eq]; omega
                        rw [if_pos he] at hpc
                        have c0 := fun W => run_cat4 f [10] (by omega) (by simp) W
                        have hz : z = (f ++ [10]) ++ y := by rw [hstep, hpc]
                        generalize hs : (f ++ [10] : Bs) = sx at *
                        have hzl : z.length = sx.length + y.length := by rw [hz, List.length_append]
                        have hex : (⟨z.toArray⟩ : ByteArray).extract 0 sx.length = ⟨sx.toArray⟩ := by rw [hz]; apply ByteArray.ext; simp
                        have hex2 : (⟨z.toArray⟩ : ByteArray).extract sx.length z.length = ⟨y.toArray⟩ := by rw [hz]; apply ByteArray.ext; simp
                        have hszz : (⟨z.toArray⟩ : ByteArray).size = z.length := by simp [ByteArray.size]
                        have hszx : (⟨sx.toArray⟩ : ByteArray).size = sx.length := by simp [ByteArray.size]
                        have hle : (sx.length : Int) ≤ (z.length : Int) := by omega
                        have hle2 : (z.length : Int) ≤ 1000000 := by omega
                        have hcvc : (convert 22 9 (.slice (some ⟨wr.heap.size, 0, none⟩) 1 1)).run Try.prog (wr.alloc (.cells #[.int .u8 c.toNat] 5)) = .ok (strv [c]) (wr.alloc (.cells #[.int .u8 c.toNat] 5)) := conv_rd (wr.alloc (.cells #[.int .u8 c.toNat] 5)) (fun _ => True) (some ⟨wr.heap.size, 0, none⟩) [c] 1 (bs_new _ [c] rfl rfl trivial)
                        replace hz := Lib.hid hz
                        replace hs := Lib.hid hs
                        replace hstep := Lib.hid hstep
                        replace hpc := Lib.hid hpc
                        replace hf := Lib.hid hf
                        replace hy := Lib.hid hy
                        replace hzz := Lib.hid hzz
                        replace he := Lib.hid he
                        replace hzl := Lib.hid hzl
                        go_wp2
                        go_roundw
                        case rel => exact ⟨i0 + 1, by omega, by go_num, by rw [hy.out], hch4.alloc _⟩
                        case measure => simp [intOf]; omega
                      · skip
                        have hrI : (r0 : Int) < ((T i0).length : Int) := by omega
                        obtain ⟨g5, o5, rfl, hg5, q5⟩ := hln r0 hr
                        have hfx : f = (T i0)[r0] := by rw [← hf]; unfold fld; rw [List.getElem?_eq_getElem hr]; rfl
                        have q6 : wr.cell? ⟨g5, o5 + r0, none⟩ = some (strv f) := by rw [hfx]; exact (kq.cell (p := ⟨g5, o5 + r0, none⟩) hg5 (fun h => h)).trans q5
                        clear hfx q5 hln
                        have hlI : ((i0 : Int) == (l.length : Int) - 1) = false := by rw [beq_eq_false_iff_ne]; omega
                        rw [if_neg he] at hpc
                        have c0 := fun W => run_cat4 f [c] (by omega) (by simp) W
                        have hz : z = (f ++ [c]) ++ y := by rw [hstep, hpc]
                        generalize hs : (f ++ [c] : Bs) = sx at *
                        have hzl : z.length = sx.length + y.length := by rw [hz, List.length_append]
                        have hex : (⟨z.toArray⟩ : ByteArray).extract 0 sx.length = ⟨sx.toArray⟩ := by rw [hz]; apply ByteArray.ext; simp
                        have hex2 : (⟨z.toArray⟩ : ByteArray).extract sx.length z.length = ⟨y.toArray⟩ := by rw [hz]; apply ByteArray.ext; simp
                        have hszz : (⟨z.toArray⟩ : ByteArray).size = z.length := by simp [ByteArray.size]
                        have hszx : (⟨sx.toArray⟩ : ByteArray).size = sx.length := by simp [ByteArray.size]
                        have hle : (sx.length : Int) ≤ (z.length : Int) := by omega
                        have hle2 : (z.length : Int) ≤ 1000000 := by omega
                        have hcvc : (convert 22 9 (.slice (some ⟨wr.heap.size, 0, none⟩) 1 1)).run Try.prog (wr.alloc (.cells #[.int .u8 c.toNat] 5)) = .ok (strv [c]) (wr.alloc (.cells #[.int .u8 c.toNat] 5)) := conv_rd (wr.alloc (.cells #[.int .u8 c.toNat] 5)) (fun _ => True) (some ⟨wr.heap.size, 0, none⟩) [c] 1 (bs_new _ [c] rfl rfl trivial)
                        replace hz := Lib.hid hz
                        replace hs := Lib.hid hs
                        replace hstep := Lib.hid hstep
                        replace hpc := Lib.hid hpc
                        replace hf := Lib.hid hf
                        replace hy := Lib.hid hy
                        replace hzz := Lib.hid hzz
                        replace he := Lib.hid he
                        replace hzl := Lib.hid hzl
                        go_wp2
                        go_roundw
                        case rel => exact ⟨i0 + 1, by omega, by go_num, by rw [hy.out], hch4.alloc _⟩
                        case measure => simp [intOf]; omega
                    · by_cases he : i0 + 1 = l.length
                      · skip
                        have hrI : ¬ (r0 : Int) < ((T i0).length : Int) := by omega
                        have hfx : f = [] := by rw [← hf]; unfold fld; rw [List.getElem?_eq_none (by omega)]; rfl
                        clear hln
                        have hlI : ((i0 : Int) == (l.length : Int) - 1) = true := by rw [beq_iff_eq]; omega
                        rw [if_pos he] at hpc
                        have c0 := fun W => run_cat4 ([] : Bs) [10] (by simp) (by simp) W
                        have hz : z = (([] : Bs) ++ [10]) ++ y := by rw [hstep, hpc, hfx]
                        generalize hs : (([] : Bs) ++ [10] : Bs) = sx at *
                        have hzl : z.length = sx.length + y.length := by rw [hz, List.length_append]
                        have hex : (⟨z.toArray⟩ : ByteArray).extract 0 sx.length = ⟨sx.toArray⟩ := by rw [hz]; apply ByteArray.ext; simp
                        have hex2 : (⟨z.toArray⟩ : ByteArray).extract sx.length z.length = ⟨y.toArray⟩ := by rw [hz]; apply ByteArray.ext; simp
                        have hszz : (⟨z.toArray⟩ : ByteArray).size = z.length := by simp [ByteArray.size]
                        have hszx : (⟨sx.toArray⟩ : ByteArray).size = sx.length := by simp [ByteArray.size]
                        have hle : (sx.length : Int) ≤ (z.length : Int) := by omega
                        have hle2 : (z.length : Int) ≤ 1000000 := by omega
                        have hcvc : (convert 22 9 (.slice (some ⟨wr.heap.size, 0, none⟩) 1 1)).run Try.prog (wr.alloc (.cells #[.int .u8 c.toNat] 5)) = .ok (strv [c]) (wr.alloc (.cells #[.int .u8 c.toNat] 5)) := conv_rd (wr.alloc (.cells #[.int .u8 c.toNat] 5)) (fun _ => True) (some ⟨wr.heap.size, 0, none⟩) [c] 1 (bs_new _ [c] rfl rfl trivial)
                        replace hz := Lib.hid hz
                        replace hs := Lib.hid hs
                        replace hstep := Lib.hid hstep
                        replace hpc := Lib.hid hpc
                        replace hf := Lib.hid hf
                        replace hy := Lib.hid hy
                        replace hzz := Lib.hid hzz
                        replace he := Lib.hid he
                        replace hzl := Lib.hid hzl
                        replace hfx := Lib.hid hfx
                        go_wp2
                        go_roundw
                        case rel => exact ⟨i0 + 1, by omega, by go_num, by rw [hy.out], hch4.alloc _⟩
                        case measure => simp [intOf]; omega
                      · skip
                        have hrI : ¬ (r0 : Int) < ((T i0).length : Int) := by omega
                        have hfx : f = [] := by rw [← hf]; unfold fld; rw [List.getElem?_eq_none (by omega)]; rfl
                        clear hln
                        have hlI : ((i0 : Int) == (l.length : Int) - 1) = false := by rw [beq_eq_false_iff_ne]; omega
                        rw [if_neg he] at hpc
                        have c0 := fun W => run_cat4 ([] : Bs) [c] (by simp) (by simp) W
                        have hz : z = (([] : Bs) ++ [c]) ++ y := by rw [hstep, hpc, hfx]
                        generalize hs : (([] : Bs) ++ [c] : Bs) = sx at *
                        have hzl : z.length = sx.length + y.length := by rw [hz, List.length_append]
                        have hex : (⟨z.toArray⟩ : ByteArray).extract 0 sx.length = ⟨sx.toArray⟩ := by rw [hz]; apply ByteArray.ext; simp
                        have hex2 : (⟨z.toArray⟩ : ByteArray).extract sx.length z.length = ⟨y.toArray⟩ := by rw [hz]; apply ByteArray.ext; simp
                        have hszz : (⟨z.toArray⟩ : ByteArray).size = z.length := by simp [ByteArray.size]
                        have hszx : (⟨sx.toArray⟩ : ByteArray).size = sx.length := by simp [ByteArray.size]
                        have hle : (sx.length : Int) ≤ (z.length : Int) := by omega
                        have hle2 : (z.length : Int) ≤ 1000000 := by omega
                        have hcvc : (convert 22 9 (.slice (some ⟨wr.heap.size, 0, none⟩) 1 1)).run Try.prog (wr.alloc (.cells #[.int .u8 c.toNat] 5)) = .ok (strv [c]) (wr.alloc (.cells #[.int .u8 c.toNat] 5)) := conv_rd (wr.alloc (.cells #[.int .u8 c.toNat] 5)) (fun _ => True) (some ⟨wr.heap.size, 0, none⟩) [c] 1 (bs_new _ [c] rfl rfl trivial)
                        replace hz := Lib.hid hz
                        replace hs := Lib.hid hs
                        replace hstep := Lib.hid hstep
                        replace hpc := Lib.hid hpc
                        replace hf := Lib.hid hf
                        replace hy := Lib.hid hy
                        replace hzz := Lib.hid hzz
                        replace he := Lib.hid he
                        replace hzl := Lib.hid hzl
                        replace hfx := Lib.hid hfx
                        go_wp2
                        go_roundw
                        case rel => exact ⟨i0 + 1, by omega, by go_num, by rw [hy.out], hch4.alloc _⟩
                        case measure => simp [intOf]; omega
                  · have hilI : ¬ (i0 : Int) < (l.length : Int) := by omega
                    have hin : i0 = l.length := by omega
                    have e1 : restI [c] l.length T (mxT T l.length) r0 i0 = restR [c] l.length T (mxT T l.length) (r0 + 1) := by rw [hin, restI_end]
                    have hr0I : (r0 : Int) ≤ 1000 := by omega
                    rw [e1]
                    replace e1 := Lib.hid e1
                    replace hin := Lib.hid hin
                    go_wp2
                    go_roundw
                    case rel => exact ⟨r0 + 1, by omega, by go_num, rfl, hch4⟩
                    case measure => simp [intOf]; omega
              · have hrlI : ¬ (r0 : Int) < (mxT T l.length : Int) := by omega
                have hrn : r0 = mxT T l.length := by omega
                have e1 : restR [c] l.length T (mxT T l.length) r0 = [] := by rw [hrn, restR_end]
                rw [e1]
                replace e1 := Lib.hid e1
                replace hrn := Lib.hid hrn
                have kz := kr.trans (k4.trans hch3 (fun _ h _ => h)) (fun _ h _ => h)
                go_wp2_with (first
                  | (go_at_call 26
                     refine (haw.out _ kz).mono ?_
                     rintro e9 w9 ⟨rfl, hc9⟩))
                go_ret
                exact ⟨rfl, kz.trans hc9 (fun _ h _ => h)⟩
    · clear hh hE hEE hins hcuts hst hst0
      go_enter Try.func5, Try.ntmps5
      go_wp2_with (first
        | (go_at_call 24
           refine (hhv.out _ _ _ (row_new _ 1 rfl (by simp))).mono ?_
           rintro e1 w1 ⟨rfl, hc1⟩
           have k1 : Chg (fun _ => False) w w1 := ((((Chg.refl _ _).alloc _).alloc _).alloc _).trans hc1 (fun _ h _ => h))
        | (go_at_call 26
           refine (haw.out _ k1).mono ?_
           rintro e9 w9 ⟨rfl, hc9⟩))
      go_ret
      exact ⟨rfl, k1.trans hc9 (fun _ h _ => h)⟩
  · clear hh hE hEE hins hcuts hst hst0
    rcases (by omega : (l.length : Int) < 1 ∨ (¬ (l.length : Int) < 1 ∧ (4 : Int) < (l.length : Int))) with h1 | ⟨h1, h4⟩
    all_goals
      cases hβ
      all_goals
        go_enter Try.func5, Try.ntmps5
        go_wp2_with (first
          | (go_at_call 24
             refine (hhv.out _ _ _ (row_new _ 1 rfl (by simp))).mono ?_
             rintro e1 w1 ⟨rfl, hc1⟩
             have k1 : Chg (fun _ => False) w w1 := ((((Chg.refl _ _).alloc _).alloc _).alloc _).trans hc1 (fun _ h _ => h))
          | (go_at_call 26
             refine (haw.out _ k1).mono ?_
             rintro e9 w9 ⟨rfl, hc9⟩))
        go_ret
        exact ⟨rfl, k1.trans hc9 (fun _ h _ => h)⟩
end Go.Proofs.Ytamhebjejgcbjaa.Paste
