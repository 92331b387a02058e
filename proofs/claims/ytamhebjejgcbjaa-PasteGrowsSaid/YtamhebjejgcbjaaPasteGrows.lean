/- PasteGrows. -/
import Derived.Test.YtamhebjejgcbjaaPasteAwake
import Derived.Test.YtamhebjejgcbjaaGrowP
import Derived.Test.YtamhebjejgcbjaaSame
import Derived.Deep.RegionHeld3
import Derived.Deep.RegionLaw
import Derived.Deep.DrawnRows
import Derived.BigQuiet
import Derived.Deep.QuietTactic
import Derived.BigRegion
import Derived.Outline
namespace Go.Proofs.Ytamhebjejgcbjaa.Paste
open Go Go.RowKit

set_option maxHeartbeats 4000000 in
set_option maxRecDepth 100000 in
theorem grows_law (p : Prm) (ins : List Strm) (more : List Bs) (ends : List Bool) (a : List Int) (v : Value) (A Am An Aa : Option Addr) (ci cm cn ca : Nat) (w : World)
    (hn0 : -9223372036854775808 ≤ p.n) (hn1 : p.n ≤ 9223372036854775807) (hla : p.a.length ≤ maxLen) (hlb : p.b.length ≤ maxLen) (hv : PAt w (fun _ => True) v p)
    (hil : ins.length ≤ maxLen) (hins : StrmsAt w (fun _ => True) (.slice A ins.length ci) ins) (hbl : ∀ s ∈ ins, s.bs.length ≤ maxLen)
    (_ : more.length ≤ maxLen) (hm : BssAt w (fun _ => True) (.slice Am more.length cm) more) (_ : ∀ b ∈ more, b.length ≤ maxLen)
    (_ : ends.length ≤ maxLen) (he : Rd w (fun _ => True) 1 An ends.length (ends.map Value.bool))
    (hal : a.length ≤ maxLen) (ha : Rd w (fun _ => True) 1 Aa a.length (i64s a)) (hE : E w.heap.size w) :
    Calls Try.prog 6 #[v, .slice A ins.length ci, .slice Am more.length cm, .slice An ends.length cn, .slice Aa a.length ca] w (TruePost w) := by
  have hEE : ∀ W, Chg (fun _ => False) w W → E w.heap.size W := fun W hW => E_on (hW.below (Nat.le_refl _) (fun _ h => h.elim)) hE
  have haw := fun (W : World) (hW : Chg (fun _ => False) w W) => awake_any w.heap.size W hW.size (hEE W hW)
  have hvv := fun (W : World) (hW : Chg (fun _ => False) w W) => hv.chg hW (fun _ _ _ h => h)
  have hv0 := hv
  obtain ⟨A1, c1, B1, d1, rfl, _, _⟩ := hv0
  have hhv := fun (W : World) (hW : Chg (fun _ => False) w W) (C : Option Addr) (cc : Nat) (hr : Rd W (fun _ => True) 1 C 1 [.slice Aa a.length ca]) =>
    heavy_any (fun _ => True) p.kind p.n A1 B1 p.a.length c1 p.b.length d1 A C ci cc ins [(Aa, a.length, ca)] W hla hlb hil (hins.chg hW (fun _ _ _ h => h)) hbl hr (by simp) (by
      intro c hc
      simp at hc
      subst hc
      exact hal)
  have hst : Blk (w.alloc (.cells #[.int .i64 p.kind, .int .i64 p.n, .slice A1 p.a.length c1, .slice B1 p.b.length d1] 24)) w.heap.size 24 #[.int .i64 p.kind, .int .i64 p.n, .slice A1 p.a.length c1, .slice B1 p.b.length d1] := Blk.new _ _ _
  generalize hh : heavyB p.a.length p.b.length ins [(Aa, a.length, ca)] = hβ at *
  replace haw := Lib.hid haw
  replace hhv := Lib.hid hhv
  cases hβ
  · have hsz := heavyB_false hh
    have hp : p.Fine := ⟨hn0, hn1, by omega, by omega⟩
    have hfit := fun (W : World) (hW : Chg (fun _ => False) w W) => fit_any (fun _ => True) p hp _ W (hvv W hW) A ins.length ci
    generalize hf : fitB p ins.length = fβ at *
    have hmore : (8 < (more.length : Int)) ∨ ¬ (8 < (more.length : Int)) := Classical.em _
    cases fβ
    · replace hfit := Lib.hid hfit
      clear hv hins hbl ha hE hEE hvv hh hf hsz hp hm he hmore
      go_enter Try.func6, Try.ntmps6
      go_wp2_with (first
        | (go_at_call 24
           refine (hhv.out _ (((Chg.refl _ _).alloc _).alloc _) _ _ (row_new _ 1 rfl (by simp))).mono ?_
           rintro e1 w1 ⟨rfl, hc1⟩
           have hb1 := (hst.alloc _).chg hc1 (fun h => h)
           have q0 : w1.cell? ⟨w.heap.size, 0, none⟩ = some (.int .i64 p.kind) := (hb1.cell 0).trans rfl
           have q1 : w1.cell? ⟨w.heap.size, 1, none⟩ = some (.int .i64 p.n) := (hb1.cell 1).trans rfl
           have q2 : w1.cell? ⟨w.heap.size, 2, none⟩ = some (.slice A1 p.a.length c1) := (hb1.cell 2).trans rfl
           have q3 : w1.cell? ⟨w.heap.size, 3, none⟩ = some (.slice B1 p.b.length d1) := (hb1.cell 3).trans rfl
           have k1 : Chg (fun _ => False) w w1 := (((Chg.refl _ _).alloc _).alloc _).trans hc1 (fun _ h _ => h))
        | (go_at_call 25
           refine (hfit.out _ k1).mono ?_
           rintro e2 w2 ⟨rfl, hc2⟩
           have k2 : Chg (fun _ => False) w w2 := k1.trans hc2 (fun _ h _ => h))
        | (go_at_call 26
           refine (haw.out _ k2).mono ?_
           rintro e9 w9 ⟨rfl, hc9⟩))
      go_ret
      exact ⟨rfl, k2.trans hc9 (fun _ h _ => h)⟩
    · rcases hmore with hm8 | hm8
      · replace hfit := Lib.hid hfit
        clear hv hins hbl ha hE hEE hvv hh hf hsz hp hm he
        go_enter Try.func6, Try.ntmps6
        go_wp2_with (first
          | (go_at_call 24
             refine (hhv.out _ (((Chg.refl _ _).alloc _).alloc _) _ _ (row_new _ 1 rfl (by simp))).mono ?_
             rintro e1 w1 ⟨rfl, hc1⟩
             have hb1 := (hst.alloc _).chg hc1 (fun h => h)
             have q0 : w1.cell? ⟨w.heap.size, 0, none⟩ = some (.int .i64 p.kind) := (hb1.cell 0).trans rfl
             have q1 : w1.cell? ⟨w.heap.size, 1, none⟩ = some (.int .i64 p.n) := (hb1.cell 1).trans rfl
             have q2 : w1.cell? ⟨w.heap.size, 2, none⟩ = some (.slice A1 p.a.length c1) := (hb1.cell 2).trans rfl
             have q3 : w1.cell? ⟨w.heap.size, 3, none⟩ = some (.slice B1 p.b.length d1) := (hb1.cell 3).trans rfl
             have k1 : Chg (fun _ => False) w w1 := (((Chg.refl _ _).alloc _).alloc _).trans hc1 (fun _ h _ => h))
          | (go_at_call 25
             refine (hfit.out _ k1).mono ?_
             rintro e2 w2 ⟨rfl, hc2⟩
             have k2 : Chg (fun _ => False) w w2 := k1.trans hc2 (fun _ h _ => h))
          | (go_at_call 26
             refine (haw.out _ k2).mono ?_
             rintro e9 w9 ⟨rfl, hc9⟩))
        go_ret
        exact ⟨rfl, k2.trans hc9 (fun _ h _ => h)⟩
      · have hI := fitB_true hf
        have hi8 : ins.length ≤ 8 := hsz.2.2.1
        have hb2 : ∀ s ∈ ins, s.bs.length ≤ 2000 := hsz.2.2.2.1
        have hI2 : fitI p (mix more ends ins ins.length) := ⟨hI.1, by rw [mix_len]; exact hI.2⟩
        have hd1 := drive_ok p ins hI (fun s hs => by have := hb2 s hs; omega) a
        have hd2 := fun (hl : ∀ s ∈ mix more ends ins ins.length, s.bs.length ≤ 3000) => drive_ok p (mix more ends ins ins.length) hI2 (fun s hs => by have := hl s hs; omega) a
        have hgo := grow_ok p ins (mix more ends ins ins.length) hI (mix_len _ _ _ _).symm (mix_grow _ _ _ _ (Nat.le_refl _))
        have hnew := fun (W : World) (hW : Chg (fun _ => False) w W) => new_any (fun _ => True) p hI.1 _ W (hvv W hW) w.heap.size hW.size (hEE W hW)
        have hil2 := fun (W : World) (hW : Chg (fun _ => False) w W) => (hins.mono (D' := fun k => k < w.heap.size) (fun k _ hk => hk)).chg hW (fun _ _ _ h => h)
        have ha2 := fun (W : World) (hW : Chg (fun _ => False) w W) => (ha.mono (D' := fun k => k < w.heap.size) (fun k _ hk => hk)).chg hW (fun _ _ _ h => h)
        have hm2 := fun (W : World) (hW : Chg (fun _ => False) w W) => hm.chg hW (fun _ _ _ h => h)
        have he2 := fun (W : World) (hW : Chg (fun _ => False) w W) => he.chg hW (fun _ _ _ h => h)
        have hcp := fun (W : World) (hW : Chg (fun _ => False) w W) => copy_any2 (fun _ => True) ins A ci W (hins.chg hW (fun _ _ _ h => h)) (by omega) (fun s hs => by have := hb2 s hs; omega)
        have hcla : a.length ≤ 100000 := by have := hsz.2.2.2.2 (Aa, a.length, ca) (by simp); dsimp only at this; omega
        have hnil := nil_no
        obtain ⟨j0, hj0, jz0, jz1, jz2⟩ := info_parts info_u8
        replace hfit := Lib.hid hfit
        replace hd1 := Lib.hid hd1
        replace hd2 := Lib.hid hd2
        replace hgo := Lib.hid hgo
        replace hnew := Lib.hid hnew
        replace hil2 := Lib.hid hil2
        replace ha2 := Lib.hid ha2
        replace hm2 := Lib.hid hm2
        replace he2 := Lib.hid he2
        replace hcp := Lib.hid hcp
        replace hcla := Lib.hid hcla
        replace hb2 := Lib.hid hb2
        replace hj0 := Lib.hid hj0
        replace jz0 := Lib.hid jz0
        replace jz1 := Lib.hid jz1
        replace jz2 := Lib.hid jz2
        clear hv hins hbl ha hE hEE hvv hh hf hsz hp hm he hI hI2
        go_enter Try.func6, Try.ntmps6
        go_wp2_with (first
          | (go_at_call 24
             refine (hhv.out _ (((Chg.refl _ _).alloc _).alloc _) _ _ (row_new _ 1 rfl (by simp))).mono ?_
             rintro e1 w1 ⟨rfl, hc1⟩
             have hb1 := (hst.alloc _).chg hc1 (fun h => h)
             have q0 : w1.cell? ⟨w.heap.size, 0, none⟩ = some (.int .i64 p.kind) := (hb1.cell 0).trans rfl
             have q1 : w1.cell? ⟨w.heap.size, 1, none⟩ = some (.int .i64 p.n) := (hb1.cell 1).trans rfl
             have q2 : w1.cell? ⟨w.heap.size, 2, none⟩ = some (.slice A1 p.a.length c1) := (hb1.cell 2).trans rfl
             have q3 : w1.cell? ⟨w.heap.size, 3, none⟩ = some (.slice B1 p.b.length d1) := (hb1.cell 3).trans rfl
             have k1 : Chg (fun _ => False) w w1 := (((Chg.refl _ _).alloc _).alloc _).trans hc1 (fun _ h _ => h))
          | (go_at_call 25
             refine (hfit.out _ k1).mono ?_
             rintro e2 w2 ⟨rfl, hc2⟩
             have hb2' := hb1.chg hc2 (fun h => h)
             have k2 : Chg (fun _ => False) w w2 := k1.trans hc2 (fun _ h _ => h)
             clear q0 q1 q2 q3)
          | (go_at_call 31
             refine (hcp.out w2 k2).mono ?_
             intro e3 w3 hc3
             obtain ⟨A3, c3, its3, rfl, hmap3, hL3, hch3⟩ := hc3
             replace hmap3 := Lib.hid hmap3))
        go_loopw [12] (fun i wr => ∃ (k : Nat) (its : List (Strm × Value)), k ≤ ins.length ∧ i = .int .i64 k ∧ Hid (its.map (fun t => t.1) = mix more ends ins k) ∧ LAt wr w2.heap.size (.slice A3 ins.length c3) its ∧ Hid (∀ s ∈ mix more ends ins k, s.bs.length ≤ 3000) ∧ Chg (fun _ => False) w2 wr) (fun i _ => ins.length - (intOf i).toNat)
        case atStart => exact ⟨0, its3, by omega, rfl, Lib.hid (by rw [hmap3.out, mix_zero]), hL3, Lib.hid (by rw [mix_zero]; intro s hs; have := hb2.out s hs; omega), hch3⟩
        case round =>
          clear hL3 hch3 hmap3
          obtain ⟨k, its, hk, rfl, hmap, hL, hbd, hch⟩ := hrel
          by_cases hlt : k < ins.length
          · have hlt' : (k : Int) < (ins.length : Int) := by omega
            have hk0 : (0 : Int) ≤ (k : Int) := by omega
            have hkl : k < its.length := by
              have := congrArg List.length hmap.out
              rw [List.length_map, mix_len] at this
              omega
            have hse : its[k].1 = ins[k] := by
              have := congrArg (fun l : List Strm => l[k]?) hmap.out
              simp only [List.getElem?_map, List.getElem?_eq_getElem hkl, Option.map_some, mix_at _ _ _ _ hlt, Option.some.injEq] at this
              exact this
            obtain ⟨G, rfl, hnl, hBG, hGl, hfz, hcl⟩ := hL.blk hkl
            replace hnl := Lib.hid hnl
            have hby := hL.byt _ (List.getElem_mem hkl)
            obtain ⟨Av, cv, hve, hrv⟩ := own_rd hby
            have hik : its[k]? = some its[k] := List.getElem?_eq_getElem hkl
            have hsb := hb2.out _ (List.getElem_mem hlt)
            rw [← hse] at hsb
            generalize its[k] = t at *
            obtain ⟨⟨bs, en, code, st, id⟩, vv⟩ := t
            dsimp only at hse hve hsb hrv hby
            subst hve
            have c0 : wr.cell? ⟨G, k * 5, none⟩ = some (.slice Av bs.length cv) := (hcl 0 (by omega)).trans rfl
            have c1 : wr.cell? ⟨G, k * 5 + 1, none⟩ = some (.bool en) := (hcl 1 (by omega)).trans rfl
            have c2 : wr.cell? ⟨G, k * 5 + 2, none⟩ = some (.int .i64 code) := (hcl 2 (by omega)).trans rfl
            replace hse := Lib.hid hse
            replace hik := Lib.hid hik
            clear hcl
            cases en
            · by_cases hc0 : code = 0
              · subst hc0
                have kr : Chg (fun _ => False) w wr := k2.trans hch (fun _ h _ => h)
                have hs2w := k2.size
                have hfin : ∀ (m' : Bs) (e : Bool), more.getD k [] = m' → ends.getD k false = e → m'.length ≤ 1000 → (∀ v', (its.set k (⟨bs ++ m', e, 0, st, id⟩, v')).map (fun t => t.1) = mix more ends ins (k + 1)) ∧ ∀ s ∈ mix more ends ins (k + 1), s.bs.length ≤ 3000 := fun m' e h1 h2 h3 => by
                  rw [mix_succ _ _ _ _ hlt, ← hse.out, growS_more _ _ _ _ m' e _ _ h1 h2]
                  refine ⟨fun v' => by rw [List.map_set, hmap.out], fun s hs => ?_⟩
                  rcases List.mem_or_eq_of_mem_set hs with h | rfl
                  · exact hbd.out s h
                  · simp only [List.length_append]; omega
                replace hfin := Lib.hid hfin
                rcases Nat.lt_or_ge k more.length with hmk | hmk
                · obtain ⟨A5, c5, itm, hveq, hli, hri, hbi⟩ := hm2.out wr kr
                  cases hveq
                  have hki : k < itm.length := by
                    have := congrArg List.length hli
                    rw [List.length_map] at this
                    omega
                  obtain ⟨g5, o5, u, rfl, hg5, _, hu, hcell⟩ := hri.at_ hmk
                  rw [List.getElem?_map, List.getElem?_eq_getElem hki] at hu
                  simp only [Option.map_some, Option.some.injEq] at hu
                  subst hu
                  obtain ⟨⟨A6, c6, hv6, hr6⟩, _⟩ := hbi _ (List.getElem_mem hki)
                  have hmg : more.getD k [] = itm[k].1 := by
                    rw [List.getD_eq_getElem?_getD, hli, List.getElem?_map, List.getElem?_eq_getElem hki]
                    rfl
                  generalize itm[k] = t6 at *
                  obtain ⟨m, v6⟩ := t6
                  dsimp only at hv6 hr6 hmg hcell
                  subst hv6
                  have hmk' : (k : Int) < (more.length : Int) := by omega
                  replace hli := Lib.hid hli
                  replace hmg := Lib.hid hmg
                  clear hri hbi
                  by_cases hbig : (1000 : Int) < (m.length : Int)
                  · go_wp2_with (first
                      | (go_at_call 26
                         refine (haw.out _ kr).mono ?_
                         rintro e9 w9 ⟨rfl, hc9⟩))
                    go_ret
                    exact ⟨rfl, kr.trans hc9 (fun _ h _ => h)⟩
                  · have hmo : m.length ≤ 1000 := by omega
                    go_wp2
                    have hGv : (Value.slice Av bs.length cv).ownBlock ≠ some G := fun e => own_apart hby hL.row ty_ne e rfl
                    go_region_law ((refine step_append_rd _ (by rfl) (.tmp 76) (.tmp 80) 22 (by rfl) w2.heap.size 5 j0 _ 1 1 Try.underlying22 hj0.out jz0.out jz1.out jz2.out (by rfl) (by omega) (.slice Av bs.length cv) bs.length (u8s bs) (by rfl) (by exact hby) (fun _ => True) A6 m.length c6 (u8s m) (by rfl) (by exact hr6) (u8s_one _) (by simp only [maxLen]; omega) (by omega) (by have := hch.size; simp; omega) ?_; intro v1 w1x hown1 hg1 hv1; obtain ⟨Aw, cw, rfl, _⟩ := own_rd hown1; have hcx : Chg (fun j => (Value.slice Av bs.length cv).ownBlock = some j) wr w1x := ((Chg.refl (fun j => (Value.slice Av bs.length cv).ownBlock = some j) wr).drew).grown hg1 (fun j e => .inl e); have hrow1 := ownsRow_chg hL.row hcx (fun j hj e => own_apart hby hL.row ty_ne e hj); have kf := fun i => own_frozen (hnl.out ▸ hrow1) i; have kc := (hcx.cell (p := ⟨G, k * 5, none⟩) hGl hGv).trans c0; have kc1 := (hcx.cell (p := ⟨G, k * 5 + 1, none⟩) hGl hGv).trans c1))
                    all_goals
                      have hLL := fun e => hL.longer hik.out hcx hown1 hv1 e
                      have hsC : Chg (fun _ => False) w2 (w1x.setCell ⟨G, k * 5, none⟩ (.slice Aw (bs.length + m.length) cw)) := (hch.trans hcx (fun j hj _ => by have := (hby.lt j hj).1; omega)).setCell (p := ⟨G, k * 5, none⟩) (.inr hBG) _
                      have kc2 : (w1x.setCell ⟨G, k * 5, none⟩ (.slice Aw (bs.length + m.length) cw)).cell? ⟨G, k * 5 + 1, none⟩ = some (.bool false) := (World.cell?_setCell_other _ _ _ _ (by intro h; injection h; omega)).trans kc1
                      have kf2 : ∀ i, (w1x.setCell ⟨G, k * 5, none⟩ (.slice Aw (bs.length + m.length) cw)).frozen? ⟨G, i, none⟩ = false := fun i => own_frozen (own_set (i := k * 5) (hnl.out ▸ hrow1) (by have := hnl.out; omega)) i
                      have kwy : Chg (fun _ => False) w (w1x.setCell ⟨G, k * 5, none⟩ (.slice Aw (bs.length + m.length) cw)) := k2.trans hsC (fun _ h _ => h)
                      replace hLL := Lib.hid hLL
                      generalize w1x.setCell ⟨G, k * 5, none⟩ (.slice Aw (bs.length + m.length) cw) = wy at *
                      clear hcx hown1 hg1 hv1 hrow1 kf kc kc1 hL c0 c1 c2 hfz hch kr hby hcell hr6
                      rcases Nat.lt_or_ge k ends.length with hek | hek
                      · obtain ⟨g7, o7, e7, rfl, hg7, _, hu7, hcell7⟩ := (he2.out wy kwy).at_ hek
                        rw [List.getElem?_map, List.getElem?_eq_getElem hek] at hu7
                        simp only [Option.map_some, Option.some.injEq] at hu7
                        subst hu7
                        have heg : ends.getD k false = ends[k] := by rw [List.getD_eq_getElem?_getD, List.getElem?_eq_getElem hek]; rfl
                        generalize ends[k] = e at *
                        have hek' : (k : Int) < (ends.length : Int) := by omega
                        replace hfin := Lib.hid (hfin.out m e hmg.out heg hmo)
                        replace heg := Lib.hid heg
                        go_wp2
                        go_roundw
                        case rel => exact ⟨k + 1, its.set k (⟨bs ++ m, e, 0, st, id⟩, .slice Aw (bs.length + m.length) cw), by omega, by go_num, Lib.hid (hfin.out.1 _), hLL.out e, Lib.hid hfin.out.2, hsC.setCell (p := ⟨G, k * 5 + 1, none⟩) (.inr hBG) _⟩
                        case measure => simp [intOf]; omega
                      · have heg : ends.getD k false = false := by rw [List.getD_eq_getElem?_getD, List.getElem?_eq_none hek]; rfl
                        have hek' : ¬ (k : Int) < (ends.length : Int) := by omega
                        replace hfin := Lib.hid (hfin.out m false hmg.out heg hmo)
                        replace heg := Lib.hid heg
                        go_wp2
                        go_roundw
                        case rel => exact ⟨k + 1, its.set k (⟨bs ++ m, false, 0, st, id⟩, .slice Aw (bs.length + m.length) cw), by omega, by go_num, Lib.hid (hfin.out.1 _), hLL.out false, Lib.hid hfin.out.2, hsC.setCell (p := ⟨G, k * 5 + 1, none⟩) (.inr hBG) _⟩
                        case measure => simp [intOf]; omega
                · have hmk' : ¬ (k : Int) < (more.length : Int) := by omega
                  have hmg : more.getD k [] = [] := by rw [List.getD_eq_getElem?_getD, List.getElem?_eq_none hmk]; rfl
                  have hLL := Lib.hid (fun e => hL.told hik.out e)
                  have kf2 := hfz
                  clear hL hby
                  rcases Nat.lt_or_ge k ends.length with hek | hek
                  · obtain ⟨g7, o7, e7, rfl, hg7, _, hu7, hcell7⟩ := (he2.out wr kr).at_ hek
                    rw [List.getElem?_map, List.getElem?_eq_getElem hek] at hu7
                    simp only [Option.map_some, Option.some.injEq] at hu7
                    subst hu7
                    have heg : ends.getD k false = ends[k] := by rw [List.getD_eq_getElem?_getD, List.getElem?_eq_getElem hek]; rfl
                    generalize ends[k] = e at *
                    have hek' : (k : Int) < (ends.length : Int) := by omega
                    replace hfin := Lib.hid (hfin.out [] e hmg heg (by simp))
                    rw [List.append_nil] at hfin
                    replace heg := Lib.hid heg
                    replace hmg := Lib.hid hmg
                    go_wp2
                    go_roundw
                    case rel => exact ⟨k + 1, its.set k (⟨bs, e, 0, st, id⟩, .slice Av bs.length cv), by omega, by go_num, Lib.hid (hfin.out.1 _), hLL.out e, Lib.hid hfin.out.2, hch.setCell (p := ⟨G, k * 5 + 1, none⟩) (.inr hBG) _⟩
                    case measure => simp [intOf]; omega
                  · have heg : ends.getD k false = false := by rw [List.getD_eq_getElem?_getD, List.getElem?_eq_none hek]; rfl
                    have hek' : ¬ (k : Int) < (ends.length : Int) := by omega
                    replace hfin := Lib.hid (hfin.out [] false hmg heg (by simp))
                    rw [List.append_nil] at hfin
                    replace heg := Lib.hid heg
                    replace hmg := Lib.hid hmg
                    go_wp2
                    go_roundw
                    case rel => exact ⟨k + 1, its.set k (⟨bs, false, 0, st, id⟩, .slice Av bs.length cv), by omega, by go_num, Lib.hid (hfin.out.1 _), hLL.out false, Lib.hid hfin.out.2, hch.setCell (p := ⟨G, k * 5 + 1, none⟩) (.inr hBG) _⟩
                    case measure => simp [intOf]; omega
              · have hcb : (code == 0) = false := by simpa using hc0
                have hsk := Lib.hid (mix_skip more ends ins k hlt (by rw [← hse.out]; exact growS_ended _ _ _ _ (.inr hc0)))
                go_wp2
                go_roundw
                case rel => exact ⟨k + 1, its, by omega, by go_num, Lib.hid (by rw [hsk.out]; exact hmap.out), hL, Lib.hid (by rw [hsk.out]; exact hbd.out), hch⟩
                case measure => simp [intOf]; omega
            · have hsk := Lib.hid (mix_skip more ends ins k hlt (by rw [← hse.out]; exact growS_ended _ _ _ _ (.inl rfl)))
              go_wp2
              go_roundw
              case rel => exact ⟨k + 1, its, by omega, by go_num, Lib.hid (by rw [hsk.out]; exact hmap.out), hL, Lib.hid (by rw [hsk.out]; exact hbd.out), hch⟩
              case measure => simp [intOf]; omega
          · have hlt' : ¬ (k : Int) < (ins.length : Int) := by omega
            have hkn : k = ins.length := by omega
            subst hkn
            have kr : Chg (fun _ => False) w wr := k2.trans hch (fun _ h _ => h)
            have hbr := hb2'.chg hch (fun h => h)
            have s0 : wr.cell? ⟨w.heap.size, 0, none⟩ = some (.int .i64 p.kind) := (hbr.cell 0).trans rfl
            have s1 : wr.cell? ⟨w.heap.size, 1, none⟩ = some (.int .i64 p.n) := (hbr.cell 1).trans rfl
            have s2 : wr.cell? ⟨w.heap.size, 2, none⟩ = some (.slice A1 p.a.length c1) := (hbr.cell 2).trans rfl
            have s3 : wr.cell? ⟨w.heap.size, 3, none⟩ = some (.slice B1 p.b.length d1) := (hbr.cell 3).trans rfl
            obtain ⟨A4, c4, hve, hst4⟩ := hL.strms hmap.out
            rw [mix_len] at hve hst4
            cases hve
            have hlong := fun (W : World) (hW : Chg (fun _ => False) wr W) => (hst4.mono (D' := fun k => k < wr.heap.size) (fun k _ hk => hk)).chg hW (fun _ _ _ h => h)
            have hst4' := hst4
            have haL := fun (W : World) (hW : Chg (fun _ => False) wr W) => (ha2.out W (kr.trans hW (fun _ h _ => h))).mono (D' := fun k => k < wr.heap.size) (fun k hk _ => by have := kr.size; omega)
            have hlb3 := Lib.hid (fun x (hx : x ∈ mix more ends ins ins.length) => show x.bs.length ≤ 1000000 by have := hbd.out x hx; omega)
            have hib3 := Lib.hid (fun x (hx : x ∈ ins) => show x.bs.length ≤ 1000000 by have := hb2.out x hx; omega)
            have hd2' := Lib.hid (hd2.out hbd.out)
            have hml := Lib.hid (mix_len more ends ins ins.length)
            replace hlong := Lib.hid hlong
            replace haL := Lib.hid haL
            generalize hlg : mix more ends ins ins.length = long at *
            have tn := Lib.hid trivial
            have td := Lib.hid trivial
            clear hL hmap hbd hst4 hst4' hd2 hm2 he2 hfit hhv hcp
            go_wp2_with (first
              | (go_at_call 27
                 clear tn
                 refine (hnew.out wr kr).mono ?_
                 rintro e3 w3 ⟨m1, F1, rfl, hr1, hF1, hc3⟩
                 have hb3' := hbr.chg hc3 (fun h => h)
                 have s0 : w3.cell? ⟨w.heap.size, 0, none⟩ = some (.int .i64 p.kind) := (hb3'.cell 0).trans rfl
                 have s1 : w3.cell? ⟨w.heap.size, 1, none⟩ = some (.int .i64 p.n) := (hb3'.cell 1).trans rfl
                 have s2 : w3.cell? ⟨w.heap.size, 2, none⟩ = some (.slice A1 p.a.length c1) := (hb3'.cell 2).trans rfl
                 have s3 : w3.cell? ⟨w.heap.size, 3, none⟩ = some (.slice B1 p.b.length d1) := (hb3'.cell 3).trans rfl
                 have l3 : Chg (fun _ => False) wr w3 := hc3
                 have k3 : Chg (fun _ => False) w w3 := kr.trans hc3 (fun _ h _ => h))
              | (go_at_call 27
                 refine (hnew.out w3 k3).mono ?_
                 rintro e4 w4 ⟨m2, F2, rfl, hr2, hF2, hc4⟩
                 have l4 : Chg (fun _ => False) wr w4 := l3.trans hc4 (fun _ h _ => h)
                 have k4 : Chg (fun _ => False) w w4 := k3.trans hc4 (fun _ h _ => h))
              | (go_at_call 28
                 clear td
                 refine (drive_ready (hr1.chg hc4 (fun _ _ h => h) (fun _ h => h.elim)) ins a _ _ hd1.out _ _ _ _ (fun k => k < w.heap.size) (hil2.out w4 k4) (ha2.out w4 k4) ?_ hcla.out hib3.out).mono ?_
                 rotate_left 1
                 rintro e5 w5 ⟨dd1, F3, rfl, hh1, hh01, hc5, hr3, hF3⟩
                 have hF1w : ∀ k, F1 k → wr.heap.size ≤ k := fun k hk => (hF1 k hk)
                 have l5 : Chg (fun _ => False) wr w5 := l4.trans hc5 (fun k hk hlt => by have := hF1w k hk; omega)
                 have k5 : Chg (fun _ => False) w w5 := kr.trans l5 (fun _ h _ => h))
              | (go_at_call 28
                 refine (drive_ready_m (hr2.chg hc5 (fun k hk hk1 => by have := hF2 k hk; have := (hr1.inside.2.1 k hk1).2; omega) (fun k hk => by have := hF1w k hk; have := kr.size; omega)) long a _ _ hd2'.out ins.length hml.out _ _ _ _ (fun k => k < wr.heap.size) (hlong.out w5 l5) (haL.out w5 l5) ?_ hcla.out hlb3.out).mono ?_
                 rotate_left 1
                 rintro e6 w6 ⟨dd2, F4, rfl, hh2, hh02, hc6, hr4, hF4⟩
                 have hF2w : ∀ k, F2 k → w.heap.size ≤ k := fun k hk => by have := hF2 k hk; have := k3.size; omega
                 have k6 : Chg (fun _ => False) w w6 := k5.trans hc6 (fun k hk hlt => by have := hF2w k hk; omega)
                 clear hr1 hr2 hr3 hr4 hh1 hh01 hh2 hh02)
              | (refine wpList_store_got rfl (.tmp 17) (.tmp 125) rfl w6.heap.size _ _ _ _ _ _ rfl rfl _ ((Blk.new w6 _ _).alloc _) rfl ?_
                 intro w7 hG7 hc7
                 have k7 : Chg (fun _ => False) w w7 := ((k6.alloc _).alloc _).trans hc7 (fun k hk hlt => by have := k6.size; omega))
              | (refine wpList_store_got rfl (.tmp 18) (.tmp 129) rfl (w6.heap.size + 1) _ _ _ _ _ _ rfl rfl _ ((blk_new' _ _ (by simp)).chg hc7 (fun h => by omega)) rfl ?_
                 intro w8 hG8 hc8
                 have k8 : Chg (fun _ => False) w w8 := k7.trans hc8 (fun k hk hlt => by have := k6.size; omega)
                 have hG7' := hG7.chg hc8 (fun h => by omega)))
            · have hgo' := hgo.out
              have kk := k8
              generalize hgg : w6.heap.size = gg at *
              clear hd1 hd2' hgo
              generalize den p ins = dg at *
              generalize den p long = dh at *
              have G1 := hG7'
              have G2 := hG8
              clear hG7 hG7' hG8 s0 s1 s2 s3 l3 l4 l5 k3 k4 k5 k6 k7 hc3 hc4 hc5 hc6 hc7 hc8 hF1w hF2w
              go_loopw [19] (fun i wq => ∃ q : Nat, q ≤ 4 ∧ i = .int .i64 q ∧ Chg (fun _ => False) w8 wq) (fun i _ => 4 - (intOf i).toNat)
              case atStart => exact ⟨0, by omega, rfl, Chg.refl _ _⟩
              case round =>
                obtain ⟨q, hq, rfl, hcq⟩ := hrel
                by_cases hq4 : q < 4
                · have hq4' : (q : Int) < 4 := by omega
                  have hq0 : (0 : Int) ≤ (q : Int) := by omega
                  have hgq := hgo'.1 q hq4
                  by_cases hn : dg.need = -1
                  · have hS : ∀ W, Chg (fun _ => False) w8 W → W.cell? ⟨gg, q, none⟩ = some (strv (dg.outs q)) ∧ W.cell? ⟨gg + 1, q, none⟩ = some (strv (dg.outs q)) ∧ W.cell? ⟨gg, 4, none⟩ = some (.int .i64 (-1)) ∧ Chg (fun _ => False) w8 W := fun W hW =>
                      ⟨((G1.chg hW (fun h => h)).cell q).trans (out_at _ _ _ _ _ _ q hq4), ((G2.chg hW (fun h => h)).cell q).trans (by rw [hgq.2 hn]; exact out_at _ _ _ _ _ _ q hq4), ((G1.chg hW (fun h => h)).cell 4).trans (by rw [← hn]; rfl), hW⟩
                    obtain ⟨u0, u1, u2, _⟩ := hS wr hcq
                    clear hS
                    generalize dg.outs q = ox at *
                    clear hgq G1 G2 hgo'
                    replace hn := Lib.hid hn
                    go_wp2
                    go_quiet ((go_at_call 32; exact Calls.quiet_of_same (begins_pre ox ox (List.prefix_refl _) _)))
                    go_wp2
                    go_roundw
                    case rel => exact ⟨q + 1, by omega, by go_num, hcq.drewN _⟩
                    case measure => simp [intOf]; omega
                  · have hnb : (dg.need == -1) = false := by simpa using hn
                    have hnd : decide (dg.need = -1) = false := by simpa using hn
                    have hS : ∀ W, Chg (fun _ => False) w8 W → W.cell? ⟨gg, q, none⟩ = some (strv (dg.outs q)) ∧ W.cell? ⟨gg + 1, q, none⟩ = some (strv (dh.outs q)) ∧ W.cell? ⟨gg, 4, none⟩ = some (.int .i64 dg.need) ∧ Chg (fun _ => False) w8 W := fun W hW =>
                      ⟨((G1.chg hW (fun h => h)).cell q).trans (out_at _ _ _ _ _ _ q hq4), ((G2.chg hW (fun h => h)).cell q).trans (out_at _ _ _ _ _ _ q hq4), ((G1.chg hW (fun h => h)).cell 4).trans rfl, hW⟩
                    obtain ⟨u0, u1, u2, _⟩ := hS wr hcq
                    clear hS
                    have hpre := hgq.1
                    generalize dg.outs q = ox at *
                    generalize dh.outs q = oy at *
                    replace hpre := Lib.hid hpre
                    clear hgq G1 G2 hgo'
                    go_wp2
                    go_quiet ((go_at_call 32; exact Calls.quiet_of_same (begins_pre ox oy hpre.out _)))
                    go_wp2
                    go_roundw
                    case rel => exact ⟨q + 1, by omega, by go_num, hcq.drewN _⟩
                    case measure => simp [intOf]; omega
                · have hq4' : ¬ (q : Int) < 4 := by omega
                  have B1q := G1.chg hcq (fun h => h)
                  have B2q := G2.chg hcq (fun h => h)
                  have kq : Chg (fun _ => False) w wr := kk.trans hcq (fun _ h _ => h)
                  have n0 : wr.cell? ⟨gg, 4, none⟩ = some (.int .i64 dg.need) := (B1q.cell 4).trans rfl
                  have n1 : wr.cell? ⟨gg, 5, none⟩ = some (.int .i64 dg.err) := (B1q.cell 5).trans rfl
                  have m0 : wr.cell? ⟨gg + 1, 4, none⟩ = some (.int .i64 dh.need) := (B2q.cell 4).trans rfl
                  have m1 : wr.cell? ⟨gg + 1, 5, none⟩ = some (.int .i64 dh.err) := (B2q.cell 5).trans rfl
                  by_cases hn : dg.need = -1
                  · have h2 := hgo'.2 hn
                    rw [hn] at n0
                    rw [h2.1] at m0
                    rw [h2.2] at m1
                    clear h2 hgo' G1 G2 B1q B2q hn
                    go_wp2_with (first
                      | (go_at_call 26
                         refine (haw.out _ kq).mono ?_
                         rintro e9 w9 ⟨rfl, hc9⟩))
                    go_ret
                    exact ⟨rfl, kq.trans hc9 (fun _ h _ => h)⟩
                  · have hnb : (dg.need == -1) = false := by simpa using hn
                    clear hgo' G1 G2 B1q B2q
                    go_wp2_with (first
                      | (go_at_call 26
                         refine (haw.out _ kq).mono ?_
                         rintro e9 w9 ⟨rfl, hc9⟩))
                    go_ret
                    exact ⟨rfl, kq.trans hc9 (fun _ h _ => h)⟩
            · exact fun k hk hF => by have := hF2 k hF; have := l3.size; omega
            · exact fun k hk hF => by have := hF1 k hF; have := kr.size; omega
  · clear hv hins hbl ha hE hEE hvv hh hm he
    go_enter Try.func6, Try.ntmps6
    go_wp2_with (first
      | (go_at_call 24
         refine (hhv.out _ (((Chg.refl _ _).alloc _).alloc _) _ _ (row_new _ 1 rfl (by simp))).mono ?_
         rintro e1 w1 ⟨rfl, hc1⟩
         have k1 : Chg (fun _ => False) w w1 := (((Chg.refl _ _).alloc _).alloc _).trans hc1 (fun _ h _ => h))
      | (go_at_call 26
         refine (haw.out _ k1).mono ?_
         rintro e9 w9 ⟨rfl, hc9⟩))
    go_ret
    exact ⟨rfl, k1.trans hc9 (fun _ h _ => h)⟩
end Go.Proofs.Ytamhebjejgcbjaa.Paste
