/- penstockref09's Means: what the document says of uniq. -/
import Derived.Test.YtdhmlojodihjkaaDoorUniqK
import Derived.Test.YtdhmlojodihjkaaDoorCat3
import Derived.Test.YtdhmlojodihjkaaDoorDigits
import Derived.Test.YtdhmlojodihjkaaDoorRef4
import Derived.Test.YtdhmlojodihjkaaDoorRef4B
import Derived.Test.YtdhmlojodihjkaaDoorSame
namespace Go.Proofs.YtdhmlojodihjkaaDoor.Uniq
open Go Go.RowKit

def means (n : Int) (ins : List Strm) : List Strm := uniqMeans n (only ins)
theorem same_ok (p : Prm) (ins : List Strm) (h : fitI p ins) (hl : ∀ s ∈ ins, s.bs.length ≤ 10000) : SameOk (den p.n ins) ins (means p.n ins) := by
  have e := only_of (fit_one h)
  have := hl (only ins) (by rw [e]; simp [only])
  have h2 := uniq_same p.n (only ins) (by omega)
  rw [← e] at h2
  exact h2
theorem means_len (p : Prm) (ins : List Strm) (_ : fitI p ins) : (means p.n ins).length ≤ 100 := by
  show (refOut _ _ _ _ _).length ≤ 100
  unfold refOut
  split <;> simp

theorem out_of {w w0 : World} {l : List Strm} {e : Ending} {w' : World} (h : OutPost w0 l e w') (hs : w.heap.size ≤ w0.heap.size) (hc : Chg (fun _ => False) w w0) : OutPost w l e w' := by
  obtain ⟨v, rfl, h1, h2⟩ := h
  exact ⟨v, rfl, h1.mono (fun k hk _ => by omega), (hc.below (Nat.le_refl _) (fun _ h => h.elim)).trans (h2.mono hs)⟩

theorem head_drop {L : List Bs} {b : Nat} {l : Bs} (h : ∀ (hb : b < L.length), L[b] ≠ l) : (L.drop b).head? ≠ some l := by
  rw [List.head?_drop]
  intro e
  have hb := (List.getElem?_eq_some_iff.1 e).1
  rw [List.getElem?_eq_getElem hb] at e
  exact h hb (Option.some.inj e)
theorem rep_snoc {L : List Bs} {a b : Nat} {l : Bs} (hb : b < L.length) (h : L.drop a = List.replicate (b - a) l ++ L.drop b) (hab : a ≤ b) (hl : L[b] = l) : L.drop a = List.replicate (b + 1 - a) l ++ L.drop (b + 1) := by
  rw [h, List.drop_eq_getElem_cons hb, hl, show b + 1 - a = (b - a) + 1 by omega, List.replicate_succ']
  simp

set_option maxHeartbeats 4000000 in
set_option maxRecDepth 100000 in
theorem means_any (D : Nat → Prop) (p : Prm) (ins : List Strm) (hf : fitI p ins) (hl : ∀ s ∈ ins, s.bs.length ≤ 10000) (v : Value) (A : Option Addr) (ci : Nat) (w : World)
    (hv : PAt w D v p) (hins : StrmsAt w D (.slice A ins.length ci) ins) :
    Calls Tryd.prog 26 #[v, .slice A ins.length ci] w (OutPost w (means p.n ins)) := by
  have hn := fit_n hf.1
  have h1 := fit_one hf
  have hm : means p.n ins = uniqMeans p.n (only ins) := rfl
  rw [hm]
  obtain ⟨z0, g2, o2, A2, c2, rfl, hg2, hD2, q0, q1, q2, q3, q4, hr2, hc2⟩ := hins.at_ (k := 0) (by omega)
  have hs0 : (ins[0]'(by omega)) = only ins := by
    obtain ⟨s, rfl⟩ := List.length_eq_one_iff.1 h1
    rfl
  have hlo := hl (only ins) (by rw [← hs0]; exact List.getElem_mem _)
  rw [hs0] at q0 q1 q2 q3 q4 hr2 hc2
  simp only [Nat.zero_mul, Nat.add_zero] at q0 q1 q2 q3 q4
  have hN2 : p.n = 0 ∨ p.n = 1 := by omega
  obtain ⟨A1, ca, B1, cb, rfl, _, _⟩ := hv
  have hst : Blk (w.alloc (.cells #[.int .i64 p.kind, .int .i64 p.n, .slice A1 p.a.length ca, .slice B1 p.b.length cb] 24)) w.heap.size 24 #[.int .i64 p.kind, .int .i64 p.n, .slice A1 p.a.length ca, .slice B1 p.b.length cb] := Blk.new _ _ _
  have hch0 : Chg (fun _ => False) w (w.alloc (.cells #[.int .i64 p.kind, .int .i64 p.n, .slice A1 p.a.length ca, .slice B1 p.b.length cb] 24)) := (Chg.refl _ _).alloc _
  generalize only ins = s at *
  rw [h1]
  have hsat := (show SAt (w.alloc (.cells #[.int .i64 p.kind, .int .i64 p.n, .slice A1 p.a.length ca, .slice B1 p.b.length cb] 24)) D _ s from ⟨A2, c2, rfl, hr2.chg hch0 (fun _ _ _ h => h), hc2⟩)
  have hli := lines_any D s _ _ hsat (by omega)
  have hlen := refLines_sum s
  have hl64 := refLines_len s
  have hmm : uniqMeans p.n s = refOut (uniqText (p.n == 1) (refLines s).all (refLines s).lines) (refLines s).all (refLines s).code (refLines s).stage (refLines s).id := rfl
  rw [hmm]
  generalize refLines s = r at *
  have hlen2 : r.lines.length ≤ 10000 := by omega
  replace hl64 := Lib.hid hl64
  replace hli := Lib.hid hli
  replace hN2 := Lib.hid hN2
  clear hins hf hl h1 hs0 hm z0 hr2 hn hlen hmm hsat
  go_enter Tryd.func26, Tryd.ntmps26
  go_wp2_with (first
    | (go_at_call 49
       refine hli.out.mono ?_
       rintro e1 w1 ⟨v1, rfl, hown1, hb1⟩
       have hb1' : Chg (fun _ => False) (w.alloc (.cells #[.int .i64 p.kind, .int .i64 p.n, .slice A1 p.a.length ca, .slice B1 p.b.length cb] 24)) w1 := Chg.of_below hb1
       obtain ⟨A5, c5, rfl, hrd1⟩ := own_rd hown1))
  have hsz1 := hb1.size
  simp only [World.size_alloc] at hsz1
  have hR : Blk (w1.alloc (.cells #[.slice A5 r.lines.length c5, .bool r.all, .int .i64 r.code, .int .i64 r.stage, .int .i64 r.id] 100)) w1.heap.size 100 #[.slice A5 r.lines.length c5, .bool r.all, .int .i64 r.code, .int .i64 r.stage, .int .i64 r.id] := Blk.new _ _ _
  have hP := (hst.chg hb1' (fun h => h)).alloc (.cells #[.slice A5 r.lines.length c5, .bool r.all, .int .i64 r.code, .int .i64 r.stage, .int .i64 r.id] 100)
  have hL := (hrd1.mono (D' := fun _ => True) (fun _ _ _ => trivial)).chg ((Chg.refl (fun _ => False) w1).alloc (.cells #[.slice A5 r.lines.length c5, .bool r.all, .int .i64 r.code, .int .i64 r.stage, .int .i64 r.id] 100)) (fun _ _ _ h => h)
  have hc02 : Chg (fun _ => False) w (w1.alloc (.cells #[.slice A5 r.lines.length c5, .bool r.all, .int .i64 r.code, .int .i64 r.stage, .int .i64 r.id] 100)) := (hch0.trans hb1' (fun _ h _ => h)).alloc _
  clear hst hown1 hrd1 hb1 hb1' hch0 q0 q1 q2 q3 q4
  generalize hgr : w1.heap.size = gr at *
  generalize w1.alloc (.cells #[.slice A5 r.lines.length c5, .bool r.all, .int .i64 r.code, .int .i64 r.stage, .int .i64 r.id] 100) = w2 at *
  replace hgr := Lib.hid hgr
  have hPl := hP.lt
  have hRl := hR.lt
  have pN : ∀ W, Chg (fun _ => False) w2 W → W.cell? ⟨w.heap.size, 1, none⟩ = some (.int .i64 p.n) := fun W hW => (hW.cell (p := ⟨w.heap.size, 1, none⟩) hPl (fun h => h)).trans ((hP.cell 1).trans rfl)
  have r0 : ∀ W, Chg (fun _ => False) w2 W → W.cell? ⟨gr, 0, none⟩ = some (.slice A5 r.lines.length c5) := fun W hW => (hW.cell (p := ⟨gr, 0, none⟩) hRl (fun h => h)).trans ((hR.cell 0).trans rfl)
  have r1 : ∀ W, Chg (fun _ => False) w2 W → W.cell? ⟨gr, 1, none⟩ = some (.bool r.all) := fun W hW => (hW.cell (p := ⟨gr, 1, none⟩) hRl (fun h => h)).trans ((hR.cell 1).trans rfl)
  have r2 : ∀ W, Chg (fun _ => False) w2 W → W.cell? ⟨gr, 2, none⟩ = some (.int .i64 r.code) := fun W hW => (hW.cell (p := ⟨gr, 2, none⟩) hRl (fun h => h)).trans ((hR.cell 2).trans rfl)
  have r3 : ∀ W, Chg (fun _ => False) w2 W → W.cell? ⟨gr, 3, none⟩ = some (.int .i64 r.stage) := fun W hW => (hW.cell (p := ⟨gr, 3, none⟩) hRl (fun h => h)).trans ((hR.cell 3).trans rfl)
  have r4 : ∀ W, Chg (fun _ => False) w2 W → W.cell? ⟨gr, 4, none⟩ = some (.int .i64 r.id) := fun W hW => (hW.cell (p := ⟨gr, 4, none⟩) hRl (fun h => h)).trans ((hR.cell 4).trans rfl)
  have hLk : ∀ (k : Nat) (hk : k < r.lines.length), ∃ g3 o3, A5 = some ⟨g3, o3, none⟩ ∧ ∀ W, Chg (fun _ => False) w2 W → W.cell? ⟨g3, o3 + k, none⟩ = some (strv r.lines[k]) := fun k hk => by
    obtain ⟨g3, o3, u, e, hg3, _, hu, hcell⟩ := hL.at_ hk
    rw [List.getElem?_map, List.getElem?_eq_getElem hk] at hu
    simp only [Option.map_some, Option.some.injEq] at hu
    subst hu
    exact ⟨g3, o3, e, fun W hW => (hW.cell (p := ⟨g3, o3 + k, none⟩) hg3 (fun h => h)).trans hcell⟩
  replace pN := Lib.hid pN
  replace r0 := Lib.hid r0
  replace r1 := Lib.hid r1
  replace r2 := Lib.hid r2
  replace r3 := Lib.hid r3
  replace r4 := Lib.hid r4
  replace hLk := Lib.hid hLk
  have x0 := r0.out w2 (Chg.refl _ _)
  clear hP hR hL
  go_loopw [7, 6] (fun i t wr => ∃ (a : Nat) (b : Bs), a ≤ r.lines.length ∧ i = .int .i64 a ∧ t = strv b ∧ Hid (uniqText (p.n == 1) r.all r.lines = b ++ uniqText (p.n == 1) r.all (r.lines.drop a)) ∧ b.length ≤ 100 * a ∧ Chg (fun _ => False) w2 wr) (fun i _ _ => r.lines.length - (intOf i).toNat)
  case atStart => exact ⟨0, [], by omega, rfl, rfl, Lib.hid rfl, by simp, Chg.refl _ _⟩
  case round =>
    obtain ⟨a, t, ha, rfl, rfl, htx, htl, hch⟩ := hrel
    clear x0
    have x0 := r0.out wr hch
    by_cases hlt : a < r.lines.length
    · have hlt' : (a : Int) < (r.lines.length : Int) := by omega
      have ha0 : (0 : Int) ≤ (a : Int) := by omega
      obtain ⟨g3, o3, rfl, hga⟩ := hLk.out a hlt
      have h64 := hl64.out _ (List.getElem_mem hlt)
      generalize hla : r.lines[a] = l at *
      replace hla := Lib.hid hla
      replace hga := Lib.hid hga
      go_wp2
      go_loopw [8] (fun i wq => ∃ b : Nat, a ≤ b ∧ b ≤ r.lines.length ∧ i = .int .i64 b ∧ Hid (r.lines.drop a = List.replicate (b - a) l ++ r.lines.drop b) ∧ Chg (fun _ => False) w2 wq) (fun i _ => r.lines.length - (intOf i).toNat)
      case atStart => exact ⟨a, Nat.le_refl _, ha, rfl, Lib.hid (by simp), hch⟩
      case round =>
        clear x0
        obtain ⟨b, hab, hbl, rfl, hrp, hcq⟩ := hrel
        have x0 := r0.out wr hcq
        have y0 := hga.out wr hcq
        by_cases hgo : ∃ (hb : b < r.lines.length), r.lines[b] = l
        · obtain ⟨hb, hbe⟩ := hgo
          obtain ⟨g4, o4, e, hgb⟩ := hLk.out b hb
          cases e
          have y1 := hgb wr hcq
          rw [hbe] at y1
          have hb1 : (b : Int) < (r.lines.length : Int) := by omega
          have hb0 : (0 : Int) ≤ (b : Int) := by omega
          have hll : (l == l) = true := by simp
          have hrp2 := Lib.hid (rep_snoc hb hrp.out hab hbe)
          clear hgb hbe
          go_wp2
          go_quiet (fail)
          go_wp2
          go_roundw
          case rel => exact ⟨b + 1, by omega, by omega, by go_num, hrp2, hcq.drewN _⟩
          case measure => simp [intOf]; omega
        · have hne : ∀ (hb : b < r.lines.length), r.lines[b] ≠ l := fun hb e => hgo ⟨hb, e⟩
          have hba : a < b := by
            rcases Nat.lt_or_ge a b with h | h
            · exact h
            · have : b = a := by omega
              subst this
              exact absurd hla.out (hne hlt)
          have hhd := head_drop hne
          have hgrp := uniqText_group (p.n == 1) r.all l (b - a - 1) (r.lines.drop b) hhd
          rw [show b - a - 1 + 1 = b - a by omega, ← hrp.out] at hgrp
          have htx2 := htx.out
          rw [hgrp, ← List.append_assoc] at htx2
          have hnil : (r.lines.drop b ≠ []) ↔ b < r.lines.length := by
            rw [Ne, List.drop_eq_nil_iff]; omega
          have hb0 : (0 : Int) ≤ (b : Int) := by omega
          have pN0 := pN.out wr hcq
          have x1 := r1.out wr hcq
          have hdl : (Lib.decDigits (b - a)).length ≤ 20 := by rw [Lib.decDigits_length]; exact Lib.nDigits_le20 _ (by omega)
          have hdig := fun W => digits_any (b - a) (by omega) W
          unfold DigPost at hdig
          have hpi : uPiece l (b - a) = Lib.decDigits (b - a) ++ [32] ++ l ++ [10] := by
            unfold uPiece
            rw [Lib.itoa_nonneg]
          have hw1 : IntKind.i64.wrap ((b : Int) - (a : Int)) = ((b - a : Nat) : Int) := by
            rw [show ((b : Int) - (a : Int)) = ((b - a : Nat) : Int) by omega]; exact wrap_small 0 _ (by omega)
          rw [hpi] at htx2
          generalize hds : Lib.decDigits (b - a) = ds at *
          have d1 := fun W => run_cat3 t l (by omega) (by omega) W
          have d2 := fun W => run_cat3 (t ++ l) [10] (by simp; omega) (by simp) W
          have c1 := fun W => run_cat3 t ds (by omega) (by omega) W
          have c2' := fun W => run_cat3 (t ++ ds) [32] (by simp; omega) (by simp) W
          have c3 := fun W => run_cat3 (t ++ ds ++ [32]) l (by simp; omega) (by omega) W
          have c4 := fun W => run_cat3 (t ++ ds ++ [32] ++ l) [10] (by simp; omega) (by simp) W
          have l5 : (t ++ ds ++ [32] ++ l ++ [10]).length ≤ 100 * b := by simp; omega
          have l6 : (t ++ l ++ [10]).length ≤ 100 * b := by simp; omega
          have e5 : t ++ (ds ++ [32] ++ l ++ [10]) = t ++ ds ++ [32] ++ l ++ [10] := by simp
          have e6 : t ++ (l ++ [10]) = t ++ l ++ [10] := by simp
          generalize hy4 : t ++ ds ++ [32] ++ l ++ [10] = y4 at *
          generalize hy3 : t ++ ds ++ [32] ++ l = y3 at *
          generalize hy2 : t ++ ds ++ [32] = y2 at *
          generalize hy1 : t ++ ds = y1 at *
          generalize hz2 : t ++ l ++ [10] = z2 at *
          generalize hz1 : t ++ l = z1 at *
          replace hy1 := Lib.hid hy1
          replace hy2 := Lib.hid hy2
          replace hy3 := Lib.hid hy3
          replace hy4 := Lib.hid hy4
          replace hz1 := Lib.hid hz1
          replace hz2 := Lib.hid hz2
          replace hdig := Lib.hid hdig
          replace e5 := Lib.hid e5
          replace e6 := Lib.hid e6
          replace hds := Lib.hid hds
          replace hpi := Lib.hid hpi
          replace hnil := Lib.hid hnil
          replace hhd := Lib.hid hhd
          replace hgrp := Lib.hid hgrp
          have hS : ∀ W, Chg (fun _ => False) w2 W → W.cell? ⟨gr, 0, none⟩ = some (.slice (some ⟨g3, o3, none⟩) r.lines.length c5) ∧ W.cell? ⟨g3, o3 + a, none⟩ = some (strv l) ∧ Chg (fun _ => False) w2 W := fun W hW => ⟨r0.out W hW, hga.out W hW, hW⟩
          have hexit : (∃ hb : b < r.lines.length, (r.lines[b] == l) = false) ∨ b = r.lines.length := by
            rcases Nat.lt_or_ge b r.lines.length with h | h
            · exact .inl ⟨h, by rw [beq_eq_false_iff_ne]; exact hne h⟩
            · exact .inr (by omega)
          rcases hexit with ⟨hb, hne2⟩ | hbe
          · obtain ⟨g4, o4, e, hgb⟩ := hLk.out b hb
            cases e
            have y1 := hgb wr hcq
            clear hne hgo hgb
            generalize r.lines[b] = y at *
            have hb1 : (b : Int) < (r.lines.length : Int) := by omega
            have hdb := Lib.hid (hnil.out.2 hb)
            rcases hN2.out with hp | hp
            · have htx3 := Lib.hid (show uniqText (p.n == 1) r.all r.lines = t ++ (l ++ [10]) ++ uniqText (p.n == 1) r.all (r.lines.drop b) by rw [htx2, if_pos (by rw [hp]; rfl)])
              clear htx2
              replace hp := Lib.hid hp
              go_wp2
              go_quiet (fail)
              have hcn := hcq.drewN nq
              generalize wr.drewN nq = wz at *
              have pN1 := pN.out wz hcn
              have v0 := r0.out wz hcn
              have v1 := hga.out wz hcn
              have v2 := r1.out wz hcn
              rw [hp.out] at pN1
              clear x0 x1 y0 pN0 hcq
              go_wp2
              go_roundw
              case rel => exact ⟨b, z2, hbl, rfl, rfl, Lib.hid (by rw [htx3.out, e6.out]), l6, hcn⟩
              case measure => simp [intOf]; omega
            · have htx3 := Lib.hid (show uniqText (p.n == 1) r.all r.lines = t ++ (ds ++ [32] ++ l ++ [10]) ++ uniqText (p.n == 1) r.all (r.lines.drop b) by rw [htx2, if_neg (by rw [hp]; simp), if_pos (.inl hdb.out)])
              clear htx2
              replace hp := Lib.hid hp
              go_wp2
              go_quiet (fail)
              have hcn := hcq.drewN nq
              generalize wr.drewN nq = wz at *
              have pN1 := pN.out wz hcn
              have v0 := r0.out wz hcn
              have v1 := hga.out wz hcn
              have v2 := r1.out wz hcn
              rw [hp.out] at pN1
              clear x0 x1 y0 pN0 hcq
              have hSz := hS wz hcn
              go_wp2
              go_region_held3 (fun W => W.cell? ⟨gr, 0, none⟩ = some (.slice (some ⟨g3, o3, none⟩) r.lines.length c5) ∧ W.cell? ⟨g3, o3 + a, none⟩ = some (strv l) ∧ Chg (fun _ => False) w2 W)
                (first
                  | exact hSz
                  | with_reducible exact hS _ hcn.drew
                  | with_reducible exact hS _ dX)
                (first
                  | (go_at_call 50
                     refine (hdig.out _).mono ?_
                     rintro e7 w7 ⟨rfl, hc7⟩
                     have dX : Chg (fun _ => False) w2 w7 := hcn.drew.trans hc7 (fun _ h _ => h)))
              go_wp2
              go_roundw
              case rel => exact ⟨b, y4, hbl, rfl, rfl, Lib.hid (by rw [htx3.out, e5.out]), l5, dX⟩
              case measure => simp [intOf]; omega
          · have hb1 : ¬ (b : Int) < (r.lines.length : Int) := by omega
            have hb1d : decide ((r.lines.length : Int) < (r.lines.length : Int)) = false := by simp
            have hdb := Lib.hid (show ¬ (r.lines.drop b ≠ []) from fun h => by have := hnil.out.1 h; omega)
            subst hbe
            clear hne hgo
            rcases hN2.out with hp | hp
            · have htx3 := Lib.hid (show uniqText (p.n == 1) r.all r.lines = t ++ (l ++ [10]) ++ uniqText (p.n == 1) r.all (r.lines.drop r.lines.length) by rw [htx2, if_pos (by rw [hp]; rfl)])
              clear htx2
              replace hp := Lib.hid hp
              go_wp2
              go_quiet (fail)
              have hcn := hcq.drewN nq
              generalize wr.drewN nq = wz at *
              have pN1 := pN.out wz hcn
              have v0 := r0.out wz hcn
              have v1 := hga.out wz hcn
              have v2 := r1.out wz hcn
              rw [hp.out] at pN1
              clear x0 x1 y0 pN0 hcq
              go_wp2
              go_roundw
              case rel => exact ⟨r.lines.length, z2, hbl, rfl, rfl, Lib.hid (by rw [htx3.out, e6.out]), l6, hcn⟩
              case measure => simp [intOf]; omega
            · obtain ⟨β, hall⟩ := bool_any r.all
              cases β
              · have htx3 := Lib.hid (show uniqText (p.n == 1) r.all r.lines = t ++ [] ++ uniqText (p.n == 1) r.all (r.lines.drop r.lines.length) by rw [htx2, if_neg (by rw [hp]; simp), if_neg (by rw [hall]; exact fun h => h.elim hdb.out (fun h => by cases h))])
                clear htx2
                replace hp := Lib.hid hp
                replace hall := Lib.hid hall
                go_wp2
                go_quiet (fail)
                have hcn := hcq.drewN nq
                generalize wr.drewN nq = wz at *
                have pN1 := pN.out wz hcn
                have v0 := r0.out wz hcn
                have v1 := hga.out wz hcn
                have v2 := r1.out wz hcn
                rw [hp.out] at pN1
                rw [hall.out] at v2
                clear x0 x1 y0 pN0 hcq
                go_wp2
                go_roundw
                case rel => exact ⟨r.lines.length, t, hbl, rfl, rfl, Lib.hid (by rw [htx3.out, List.append_nil]), by omega, hcn⟩
                case measure => simp [intOf]; omega
              · have htx3 := Lib.hid (show uniqText (p.n == 1) r.all r.lines = t ++ (ds ++ [32] ++ l ++ [10]) ++ uniqText (p.n == 1) r.all (r.lines.drop r.lines.length) by rw [htx2, if_neg (by rw [hp]; simp), if_pos (.inr hall)])
                clear htx2
                replace hp := Lib.hid hp
                replace hall := Lib.hid hall
                go_wp2
                go_quiet (fail)
                have hcn := hcq.drewN nq
                generalize wr.drewN nq = wz at *
                have pN1 := pN.out wz hcn
                have v0 := r0.out wz hcn
                have v1 := hga.out wz hcn
                have v2 := r1.out wz hcn
                rw [hp.out] at pN1
                rw [hall.out] at v2
                clear x0 x1 y0 pN0 hcq
                have hSz := hS wz hcn
                go_wp2
                go_region_held3 (fun W => W.cell? ⟨gr, 0, none⟩ = some (.slice (some ⟨g3, o3, none⟩) r.lines.length c5) ∧ W.cell? ⟨g3, o3 + a, none⟩ = some (strv l) ∧ Chg (fun _ => False) w2 W)
                  (first
                    | exact hSz
                    | with_reducible exact hS _ hcn.drew
                    | with_reducible exact hS _ dX)
                  (first
                    | (go_at_call 50
                       refine (hdig.out _).mono ?_
                       rintro e7 w7 ⟨rfl, hc7⟩
                       have dX : Chg (fun _ => False) w2 w7 := hcn.drew.trans hc7 (fun _ h _ => h)))
                go_wp2
                go_roundw
                case rel => exact ⟨r.lines.length, y4, hbl, rfl, rfl, Lib.hid (by rw [htx3.out, e5.out]), l5, dX⟩
                case measure => simp [intOf]; omega
    · have hlt' : ¬ (a : Int) < (r.lines.length : Int) := by omega
      have hkn : a = r.lines.length := by omega
      have htx2 := htx.out
      rw [hkn, List.drop_of_length_le (Nat.le_refl _)] at htx2
      have ht : t = uniqText (p.n == 1) r.all r.lines := by rw [htx2]; simp [uniqText]
      have x1 := r1.out wr hch
      have x2 := r2.out wr hch
      have x3 := r3.out wr hch
      have x4 := r4.out wr hch
      have hcw := hc02.trans hch (fun _ h _ => h)
      replace htx2 := Lib.hid htx2
      replace ht := Lib.hid ht
      replace hkn := Lib.hid hkn
      go_wp2_with (first
        | (go_at_call 51
           refine (out_any t r.all r.code r.stage r.id _).mono ?_
           intro e8 w8 ho8
           obtain ⟨v8, rfl, h8, b8⟩ := ho8))
      go_ret
      rw [← ht.out]
      exact out_of ⟨_, rfl, h8, b8⟩ hcw.size hcw
end Go.Proofs.YtdhmlojodihjkaaDoor.Uniq
