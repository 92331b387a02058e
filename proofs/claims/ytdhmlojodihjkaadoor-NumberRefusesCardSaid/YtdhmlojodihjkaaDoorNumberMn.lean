/- penstockref11's Means: what the document says of number. -/
import Derived.Test.YtdhmlojodihjkaaDoorNumberK
import Derived.Test.YtdhmlojodihjkaaDoorCat3
import Derived.Test.YtdhmlojodihjkaaDoorDigits
import Derived.Test.YtdhmlojodihjkaaDoorRef4
import Derived.Test.YtdhmlojodihjkaaDoorRef4B
import Derived.Test.YtdhmlojodihjkaaDoorSame
namespace Go.Proofs.YtdhmlojodihjkaaDoor.Number
open Go Go.RowKit

def means (n : Int) (ins : List Strm) : List Strm := numMeans n (only ins)
theorem same_ok (p : Prm) (ins : List Strm) (h : fitI p ins) (hl : ∀ s ∈ ins, s.bs.length ≤ 10000) : SameOk (den p.n ins) ins (means p.n ins) := by
  have hn := fit_n h.1
  have e := only_of (fit_one h)
  have := hl (only ins) (by rw [e]; simp [only])
  have h2 := num_same p.n hn.1 hn.2.1 (only ins) (by omega)
  rw [← e] at h2
  exact h2
theorem means_len (p : Prm) (ins : List Strm) (_ : fitI p ins) : (means p.n ins).length ≤ 100 := by
  show (refOut _ _ _ _ _).length ≤ 100
  unfold refOut
  split <;> simp

theorem out_of {w w0 : World} {l : List Strm} {e : Ending} {w' : World} (h : OutPost w0 l e w') (hs : w.heap.size ≤ w0.heap.size) (hc : Chg (fun _ => False) w w0) : OutPost w l e w' := by
  obtain ⟨v, rfl, h1, h2⟩ := h
  exact ⟨v, rfl, h1.mono (fun k hk _ => by omega), (hc.below (Nat.le_refl _) (fun _ h => h.elim)).trans (h2.mono hs)⟩

set_option maxHeartbeats 4000000 in
set_option maxRecDepth 100000 in
theorem means_any (D : Nat → Prop) (p : Prm) (ins : List Strm) (hf : fitI p ins) (hl : ∀ s ∈ ins, s.bs.length ≤ 10000) (v : Value) (A : Option Addr) (ci : Nat) (w : World)
    (hv : PAt w D v p) (hins : StrmsAt w D (.slice A ins.length ci) ins) :
    Calls Tryd.prog 37 #[v, .slice A ins.length ci] w (OutPost w (means p.n ins)) := by
  have hn := fit_n hf.1
  have h1 := fit_one hf
  have hm : means p.n ins = numMeans p.n (only ins) := rfl
  rw [hm]
  obtain ⟨z0, g2, o2, A2, c2, rfl, hg2, hD2, q0, q1, q2, q3, q4, hr2, hc2⟩ := hins.at_ (k := 0) (by omega)
  have hs0 : (ins[0]'(by omega)) = only ins := by
    obtain ⟨s, rfl⟩ := List.length_eq_one_iff.1 h1
    rfl
  have hlo := hl (only ins) (by rw [← hs0]; exact List.getElem_mem _)
  rw [hs0] at q0 q1 q2 q3 q4 hr2 hc2
  simp only [Nat.zero_mul, Nat.add_zero] at q0 q1 q2 q3 q4
  obtain ⟨N, hN⟩ : ∃ N : Nat, p.n = N := ⟨p.n.toNat, by omega⟩
  have hN2 : N ≤ 1000000000 := by omega
  obtain ⟨A1, ca, B1, cb, rfl, _, _⟩ := hv
  have hst : Blk (w.alloc (.cells #[.int .i64 p.kind, .int .i64 p.n, .slice A1 p.a.length ca, .slice B1 p.b.length cb] 24)) w.heap.size 24 #[.int .i64 p.kind, .int .i64 p.n, .slice A1 p.a.length ca, .slice B1 p.b.length cb] := Blk.new _ _ _
  have hch0 : Chg (fun _ => False) w (w.alloc (.cells #[.int .i64 p.kind, .int .i64 p.n, .slice A1 p.a.length ca, .slice B1 p.b.length cb] 24)) := (Chg.refl _ _).alloc _
  generalize only ins = s at *
  rw [h1]
  have hsat := (show SAt (w.alloc (.cells #[.int .i64 p.kind, .int .i64 p.n, .slice A1 p.a.length ca, .slice B1 p.b.length cb] 24)) D _ s from ⟨A2, c2, rfl, hr2.chg hch0 (fun _ _ _ h => h), hc2⟩)
  have hli := lines_any D s _ _ hsat (by omega)
  have hlen := refLines_sum s
  have hl64 := refLines_len s
  have hmm : numMeans p.n s = refOut (numText N (refLines s).lines) (refLines s).all (refLines s).code (refLines s).stage (refLines s).id := by unfold numMeans; rw [hN]
  rw [hmm]
  generalize refLines s = r at *
  have hlen2 : r.lines.length ≤ 10000 := by omega
  have hl64 := Lib.hid hl64
  replace hN := Lib.hid hN
  replace hli := Lib.hid hli
  clear hins hf hl h1 hs0 hm z0 hr2 hn hlen hmm hsat
  go_enter Tryd.func37, Tryd.ntmps37
  go_wp2_with (first
    | (go_at_call 49
       refine hli.out.mono ?_
       rintro e1 w1 ⟨v1, rfl, hown1, hb1⟩
       have hb1' : Chg (fun _ => False) (w.alloc (.cells #[.int .i64 p.kind, .int .i64 p.n, .slice A1 p.a.length ca, .slice B1 p.b.length cb] 24)) w1 := Chg.of_below hb1
       obtain ⟨A5, c5, rfl, hrd1⟩ := own_rd hown1))
  have hsz1 := hb1.size
  simp only [World.size_alloc] at hsz1
  have hR : Blk (w1.alloc (.cells #[.slice A5 r.lines.length c5, .bool r.all, .int .i64 r.code, .int .i64 r.stage, .int .i64 r.id] 100)) w1.heap.size 100 #[.slice A5 r.lines.length c5, .bool r.all, .int .i64 r.code, .int .i64 r.stage, .int .i64 r.id] := Blk.new _ _ _
  have hP := (hst.chg hb1' (fun h => h)).alloc (.cells #[.slice A5 r.lines.length c5, .bool r.all, .int .i64 r.code, .int .i64 r.stage, .int .i64 r.id] 100)
  have hL := (hrd1.mono (D' := fun _ => True) (fun _ _ _ => trivial)).chg ((Chg.refl (fun _ => False) w1).alloc (.cells #[.slice A5 r.lines.length c5, .bool r.all, .int .i64 r.code, .int .i64 r.stage, .int .i64 r.id] 100)) (fun _ _ _ h => h)
  have hc02 : Chg (fun _ => False) w (w1.alloc (.cells #[.slice A5 r.lines.length c5, .bool r.all, .int .i64 r.code, .int .i64 r.stage, .int .i64 r.id] 100)) := (hch0.trans hb1' (fun _ h _ => h)).alloc _
  clear hst hown1 hrd1 hb1 hb1' hch0 q0 q1 q2 q3 q4
  generalize hgr : w1.heap.size = gr at *
  generalize w1.alloc (.cells #[.slice A5 r.lines.length c5, .bool r.all, .int .i64 r.code, .int .i64 r.stage, .int .i64 r.id] 100) = w2 at *
  replace hgr := Lib.hid hgr
  have hPl := hP.lt
  have hRl := hR.lt
  have pN : w2.cell? ⟨w.heap.size, 1, none⟩ = some (.int .i64 N) := (hP.cell 1).trans (by rw [← hN.out]; rfl)
  have r0 : w2.cell? ⟨gr, 0, none⟩ = some (.slice A5 r.lines.length c5) := (hR.cell 0).trans rfl
  have r1 : w2.cell? ⟨gr, 1, none⟩ = some (.bool r.all) := (hR.cell 1).trans rfl
  have r2 : w2.cell? ⟨gr, 2, none⟩ = some (.int .i64 r.code) := (hR.cell 2).trans rfl
  have r3 : w2.cell? ⟨gr, 3, none⟩ = some (.int .i64 r.stage) := (hR.cell 3).trans rfl
  have r4 : w2.cell? ⟨gr, 4, none⟩ = some (.int .i64 r.id) := (hR.cell 4).trans rfl
  clear hP hR
  go_loopw [7, 6] (fun i t wr => ∃ k : Nat, k ≤ r.lines.length ∧ i = .int .i64 k ∧ t = strv (numText N (r.lines.take k)) ∧ Chg (fun _ => False) w2 wr) (fun i _ _ => r.lines.length - (intOf i).toNat)
  case atStart => exact ⟨0, by omega, rfl, by simp [numText], Chg.refl _ _⟩
  case round =>
    obtain ⟨k, hk, rfl, rfl, hch⟩ := hrel
    have x0 : wr.cell? ⟨gr, 0, none⟩ = some (.slice A5 r.lines.length c5) := (hch.cell (p := ⟨gr, 0, none⟩) hRl (fun h => h)).trans r0
    by_cases hlt : k < r.lines.length
    · have hlt' : (k : Int) < (r.lines.length : Int) := by omega
      have hk0 : (0 : Int) ≤ (k : Int) := by omega
      obtain ⟨g3, o3, u, rfl, hg3, _, hu, hcell⟩ := hL.at_ hlt
      rw [List.getElem?_map, List.getElem?_eq_getElem hlt] at hu
      simp only [Option.map_some, Option.some.injEq] at hu
      subst hu
      have hsn := numText_snoc (r.lines.take k) r.lines[k] (N : Int)
      have htl : (r.lines.take k).length = k := by simp; omega
      rw [← List.take_succ_eq_append_getElem hlt, htl] at hsn
      have hln := numText_len (r.lines.take k) (fun x hx => hl64.out x (List.mem_of_mem_take hx)) (N : Int) (by omega) (by rw [htl]; omega)
      rw [htl] at hln
      have h64 := hl64.out _ (List.getElem_mem hlt)
      have hni : nPiece ((N : Int) + (k : Int)) r.lines[k] = Lib.decDigits (N + k) ++ [32] ++ r.lines[k] ++ [10] := by
        unfold nPiece
        rw [show ((N : Int) + (k : Int)) = ((N + k : Nat) : Int) by omega, Lib.itoa_nonneg]
      rw [hni] at hsn
      have hdl : (Lib.decDigits (N + k)).length ≤ 20 := by rw [Lib.decDigits_length]; exact Lib.nDigits_le20 _ (by omega)
      have hdig := fun W => digits_any (N + k) (by omega) W
      unfold DigPost at hdig
      generalize r.lines[k] = x at *
      generalize numText N (r.lines.take k) = t at *
      generalize Lib.decDigits (N + k) = ds at *
      have c1 := fun W => run_cat3 t ds (by omega) (by omega) W
      have c2' := fun W => run_cat3 (t ++ ds) [32] (by simp; omega) (by simp) W
      have c3 := fun W => run_cat3 (t ++ ds ++ [32]) x (by simp; omega) (by omega) W
      have c4 := fun W => run_cat3 (t ++ ds ++ [32] ++ x) [10] (by simp; omega) (by simp) W
      have e5 : t ++ (ds ++ [32] ++ x ++ [10]) = t ++ ds ++ [32] ++ x ++ [10] := by simp
      rw [e5] at hsn
      generalize hy4 : t ++ ds ++ [32] ++ x ++ [10] = y4 at *
      generalize hy3 : t ++ ds ++ [32] ++ x = y3 at *
      generalize hy2 : t ++ ds ++ [32] = y2 at *
      generalize hy1 : t ++ ds = y1 at *
      have hw1 : IntKind.i64.wrap ((N : Int) + (k : Int)) = ((N + k : Nat) : Int) := by
        rw [show ((N : Int) + (k : Int)) = ((N + k : Nat) : Int) by omega]; exact wrap_small 0 _ (by omega)
      have hq : ∀ W, Chg (fun _ => False) w2 W → W.cell? ⟨w.heap.size, 1, none⟩ = some (.int .i64 N) ∧ W.cell? ⟨gr, 0, none⟩ = some (.slice (some ⟨g3, o3, none⟩) r.lines.length c5) ∧ W.cell? ⟨g3, o3 + k, none⟩ = some (strv x) ∧ Chg (fun _ => False) w2 W := fun W hW =>
        ⟨(hW.cell (p := ⟨w.heap.size, 1, none⟩) hPl (fun h => h)).trans pN, (hW.cell (p := ⟨gr, 0, none⟩) hRl (fun h => h)).trans r0, (hW.cell (p := ⟨g3, o3 + k, none⟩) hg3 (fun h => h)).trans hcell, hW⟩
      have hSq := hq wr hch
      replace hsn := Lib.hid hsn
      replace hdig := Lib.hid hdig
      replace hy1 := Lib.hid hy1
      replace hy2 := Lib.hid hy2
      replace hy3 := Lib.hid hy3
      replace hy4 := Lib.hid hy4
      clear hni e5 htl hL
      go_wp2
      go_region_held3 (fun W => W.cell? ⟨w.heap.size, 1, none⟩ = some (.int .i64 N) ∧ W.cell? ⟨gr, 0, none⟩ = some (.slice (some ⟨g3, o3, none⟩) r.lines.length c5) ∧ W.cell? ⟨g3, o3 + k, none⟩ = some (strv x) ∧ Chg (fun _ => False) w2 W)
        (first
          | exact hSq
          | with_reducible exact hq _ hch.drew
          | with_reducible exact hq _ dX)
        (first
          | (go_at_call 50
             refine (hdig.out _).mono ?_
             rintro e7 w7 ⟨rfl, hc7⟩
             have dX : Chg (fun _ => False) w2 w7 := hch.drew.trans hc7 (fun _ h _ => h)))
      go_wp2
      go_roundw
      case rel => exact ⟨k + 1, by omega, by go_num, by rw [hsn.out], dX⟩
      case measure => simp [intOf]; omega
    · have hlt' : ¬ (k : Int) < (r.lines.length : Int) := by omega
      have hkn : k = r.lines.length := by omega
      subst hkn
      rw [List.take_of_length_le (Nat.le_refl _)]
      have x1 : wr.cell? ⟨gr, 1, none⟩ = some (.bool r.all) := (hch.cell (p := ⟨gr, 1, none⟩) hRl (fun h => h)).trans r1
      have x2 : wr.cell? ⟨gr, 2, none⟩ = some (.int .i64 r.code) := (hch.cell (p := ⟨gr, 2, none⟩) hRl (fun h => h)).trans r2
      have x3 : wr.cell? ⟨gr, 3, none⟩ = some (.int .i64 r.stage) := (hch.cell (p := ⟨gr, 3, none⟩) hRl (fun h => h)).trans r3
      have x4 : wr.cell? ⟨gr, 4, none⟩ = some (.int .i64 r.id) := (hch.cell (p := ⟨gr, 4, none⟩) hRl (fun h => h)).trans r4
      have hcw := hc02.trans hch (fun _ h _ => h)
      go_wp2_with (first
        | (go_at_call 51
           refine (out_any (numText N r.lines) r.all r.code r.stage r.id _).mono ?_
           intro e8 w8 ho8
           obtain ⟨v8, rfl, h8, b8⟩ := ho8))
      go_ret
      exact out_of ⟨_, rfl, h8, b8⟩ hcw.size hcw
end Go.Proofs.YtdhmlojodihjkaaDoor.Number
