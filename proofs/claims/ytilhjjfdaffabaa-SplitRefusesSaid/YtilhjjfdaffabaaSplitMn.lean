/- penstockref16's Means: what the document says of split. -/
import Derived.Test.YtilhjjfdaffabaaSplitK
import Derived.Test.YtilhjjfdaffabaaRef4
import Derived.Test.YtilhjjfdaffabaaRef4B
import Derived.Test.YtilhjjfdaffabaaSame
import Derived.Test.YtilhjjfdaffabaaCat4
import Derived.Test.YtilhjjfdaffabaaLit
namespace Go.Proofs.Ytilhjjfdaffabaa.Split
open Go Go.RowKit

def means (n : Int) (ins : List Strm) : List Strm := turnMeans n.toNat (only ins)
theorem same_ok (p : Prm) (ins : List Strm) (h : fitI p ins) (_ : ∀ s ∈ ins, s.bs.length ≤ 10000) : SameOk (den p.n ins) ins (means p.n ins) := by
  have hn := fit_n h.1
  have h2 := turn_same p.n.toNat (by omega) (by omega) (only ins)
  rw [← only_of (fit_one h)] at h2
  exact h2
theorem means_len (p : Prm) (ins : List Strm) (h : fitI p ins) : (means p.n ins).length ≤ 100 := by
  have hn := fit_n h.1
  have := (turnMeans_get (only ins) p.n.toNat p.n.toNat (Nat.le_refl _)).1
  show (turnMeans p.n.toNat (only ins)).length ≤ 100
  unfold turnMeans
  omega

def pre (r : RdL) (n m : Nat) : List Strm := (List.range m).flatMap fun k => refOut (evr n (r.lines.drop k)) r.all r.code r.stage r.id
theorem pre_succ (r : RdL) (n m : Nat) : pre r n (m + 1) = pre r n m ++ refOut (evr n (r.lines.drop m)) r.all r.code r.stage r.id := by
  unfold pre
  rw [List.range_succ, List.flatMap_append]; simp
theorem pre_len (r : RdL) (n m : Nat) : (pre r n m).length = m := by
  induction m with
  | zero => rfl
  | succ m ih =>
    obtain ⟨x, hx, _⟩ := refOut_one (evr n (r.lines.drop m)) r.all r.code r.stage r.id
    rw [pre_succ, List.length_append, ih, hx]; rfl
theorem evr_len (n : Nat) : ∀ (m : Nat) (ls : List Bs), ls.length ≤ m → (∀ l ∈ ls, l.length ≤ 64) → (evr n ls).length ≤ 65 * ls.length := by
  intro m
  induction m with
  | zero =>
    intro ls h _
    obtain rfl : ls = [] := List.length_eq_zero_iff.1 (by omega)
    rw [evr_nil]; simp
  | succ m ih =>
    intro ls h hl
    cases ls with
    | nil => rw [evr_nil]; simp
    | cons l r =>
      rw [List.length_cons] at h
      have h1 := ih (r.drop (n - 1)) (by simp; omega) (fun x hx => hl x (by simp [List.mem_of_mem_drop hx]))
      have h2 := hl l (by simp)
      rw [List.length_drop] at h1
      rw [evr_cons]
      simp
      omega

theorem info_strm : (Try.prog.info? 61).map (fun i => (i.zero, i.size, i.bytes)) = some (some (.agg #[.slice none 0 0, .bool false, .int .i64 0, .int .i64 0, .int .i64 0]), 5, 56) := by kernel_rfl

def StRow (b : Nat) (r : RdL) (n m : Nat) (v : Value) (wr : World) : Prop :=
  ∃ its : List (Strm × Value), pre r n m = its.map (fun t => t.1) ∧ wr.ownsRow b 61 5 v m (its.flatMap strmC) ∧
    ∀ t ∈ its, BsAt wr (fun j => b ≤ j ∧ v.ownBlock ≠ some j) t.2 t.1.bs ∧ CapOk t.2

set_option maxHeartbeats 4000000 in
set_option maxRecDepth 100000 in
theorem means_any (D : Nat → Prop) (p : Prm) (ins : List Strm) (hf : fitI p ins) (hl : ∀ s ∈ ins, s.bs.length ≤ 10000) (v : Value) (A : Option Addr) (ci : Nat) (w : World)
    (hv : PAt w D v p) (hins : StrmsAt w D (.slice A ins.length ci) ins) :
    Calls Try.prog 19 #[v, .slice A ins.length ci] w (OutPost w (means p.n ins)) := by
  obtain ⟨i0, hi0, iz0, iz1, iz2⟩ := info_parts info_strm
  have hn := fit_n hf.1
  have h1 := fit_one hf
  have hm : means p.n ins = turnMeans p.n.toNat (only ins) := rfl
  rw [hm]
  obtain ⟨z0, g2, o2, A2, c2, rfl, hg2, hD2, q0, q1, q2, q3, q4, hr2, hc2⟩ := hins.at_ (k := 0) (by omega)
  have hs0 : (ins[0]'(by omega)) = only ins := by
    obtain ⟨s, rfl⟩ := List.length_eq_one_iff.1 h1
    rfl
  have hlo := hl (only ins) (by rw [← hs0]; exact List.getElem_mem _)
  rw [hs0] at q0 q1 q2 q3 q4 hr2 hc2
  simp only [Nat.zero_mul, Nat.add_zero] at q0 q1 q2 q3 q4
  obtain ⟨N, hN⟩ : ∃ N : Nat, p.n = N := ⟨p.n.toNat, by omega⟩
  have hN4 : N ≤ 4 := by omega
  have hN1 : 1 ≤ N := by omega
  obtain ⟨A1, ca, B1, cb, rfl, _, _⟩ := hv
  have hst : Blk (w.alloc (.cells #[.int .i64 p.kind, .int .i64 p.n, .slice A1 p.a.length ca, .slice B1 p.b.length cb] 24)) w.heap.size 24 #[.int .i64 p.kind, .int .i64 p.n, .slice A1 p.a.length ca, .slice B1 p.b.length cb] := Blk.new _ _ _
  have hch0 : Chg (fun _ => False) w (w.alloc (.cells #[.int .i64 p.kind, .int .i64 p.n, .slice A1 p.a.length ca, .slice B1 p.b.length cb] 24)) := (Chg.refl _ _).alloc _
  generalize only ins = s at *
  rw [h1]
  have hsat := (show SAt (w.alloc (.cells #[.int .i64 p.kind, .int .i64 p.n, .slice A1 p.a.length ca, .slice B1 p.b.length cb] 24)) D _ s from ⟨A2, c2, rfl, hr2.chg hch0 (fun _ _ _ h => h), hc2⟩)
  have hli := lines_any D s _ _ hsat (by omega)
  have hlen := refLines_sum s
  have hl64 := refLines_len s
  have hmm : turnMeans p.n.toNat s = pre (refLines s) N N := by rw [show p.n.toNat = N by omega]; rfl
  rw [hmm]
  generalize refLines s = r at *
  have hlen2 : r.lines.length ≤ 10000 := by omega
  have hel := fun k => evr_len N _ (r.lines.drop k) (Nat.le_refl _) (fun x hx => hl64 x (List.mem_of_mem_drop hx))
  have hl64 := Lib.hid hl64
  replace hel := Lib.hid hel
  replace hN := Lib.hid hN
  replace hli := Lib.hid hli
  clear hins hf hl h1 hs0 hm z0 hr2 hn hlen hmm hsat
  go_enter Try.func19, Try.ntmps19
  go_wp2_with (first
    | (go_at_call 33
       refine hli.out.mono ?_
       rintro e1 w1 ⟨v1, rfl, hown1, hb1⟩
       have hb1' : Chg (fun _ => False) (w.alloc (.cells #[.int .i64 p.kind, .int .i64 p.n, .slice A1 p.a.length ca, .slice B1 p.b.length cb] 24)) w1 := Chg.of_below hb1
       obtain ⟨A5, c5, rfl, hrd1⟩ := own_rd hown1))
  have hsz1 := hb1.size
  simp only [World.size_alloc] at hsz1
  have hR : Blk (w1.alloc (.cells #[.slice A5 r.lines.length c5, .bool r.all, .int .i64 r.code, .int .i64 r.stage, .int .i64 r.id] 96)) w1.heap.size 96 #[.slice A5 r.lines.length c5, .bool r.all, .int .i64 r.code, .int .i64 r.stage, .int .i64 r.id] := Blk.new _ _ _
  have hP := (hst.chg hb1' (fun h => h)).alloc (.cells #[.slice A5 r.lines.length c5, .bool r.all, .int .i64 r.code, .int .i64 r.stage, .int .i64 r.id] 96)
  have hL := (hrd1.mono (D' := fun _ => True) (fun _ _ _ => trivial)).chg ((Chg.refl (fun _ => False) w1).alloc (.cells #[.slice A5 r.lines.length c5, .bool r.all, .int .i64 r.code, .int .i64 r.stage, .int .i64 r.id] 96)) (fun _ _ _ h => h)
  have hc02 : Chg (fun _ => False) w (w1.alloc (.cells #[.slice A5 r.lines.length c5, .bool r.all, .int .i64 r.code, .int .i64 r.stage, .int .i64 r.id] 96)) := (hch0.trans hb1' (fun _ h _ => h)).alloc _
  clear hst hown1 hrd1 hb1 hb1' hch0 q0 q1 q2 q3 q4
  generalize hgr : w1.heap.size = gr at *
  generalize w1.alloc (.cells #[.slice A5 r.lines.length c5, .bool r.all, .int .i64 r.code, .int .i64 r.stage, .int .i64 r.id] 96) = w2 at *
  replace hgr := Lib.hid hgr
  have hPl := hP.lt
  have hRl := hR.lt
  have pN : w2.cell? ⟨w.heap.size, 1, none⟩ = some (.int .i64 N) := (hP.cell 1).trans (by rw [← hN.out]; rfl)
  have r0 : w2.cell? ⟨gr, 0, none⟩ = some (.slice A5 r.lines.length c5) := (hR.cell 0).trans rfl
  have r1 : w2.cell? ⟨gr, 1, none⟩ = some (.bool r.all) := (hR.cell 1).trans rfl
  have r2 : w2.cell? ⟨gr, 2, none⟩ = some (.int .i64 r.code) := (hR.cell 2).trans rfl
  have r3 : w2.cell? ⟨gr, 3, none⟩ = some (.int .i64 r.stage) := (hR.cell 3).trans rfl
  have r4 : w2.cell? ⟨gr, 4, none⟩ = some (.int .i64 r.id) := (hR.cell 4).trans rfl
  clear hP hR
  have hw2 := hc02.size
  have hcs : ∀ W, Chg (fun _ => False) w2 W → W.cell? ⟨w.heap.size, 1, none⟩ = some (.int .i64 N) ∧ W.cell? ⟨gr, 0, none⟩ = some (.slice A5 r.lines.length c5) ∧ W.cell? ⟨gr, 1, none⟩ = some (.bool r.all) ∧ W.cell? ⟨gr, 2, none⟩ = some (.int .i64 r.code) ∧ W.cell? ⟨gr, 3, none⟩ = some (.int .i64 r.stage) ∧ W.cell? ⟨gr, 4, none⟩ = some (.int .i64 r.id) := fun W hW =>
    ⟨(hW.cell (p := ⟨w.heap.size, 1, none⟩) hPl (fun h => h)).trans pN, (hW.cell (p := ⟨gr, 0, none⟩) hRl (fun h => h)).trans r0, (hW.cell (p := ⟨gr, 1, none⟩) hRl (fun h => h)).trans r1, (hW.cell (p := ⟨gr, 2, none⟩) hRl (fun h => h)).trans r2, (hW.cell (p := ⟨gr, 3, none⟩) hRl (fun h => h)).trans r3, (hW.cell (p := ⟨gr, 4, none⟩) hRl (fun h => h)).trans r4⟩
  replace hcs := Lib.hid hcs
  clear pN r0 r1 r2 r3 r4
  go_loopw [7, 6] (fun i v wr => ∃ k : Nat, k ≤ N ∧ i = .int .i64 k ∧ Chg (fun _ => False) w2 wr ∧ StRow w2.heap.size r N k v wr) (fun i _ _ => N - (intOf i).toNat)
  case atStart => exact ⟨0, by omega, rfl, Chg.refl _ _, [], rfl, by simpa using World.ownsRow_nil _ _ _ _, fun _ h => by cases h⟩
  case round =>
    obtain ⟨k, hk, rfl, hch, its, hits, hown, hbs⟩ := hrel
    obtain ⟨x0, x1, x2, x3, x4, x5⟩ := hcs.out wr hch
    by_cases hlt : k < N
    · have hlt' : (k : Int) < (N : Int) := by omega
      have hk0 : (0 : Int) ≤ (k : Int) := by omega
      replace hits := Lib.hid hits
      obtain ⟨wo, rfl⟩ : ∃ wo, wo = wr := ⟨wr, rfl⟩
      go_wp2
      go_loopw [9, 8] (fun i t wq => ∃ (q : Nat) (x : Bs), q ≤ r.lines.length + 4 ∧ i = .int .i64 q ∧ t = strv x ∧ x ++ evr N (r.lines.drop q) = evr N (r.lines.drop k) ∧ Chg (fun _ => False) wo wq) (fun i _ _ => r.lines.length + 4 - (intOf i).toNat)
      case atStart => exact ⟨k, [], by omega, rfl, rfl, rfl, Chg.refl _ _⟩
      case round =>
        obtain ⟨q, x, hq, rfl, rfl, hx, hch2⟩ := hrel
        have hcq := hch.trans hch2 (fun _ h _ => h)
        obtain ⟨y0, y1, y2, y3, y4, y5⟩ := hcs.out wr hcq
        have hxl : x.length ≤ 1000000 := by
          have h1 := hel.out k
          have h2 : (x ++ evr N (r.lines.drop q)).length = (evr N (r.lines.drop k)).length := by rw [hx]
          rw [List.length_append] at h2
          rw [List.length_drop] at h1
          omega
        by_cases hql : q < r.lines.length
        · have hql' : (q : Int) < (r.lines.length : Int) := by omega
          have hq0 : (0 : Int) ≤ (q : Int) := by omega
          obtain ⟨g3, o3, u, rfl, hg3, _, hu, hcell⟩ := (hL.chg hcq (fun _ _ _ h => h)).at_ hql
          rw [List.getElem?_map, List.getElem?_eq_getElem hql] at hu
          simp only [Option.map_some, Option.some.injEq] at hu
          subst hu
          have h64 := hl64.out _ (List.getElem_mem hql)
          rw [evr_drop N hN1 _ q hql] at hx
          generalize r.lines[q] = y at *
          have c1 := fun W => run_cat4 x y (by omega) (by omega) W
          have c2 := fun W => run_cat4 (x ++ y) [10] (by simp; omega) (by simp) W
          generalize hy2 : x ++ y ++ [10] = y2 at *
          generalize hy1 : x ++ y = y1 at *
          have hx2 : y2 ++ evr N (r.lines.drop (q + N)) = evr N (r.lines.drop k) := by rw [← hx, ← hy2, ← hy1]; simp
          replace hx := Lib.hid hx
          replace hx2 := Lib.hid hx2
          replace hy1 := Lib.hid hy1
          replace hy2 := Lib.hid hy2
          go_wp2
          go_roundw
          case rel => exact ⟨q + N, y2, by omega, by go_num, rfl, hx2.out, hch2⟩
          case measure => simp [intOf]; omega
        · have hql' : ¬ (q : Int) < (r.lines.length : Int) := by omega
          rw [evr_end N _ q (by omega), List.append_nil] at hx
          replace hx := Lib.hid hx
          have hs2 := hcq.size
          have hd0 := hch2
          go_wp2_with (first
            | (go_at_call 34
               refine (out_any x r.all r.code r.stage r.id _).mono ?_
               intro e7 w7 ho7
               obtain ⟨v7, rfl, hs7, hb7⟩ := ho7
               obtain ⟨z, hz, hzb, hze, hzc⟩ := refOut_one x r.all r.code r.stage r.id
               rw [hz] at hs7
               have hs1 := hb7.size
               obtain ⟨A7, c7, hv7⟩ : ∃ A7 c7, v7 = .slice A7 1 c7 := by
                 obtain ⟨A7, c7, _, h, _⟩ := hs7
                 exact ⟨A7, c7, h⟩
               subst hv7
               obtain ⟨z9, g7, o7, A8, c8, hA7, hg7, hD7, t0, t1, t2, t3, t4, hr8, hc8⟩ := hs7.at_ (k := 0) (by simp)
               subst hA7
               clear z9
               simp only [Nat.zero_mul, Nat.add_zero, List.getElem_cons_zero] at t0 t1 t2 t3 t4 hr8 hc8
               have hd7 : Chg (fun _ => False) wo w7 := hch2.trans (Chg.of_below (S := fun _ => False) hb7) (fun _ h _ => h)
               clear hzb hze hzc hs7
               replace hz := Lib.hid hz)
            | (at_builtin
               refine wpList_append_own_at _ rfl (.tmp 45) (.tmp 49) 36 rfl w2.heap.size 61 i0 _ 5 56 Try.underlying36 hi0 iz0 iz1 iz2 rfl (by omega) u6 k (its.flatMap strmC) rfl ((ownsRow_chg hown hd7 (fun _ _ h => h)).alloc _) ⟨w7.heap.size, 0, none⟩ 1 1 [.slice A8 z.bs.length c8, .bool z.ended, .int .i64 z.code, .int .i64 z.stage, .int .i64 z.id] rfl rfl (World.news_of_block (cs := #[.slice A8 z.bs.length c8, .bool z.ended, .int .i64 z.code, .int .i64 z.stage, .int .i64 z.id]) (t := 61) (fr := (0, 0)) (heap_alloc_new w7 _)) (by simp [Value.oneCell']) (by simp only [maxLen]; omega) (by omega) (by simp; omega) ?_
               intro v2 w2' hown2 hg2' hv2 hat2))
          go_roundw
          case rel =>
            have hug : ∀ j, u6.ownBlock = some j → w2.heap.size ≤ j ∧ j < wo.heap.size := fun j e => ⟨(hown.lt j e).1, (hown.lt j e).2⟩
            have hsw := hd7.size
            have hc1 : Chg (fun _ => False) wo (w7.alloc (.cells #[.slice A8 z.bs.length c8, .bool z.ended, .int .i64 z.code, .int .i64 z.stage, .int .i64 z.id] 61)) := hd7.alloc _
            have hc2 : Chg (fun j => u6.ownBlock = some j) (w7.alloc (.cells #[.slice A8 z.bs.length c8, .bool z.ended, .int .i64 z.code, .int .i64 z.stage, .int .i64 z.id] 61)) w2' := (Chg.refl _ _).grown hg2' (fun j e => .inl e)
            have hsz : (w7.alloc (.cells #[.slice A8 z.bs.length c8, .bool z.ended, .int .i64 z.code, .int .i64 z.stage, .int .i64 z.id] 61)).heap.size = w7.heap.size + 1 := by simp
            have hnew : ∀ j, v2.ownBlock = some j → u6.ownBlock = some j ∨ j = w7.heap.size + 1 := fun j e => by
              rcases hat2 with h | h
              · exact .inl (h.symm.trans e)
              · exact .inr (by rw [h] at e; injection e with e; rw [← e, hsz])
            refine ⟨k + 1, by omega, by go_num, (hch.trans hc1 (fun _ h _ => h)).trans hc2 (fun y hy hlt => by have := (hug y hy).1; omega), its ++ [(z, .slice A8 z.bs.length c8)], ?_, ?_, ?_⟩
            · rw [pre_succ, hits.out, ← hx.out, hz.out]; simp
            · simpa [strmC] using hown2
            · intro t ht
              rcases List.mem_append.1 ht with ht | ht
              · refine ⟨?_, (hbs t ht).2⟩
                have h1 := ((hbs t ht).1.mono (D' := fun j => w2.heap.size ≤ j ∧ u6.ownBlock ≠ some j ∧ j < wo.heap.size) (fun j hj hlt => ⟨hj.1, hj.2, hlt⟩)).chg hc1 (fun _ _ _ h => h)
                refine (h1.chg hc2 (fun j hj _ e => hj.2.1 e)).mono (fun j hj _ => ⟨hj.1, fun e => ?_⟩)
                rcases hnew j e with h | h
                · exact hj.2.1 h
                · have := hj.2.2; omega
              · simp at ht
                subst ht
                refine ⟨?_, capOk_slice hc8⟩
                have hs3 := hch2.size
                have h0 : BsAt w7 (fun j => wr.heap.size ≤ j) (.slice A8 z.bs.length c8) z.bs := ⟨A8, c8, rfl, hr8⟩
                have h1 := ((h0.mono (D' := fun j => wr.heap.size ≤ j ∧ j < w7.heap.size) (fun j hj hlt => ⟨hj, hlt⟩)).chg ((Chg.refl (fun _ => False) w7).alloc (.cells #[.slice A8 z.bs.length c8, .bool z.ended, .int .i64 z.code, .int .i64 z.stage, .int .i64 z.id] 61)) (fun _ _ _ h => h))
                refine (h1.chg hc2 (fun j hj _ e => by have := (hug j e).2; omega)).mono (fun j hj _ => ⟨by omega, fun e => ?_⟩)
                rcases hnew j e with h | h
                · have := (hug j h).2; omega
                · omega
          case measure => simp [intOf]; omega
    · have hlt' : ¬ (k : Int) < (N : Int) := by omega
      have hkn : k = N := by omega
      subst hkn
      have hbo : ∀ t ∈ its, BsAt wr (fun j => w.heap.size ≤ j) t.2 t.1.bs ∧ CapOk t.2 := fun t ht => ⟨(hbs t ht).1.mono (fun j hj _ => by have := hj.1; omega), (hbs t ht).2⟩
      obtain ⟨A9, c9, rfl, hrd⟩ := own_rd hown
      replace hits := Lib.hid hits
      replace hbo := Lib.hid hbo
      clear hbs
      go_wp2
      go_ret
      have el := pre_len r k k
      exact ⟨_, rfl, ⟨A9, c9, its, by rw [el]; rfl, hits.out, by rw [el]; exact hrd.mono (fun j hj _ => by have : w2.heap.size ≤ j := hj; omega), hbo.out⟩, (hc02.trans hch (fun _ h _ => h)).below (Nat.le_refl _) (fun _ h => h.elim)⟩
end Go.Proofs.Ytilhjjfdaffabaa.Split
