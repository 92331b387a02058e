/- penstockref15's Means: what the document says of tee. -/
import Derived.Test.YtdhmlojodihjkaaTeeK
import Derived.Test.YtdhmlojodihjkaaRef4B
import Derived.Test.YtdhmlojodihjkaaSame
import Derived.Test.YtdhmlojodihjkaaCat
import Derived.Test.YtdhmlojodihjkaaLit
namespace Go.Proofs.Ytdhmlojodihjkaa.Tee
open Go Go.RowKit

def means (n : Int) (ins : List Strm) : List Strm := teeMeans n.toNat (only ins)
theorem same_ok (p : Prm) (ins : List Strm) (h : fitI p ins) (_ : ∀ s ∈ ins, s.bs.length ≤ 10000) : SameOk (den p.n ins) ins (means p.n ins) := by
  have hn := fit_n h.1
  have h2 := tee_same p.n.toNat (by omega) (only ins)
  rw [← only_of (fit_one h)] at h2
  exact h2
theorem means_one (s : Strm) (n : Nat) : teeMeans (n + 1) s = teeMeans n s ++ refOut s.bs s.ended s.code s.stage s.id := by
  unfold teeMeans
  rw [List.range_succ, List.flatMap_append]; simp
theorem means_len' (s : Strm) (n : Nat) : (teeMeans n s).length = n := by
  induction n with
  | zero => rfl
  | succ n ih =>
    obtain ⟨x, hx, _⟩ := refOut_one s.bs s.ended s.code s.stage s.id
    rw [means_one, List.length_append, ih, hx]; rfl
theorem means_len (p : Prm) (ins : List Strm) (h : fitI p ins) : (means p.n ins).length ≤ 100 := by
  have hn := fit_n h.1
  unfold means
  rw [means_len']
  omega

theorem info_strm : (Try.prog.info? 61).map (fun i => (i.zero, i.size, i.bytes)) = some (some (.agg #[.slice none 0 0, .bool false, .int .i64 0, .int .i64 0, .int .i64 0]), 5, 56) := by kernel_rfl

/-- A row of api.Streams is no api.Params. -/
theorem own_not {w : World} {g base : Nat} {cs : Array Value} {v : Value} {n : Nat} {xs : List Value} (hb : Blk w g 24 cs) (ho : w.ownsRow base 61 5 v n xs) (e : v.ownBlock = some g) : False := by
  rcases ho.2 with ⟨rfl, _⟩ | ⟨k, cap, cur, rfl, _, hh, _⟩
  · simp [Value.ownBlock] at e
  · simp [Value.ownBlock] at e
    subst e
    unfold Blk at hb
    rw [hb] at hh
    simp at hh

def StRow (w : World) (n : Nat) (s : Strm) (v : Value) (wr : World) : Prop :=
  ∃ its : List (Strm × Value), teeMeans n s = its.map (fun t => t.1) ∧ wr.ownsRow w.heap.size 61 5 v n (its.flatMap strmC) ∧
    ∀ t ∈ its, BsAt wr (fun j => w.heap.size ≤ j ∧ v.ownBlock ≠ some j) t.2 t.1.bs ∧ CapOk t.2

set_option maxHeartbeats 4000000 in
set_option maxRecDepth 100000 in
theorem means_any (D : Nat → Prop) (p : Prm) (ins : List Strm) (hf : fitI p ins) (hl : ∀ s ∈ ins, s.bs.length ≤ 10000) (v : Value) (A : Option Addr) (ci : Nat) (w : World)
    (hv : PAt w D v p) (hins : StrmsAt w D (.slice A ins.length ci) ins) :
    Calls Try.prog 36 #[v, .slice A ins.length ci] w (OutPost w (means p.n ins)) := by
  obtain ⟨i0, hi0, iz0, iz1, iz2⟩ := info_parts info_strm
  have hn := fit_n hf.1
  have h1 := fit_one hf
  have hm : means p.n ins = teeMeans p.n.toNat (only ins) := rfl
  rw [hm]
  obtain ⟨z0, g2, o2, A2, c2, rfl, hg2, hD2, q0, q1, q2, q3, q4, hr2, hc2⟩ := hins.at_ (k := 0) (by omega)
  have hs0 : (ins[0]'(by omega)) = only ins := by
    obtain ⟨s, rfl⟩ := List.length_eq_one_iff.1 h1
    rfl
  rw [hs0] at q0 q1 q2 q3 q4 hr2 hc2
  simp only [Nat.zero_mul, Nat.add_zero] at q0 q1 q2 q3 q4
  have hnn : p.n = (p.n.toNat : Int) := by omega
  have hn4 : p.n.toNat ≤ 4 := by omega
  obtain ⟨A1, ca, B1, cb, rfl, _, _⟩ := hv
  have hst : Blk (w.alloc (.cells #[.int .i64 p.kind, .int .i64 p.n, .slice A1 p.a.length ca, .slice B1 p.b.length cb] 24)) w.heap.size 24 #[.int .i64 p.kind, .int .i64 p.n, .slice A1 p.a.length ca, .slice B1 p.b.length cb] := Blk.new _ _ _
  have hch0 : Chg (fun _ => False) w (w.alloc (.cells #[.int .i64 p.kind, .int .i64 p.n, .slice A1 p.a.length ca, .slice B1 p.b.length cb] 24)) := (Chg.refl _ _).alloc _
  generalize only ins = s at *
  generalize p.n.toNat = n at *
  rw [h1]
  replace hnn := Lib.hid hnn
  have hq : ∀ W, Chg (fun _ => False) w W → W.cell? ⟨g2, o2, none⟩ = some (.slice A2 s.bs.length c2) ∧ W.cell? ⟨g2, o2 + 1, none⟩ = some (.bool s.ended) ∧ W.cell? ⟨g2, o2 + 2, none⟩ = some (.int .i64 s.code) ∧ W.cell? ⟨g2, o2 + 3, none⟩ = some (.int .i64 s.stage) ∧ W.cell? ⟨g2, o2 + 4, none⟩ = some (.int .i64 s.id) ∧
      (convert 22 9 (.slice A2 s.bs.length c2)).run Try.prog W = .ok (strv s.bs) W ∧ Chg (fun _ => False) w W := fun W hW =>
    ⟨(hW.cell (p := ⟨g2, o2, none⟩) hg2 (fun h => h)).trans q0, (hW.cell (p := ⟨g2, o2 + 1, none⟩) hg2 (fun h => h)).trans q1, (hW.cell (p := ⟨g2, o2 + 2, none⟩) hg2 (fun h => h)).trans q2, (hW.cell (p := ⟨g2, o2 + 3, none⟩) hg2 (fun h => h)).trans q3, (hW.cell (p := ⟨g2, o2 + 4, none⟩) hg2 (fun h => h)).trans q4,
      conv_rd W D A2 s.bs c2 (hr2.chg hW (fun _ _ _ h => h)), hW⟩
  clear hins hf hl h1 hs0 hm z0 q0 q1 q2 q3 q4 hr2 hn
  go_enter Try.func36, Try.ntmps36
  go_wp2
  go_loopw [6, 5] (fun i v wr => ∃ k : Nat, k ≤ n ∧ i = .int .i64 k ∧ Chg (fun _ => False) w wr ∧ Blk wr w.heap.size 24 #[.int .i64 p.kind, .int .i64 p.n, .slice A1 p.a.length ca, .slice B1 p.b.length cb] ∧ StRow w k s v wr) (fun i _ _ => n - (intOf i).toNat)
  case atStart => exact ⟨0, by omega, rfl, hch0, hst, [], rfl, by simpa using World.ownsRow_nil _ _ _ _, fun _ h => by cases h⟩
  case round =>
    obtain ⟨k, hk, rfl, hch, hb, its, hits, hown, hbs⟩ := hrel
    have p1 : wr.cell? ⟨w.heap.size, 1, none⟩ = some (.int .i64 n) := (hb.cell 1).trans (by rw [← hnn.out]; rfl)
    clear hst hch0
    by_cases hlt : k < n
    · have hlt' : (k : Int) < (n : Int) := by omega
      replace hits := Lib.hid hits
      have hSq := hq wr hch
      go_wp2
      go_region_held3 (fun W => W.cell? ⟨g2, o2, none⟩ = some (.slice A2 s.bs.length c2) ∧ W.cell? ⟨g2, o2 + 1, none⟩ = some (.bool s.ended) ∧ W.cell? ⟨g2, o2 + 2, none⟩ = some (.int .i64 s.code) ∧ W.cell? ⟨g2, o2 + 3, none⟩ = some (.int .i64 s.stage) ∧ W.cell? ⟨g2, o2 + 4, none⟩ = some (.int .i64 s.id) ∧
          (convert 22 9 (.slice A2 s.bs.length c2)).run Try.prog W = .ok (strv s.bs) W ∧ Chg (fun _ => False) w W)
        (first
          | exact hSq
          | with_reducible exact hq _ hch.drew
          | with_reducible exact hq _ dX)
        (first
          | (go_at_call 45
             refine (out_any s.bs s.ended s.code s.stage s.id _).mono ?_
             intro e7 w7 ho7
             obtain ⟨v7, rfl, hs7, hb7⟩ := ho7
             have dX : Chg (fun _ => False) w w7 := hch.drew.trans (Chg.of_below (S := fun _ => False) hb7) (fun _ h _ => h)))
      obtain ⟨x, hx, hxb, hxe, hxc⟩ := refOut_one s.bs s.ended s.code s.stage s.id
      rw [hx] at hs7
      have hs1 := hb7.size
      have hs2 := hch.size
      simp only [World.size_drew] at hs1
      obtain ⟨A7, c7, hv7⟩ : ∃ A7 c7, v7 = .slice A7 1 c7 := by
        obtain ⟨A7, c7, _, h, _⟩ := hs7
        exact ⟨A7, c7, h⟩
      subst hv7
      obtain ⟨z9, g7, o7, A8, c8, hA7, hg7, hD7, y0, y1, y2, y3, y4, hr8, hc8⟩ := hs7.at_ (k := 0) (by simp)
      subst hA7
      clear z9
      simp only [Nat.zero_mul, Nat.add_zero, List.getElem_cons_zero] at y0 y1 y2 y3 y4 hr8 hc8
      have hd7 : Chg (fun _ => False) wr w7 := ((Chg.refl (fun _ => False) wr).drew).trans (Chg.of_below (S := fun _ => False) hb7) (fun _ h _ => h)
      clear hxb hxe hxc hSq hq hs7 dX
      replace hx := Lib.hid hx
      go_wp2_with (first
        | (at_builtin
           refine wpList_append_own_at _ rfl (.tmp 28) (.tmp 32) 36 rfl w.heap.size 61 i0 _ 5 56 Try.underlying36 hi0 iz0 iz1 iz2 rfl (by omega) u5 k (its.flatMap strmC) rfl ((ownsRow_chg hown hd7 (fun _ _ h => h)).alloc _) ⟨w7.heap.size, 0, none⟩ 1 1 [.slice A8 x.bs.length c8, .bool x.ended, .int .i64 x.code, .int .i64 x.stage, .int .i64 x.id] rfl rfl (World.news_of_block (cs := #[.slice A8 x.bs.length c8, .bool x.ended, .int .i64 x.code, .int .i64 x.stage, .int .i64 x.id]) (t := 61) (fr := (0, 0)) (heap_alloc_new w7 _)) (by simp [Value.oneCell']) (by simp only [maxLen]; omega) (by omega) (by simp; omega) ?_
           intro v2 w2 hown2 hg2' hv2 hat2))
      go_roundw
      case rel =>
        have hug : ∀ j, u5.ownBlock = some j → w.heap.size ≤ j ∧ j < wr.heap.size := fun j e => ⟨(hown.lt j e).1, (hown.lt j e).2⟩
        have hc1 : Chg (fun _ => False) wr (w7.alloc (.cells #[.slice A8 x.bs.length c8, .bool x.ended, .int .i64 x.code, .int .i64 x.stage, .int .i64 x.id] 61)) := hd7.alloc _
        have hc2 : Chg (fun j => u5.ownBlock = some j) (w7.alloc (.cells #[.slice A8 x.bs.length c8, .bool x.ended, .int .i64 x.code, .int .i64 x.stage, .int .i64 x.id] 61)) w2 := (Chg.refl _ _).grown hg2' (fun j e => .inl e)
        have hsz : (w7.alloc (.cells #[.slice A8 x.bs.length c8, .bool x.ended, .int .i64 x.code, .int .i64 x.stage, .int .i64 x.id] 61)).heap.size = w7.heap.size + 1 := by simp
        have hnew : ∀ j, v2.ownBlock = some j → u5.ownBlock = some j ∨ j = w7.heap.size + 1 := fun j e => by
          rcases hat2 with h | h
          · exact .inl (h.symm.trans e)
          · exact .inr (by rw [h] at e; injection e with e; rw [← e, hsz])
        have hbl := hb.lt
        have hub : u5.ownBlock ≠ some w.heap.size ∨ k = 0 := by
          rcases Nat.eq_zero_or_pos k with h | h
          · exact .inr h
          · exact .inl (fun e => own_not hb hown e)
        refine ⟨k + 1, by omega, by go_num, (hch.trans hc1 (fun _ h _ => h)).trans hc2 (fun y hy hlt => by have := (hug y hy).1; omega), (hb.chg hc1 (fun h => h)).chg hc2 (fun e => own_not hb hown e), its ++ [(x, .slice A8 x.bs.length c8)], ?_, ?_, ?_⟩
        · rw [means_one, hits.out, hx.out]; simp
        · simpa [strmC] using hown2
        · intro t ht
          rcases List.mem_append.1 ht with ht | ht
          · refine ⟨?_, (hbs t ht).2⟩
            have h1 := ((hbs t ht).1.mono (D' := fun j => w.heap.size ≤ j ∧ u5.ownBlock ≠ some j ∧ j < wr.heap.size) (fun j hj hlt => ⟨hj.1, hj.2, hlt⟩)).chg hc1 (fun _ _ _ h => h)
            refine (h1.chg hc2 (fun j hj _ e => hj.2.1 e)).mono (fun j hj _ => ⟨hj.1, fun e => ?_⟩)
            rcases hnew j e with h | h
            · exact hj.2.1 h
            · have := hj.2.2; omega
          · simp at ht
            subst ht
            refine ⟨?_, capOk_slice hc8⟩
            have h0 : BsAt w7 (fun j => wr.heap.size ≤ j) (.slice A8 x.bs.length c8) x.bs := ⟨A8, c8, rfl, hr8⟩
            have h1 := ((h0.mono (D' := fun j => wr.heap.size ≤ j ∧ j < w7.heap.size) (fun j hj hlt => ⟨hj, hlt⟩)).chg ((Chg.refl (fun _ => False) w7).alloc (.cells #[.slice A8 x.bs.length c8, .bool x.ended, .int .i64 x.code, .int .i64 x.stage, .int .i64 x.id] 61)) (fun _ _ _ h => h))
            refine (h1.chg hc2 (fun j hj _ e => by have := (hug j e).2; omega)).mono (fun j hj _ => ⟨by omega, fun e => ?_⟩)
            rcases hnew j e with h | h
            · have := (hug j h).2; omega
            · omega
      case measure => simp [intOf]; omega
    · have hlt' : ¬ (k : Int) < (n : Int) := by omega
      have hkn : k = n := by omega
      subst hkn
      have hbo : ∀ t ∈ its, BsAt wr (fun j => w.heap.size ≤ j) t.2 t.1.bs ∧ CapOk t.2 := fun t ht => ⟨(hbs t ht).1.mono (fun j hj _ => hj.1), (hbs t ht).2⟩
      obtain ⟨A2, c2, rfl, hrd⟩ := own_rd hown
      replace hits := Lib.hid hits
      replace hbo := Lib.hid hbo
      clear hbs
      go_wp2
      go_ret
      have el := means_len' s k
      exact ⟨_, rfl, ⟨A2, c2, its, by rw [el]; rfl, hits.out, by rw [el]; exact hrd, hbo.out⟩, hch.below (Nat.le_refl _) (fun _ h => h.elim)⟩
end Go.Proofs.Ytdhmlojodihjkaa.Tee
