/- penstockref13's Means: what the document says of paste. -/
import Derived.Test.YtamhebjejgcbjaaPasteK
import Derived.Test.YtamhebjejgcbjaaPasteS
import Derived.Test.YtamhebjejgcbjaaRef4
import Derived.Test.YtamhebjejgcbjaaRef4B
import Derived.Test.YtamhebjejgcbjaaSame
import Derived.Test.YtamhebjejgcbjaaCat4
import Derived.Test.YtamhebjejgcbjaaLit
namespace Go.Proofs.Ytamhebjejgcbjaa.Paste
open Go Go.RowKit

def means (p : Prm) (ins : List Strm) : List Strm := pasteMeans p.a ins
theorem same_ok (p : Prm) (ins : List Strm) (_ : fitI p ins) (_ : ∀ s ∈ ins, s.bs.length ≤ 10000) : SameOk (den p ins) ins (means p ins) := paste_same p.a ins
theorem refOut_len (b : Bs) (all : Bool) (c st id : Int) : (refOut b all c st id).length = 1 := by cases all <;> rfl
theorem means_len (p : Prm) (ins : List Strm) (_ : fitI p ins) : (means p ins).length ≤ 100 := by
  unfold means pasteMeans
  split
  · rw [refOut_len]; omega
  · rw [refOut_len]; omega

theorem info_read : (Try.prog.info? 101).map (fun i => (i.zero, i.size, i.bytes)) = some (some (.agg #[.slice none 0 0, .bool false, .int .i64 0, .int .i64 0, .int .i64 0]), 5, 56) := by kernel_rfl

def rdC (r : RdL) (s : Option Addr × Nat) : List Value := [.slice s.1 r.lines.length s.2, .bool r.all, .int .i64 r.code, .int .i64 r.stage, .int .i64 r.id]
def rdRow (R : Nat → RdL) (S : Nat → Option Addr × Nat) (m : Nat) : List Value := (List.range m).flatMap fun k => rdC (R k) (S k)
theorem rdRow_succ (R : Nat → RdL) (S : Nat → Option Addr × Nat) (m : Nat) (x : Option Addr × Nat) : rdRow R (upd S m x) (m + 1) = rdRow R S m ++ rdC (R m) x := by
  unfold rdRow
  rw [List.range_succ, List.flatMap_append]
  congr 1
  · rw [List.flatMap_def, List.flatMap_def]
    congr 1
    apply List.map_congr_left
    intro k hk
    have : k < m := by simpa using hk
    unfold upd
    rw [if_neg (by omega)]
  · simp [upd]
theorem rdRow_len (R : Nat → RdL) (S : Nat → Option Addr × Nat) : ∀ m, (rdRow R S m).length = m * 5 := by
  intro m
  induction m with
  | zero => rfl
  | succ m ih =>
    have e : rdRow R S (m + 1) = rdRow R S m ++ rdC (R m) (S m) := by unfold rdRow; rw [List.range_succ, List.flatMap_append]; simp
    rw [e, List.length_append, ih]
    show m * 5 + 5 = _
    omega
theorem rdRow_at (R : Nat → RdL) (S : Nat → Option Addr × Nat) : ∀ m k, k < m → ∀ i, i < 5 → (rdRow R S m)[k * 5 + i]? = (rdC (R k) (S k))[i]? := by
  intro m
  induction m with
  | zero => intro k h; omega
  | succ m ih =>
    intro k h i hi
    have e : rdRow R S (m + 1) = rdRow R S m ++ rdC (R m) (S m) := by unfold rdRow; rw [List.range_succ, List.flatMap_append]; simp
    rw [e]
    by_cases hk : k < m
    · have := rdRow_len R S m
      rw [List.getElem?_append_left (by omega)]
      exact ih k hk i hi
    · obtain rfl : k = m := by omega
      have := rdRow_len R S k
      rw [List.getElem?_append_right (by omega), this, Nat.add_sub_cancel_left]

/-- What has been read of the inputs so far. -/
def RdAll (b : Nat) (R : Nat → RdL) (m : Nat) (v : Value) (wr : World) : Prop :=
  ∃ S : Nat → Option Addr × Nat, wr.ownsRow b 101 5 v m (rdRow R S m) ∧ ∀ k, k < m → Rd wr (fun j => b ≤ j ∧ v.ownBlock ≠ some j) 1 (S k).1 (R k).lines.length ((R k).lines.map strv)

/-- The cells of what has been read. -/
theorem RdAll.at_ {b : Nat} {R : Nat → RdL} {m : Nat} {v : Value} {w : World} (h : RdAll b R m v w) (hm : 0 < m) : ∃ g o c, v = .slice (some ⟨g, o, none⟩) m c ∧ g < w.heap.size ∧ ∀ k, k < m → ∃ A ca,
    w.cell? ⟨g, o + k * 5, none⟩ = some (.slice A (R k).lines.length ca) ∧ w.cell? ⟨g, o + k * 5 + 1, none⟩ = some (.bool (R k).all) ∧ w.cell? ⟨g, o + k * 5 + 2, none⟩ = some (.int .i64 (R k).code) ∧
    w.cell? ⟨g, o + k * 5 + 3, none⟩ = some (.int .i64 (R k).stage) ∧ w.cell? ⟨g, o + k * 5 + 4, none⟩ = some (.int .i64 (R k).id) ∧
    ∀ r (hr : r < (R k).lines.length), ∃ g2 o2, A = some ⟨g2, o2, none⟩ ∧ g2 < w.heap.size ∧ w.cell? ⟨g2, o2 + r, none⟩ = some (strv (R k).lines[r]) := by
  obtain ⟨S, hown, hl⟩ := h
  obtain ⟨A, c, rfl, hrd⟩ := own_rd hown
  obtain ⟨g, o, rfl, hg, hD, hc⟩ := hrd.2 hm
  refine ⟨g, o, c, rfl, hg, fun k hk => ⟨(S k).1, (S k).2, hc (k * 5 + 0) _ ((rdRow_at R S m k hk 0 (by omega)).trans rfl), hc (k * 5 + 1) _ ((rdRow_at R S m k hk 1 (by omega)).trans rfl), hc (k * 5 + 2) _ ((rdRow_at R S m k hk 2 (by omega)).trans rfl), hc (k * 5 + 3) _ ((rdRow_at R S m k hk 3 (by omega)).trans rfl), hc (k * 5 + 4) _ ((rdRow_at R S m k hk 4 (by omega)).trans rfl), fun r hr => ?_⟩⟩
  obtain ⟨g2, o2, u, hA, hg2, _, hu, hcell⟩ := (hl k hk).at_ hr
  rw [List.getElem?_map, List.getElem?_eq_getElem hr] at hu
  simp only [Option.map_some, Option.some.injEq] at hu
  subst hu
  exact ⟨g2, o2, hA, hg2, hcell⟩

theorem out_of {w w0 : World} {l : List Strm} {e : Ending} {w' : World} (h : OutPost w0 l e w') (hs : w.heap.size ≤ w0.heap.size) (hc : Chg (fun _ => False) w w0) : OutPost w l e w' := by
  obtain ⟨v, rfl, h1, h2⟩ := h
  exact ⟨v, rfl, h1.mono (fun k hk _ => by omega), (hc.below (Nat.le_refl _) (fun _ h => h.elim)).trans (h2.mono hs)⟩
theorem joinS_len_le (b : Bs) (hb : b.length ≤ 1) (n : Nat) (hn : n ≤ 4) (T : Nat → List Bs) (hT : ∀ j, ∀ l ∈ T j, l.length ≤ 64) (M : Nat) (hM : M ≤ 100000) (rows : List Bs) (hr : rows.length ≤ M) (h : ∀ x ∈ rows, ∃ r, x = rowP b T r n) : (joinS rows).length ≤ 100000000 := by
  have h1 := rows_len b hb n hn T hT rows h
  have h2 : rows.length * 300 ≤ 100000 * 300 := Nat.mul_le_mul_right _ (by omega)
  omega

set_option maxHeartbeats 4000000 in
set_option maxRecDepth 100000 in
theorem means_any (D : Nat → Prop) (p : Prm) (ins : List Strm) (hf : fitI p ins) (hl : ∀ s ∈ ins, s.bs.length ≤ 10000) (v : Value) (A : Option Addr) (ci : Nat) (w : World)
    (hv : PAt w D v p) (hins : StrmsAt w D (.slice A ins.length ci) ins) :
    Calls Try.prog 35 #[v, .slice A ins.length ci] w (OutPost w (means p ins)) := by
  obtain ⟨i0, hi0, iz0, iz1, iz2⟩ := info_parts info_read
  have hn := fit_n hf.1
  obtain ⟨N, hN⟩ : ∃ N : Nat, ins.length = N := ⟨_, rfl⟩
  have hpn : p.n = N := by have h := hf.2; rw [hn.2.2.2.1] at h; dsimp only at h; omega
  have hN1 : 1 ≤ N := by omega
  have hN4 : N ≤ 4 := by omega
  have hal : p.a.length ≤ 1 := by omega
  have hT64 : ∀ j, ∀ l ∈ insT ins j, l.length ≤ 64 := fun j l hlj => refLines_len (sAt ins j) l hlj
  have hMle := insT_le ins
  rw [hN] at hMle
  have hB40 : bytesOf ins ≤ 40000 := by
    have key : ∀ r : List Strm, (∀ s ∈ r, s.bs.length ≤ 10000) → bytesOf r ≤ r.length * 10000 := by
      intro r
      induction r with
      | nil => intro _; simp [bytesOf]
      | cons x r ih =>
        intro hr
        have h1 := hr x (by simp)
        have h2 := ih (fun y hy => hr y (by simp [hy]))
        unfold bytesOf at h2 ⊢
        simp only [List.map_cons, List.sum_cons, List.length_cons, Nat.succ_mul]
        omega
    have := key ins hl
    have : ins.length * 10000 ≤ 4 * 10000 := Nat.mul_le_mul_right _ (by omega)
    omega
  have hm : means p ins = pasteMeans p.a ins := rfl
  have hgo : pasteGo p.a ins = pgo p.a N (insT ins) (insE ins) (FU (bytesOf ins) N) 0 0 := by unfold pasteGo; rw [hN]
  obtain ⟨A1, ca, B1, cb, rfl, hA, _⟩ := hv
  have hcv := fun (W : World) (hW : Chg (fun _ => False) w W) => conv_rd W D A1 p.a ca (hA.chg hW (fun _ _ _ h => h))
  have hli := fun (W : World) (hW : Chg (fun _ => False) w W) (k : Nat) (hk : k < ins.length) => (hins.chg hW (fun _ _ _ h => h)).at_ hk
  have hlines : ∀ (W : World) (D2 : Nat → Prop) (k : Nat) (v : Value), k < N → SAt W D2 v (sAt ins k) → Calls Try.prog 53 #[v] W (LinesPost W (refLines (sAt ins k))) := fun W D2 k v hk h =>
    lines_any D2 _ v W h (by rw [sAt_get (by omega)]; have := hl _ (List.getElem_mem (show k < ins.length by omega)); omega)
  have hlen : ∀ k, k < N → (refLines (sAt ins k)).lines.length ≤ 10000 := fun k hk => by
    have := hMle k hk
    have h2 := refLines_sum (sAt ins k)
    have h3 := hl _ (List.getElem_mem (show k < ins.length by omega))
    rw [sAt_get (by omega)] at h2 ⊢
    omega
  have hst : Blk (w.alloc (.cells #[.int .i64 p.kind, .int .i64 p.n, .slice A1 p.a.length ca, .slice B1 p.b.length cb] 24)) w.heap.size 24 #[.int .i64 p.kind, .int .i64 p.n, .slice A1 p.a.length ca, .slice B1 p.b.length cb] := Blk.new _ _ _
  have hch0 : Chg (fun _ => False) w (w.alloc (.cells #[.int .i64 p.kind, .int .i64 p.n, .slice A1 p.a.length ca, .slice B1 p.b.length cb] 24)) := (Chg.refl _ _).alloc _
  rw [hm]
  have hfinA : ∀ rows r k, pgo p.a N (insT ins) (insE ins) (FU (bytesOf ins) N) 0 0 = (rows, r, k, false) → pasteMeans p.a ins = refOut (joinS rows) false (refLines (sAt ins k)).code (refLines (sAt ins k)).stage (refLines (sAt ins k)).id := fun rows r k h => by
    unfold pasteMeans; rw [hgo, h]; rfl
  have hfinB : ∀ rows r k, pgo p.a N (insT ins) (insE ins) (FU (bytesOf ins) N) 0 0 = (rows, r, k, true) → pasteMeans p.a ins = refOut (joinS rows) true 0 0 0 := fun rows r k h => by
    unfold pasteMeans; rw [hgo, h]; rfl
  have hFU := enough_FU (bytesOf ins) N 0 0
  have hjl := joinS_len_le p.a hal N hN4 (insT ins) hT64 (bytesOf ins) (by omega)
  have hrl := rowP_len p.a hal (insT ins) hT64
  have hfl := fld_len (insT ins) hT64
  replace hcv := Lib.hid hcv
  replace hli := Lib.hid hli
  replace hlines := Lib.hid hlines
  replace hlen := Lib.hid hlen
  replace hfinA := Lib.hid hfinA
  replace hfinB := Lib.hid hfinB
  replace hjl := Lib.hid hjl
  replace hrl := Lib.hid hrl
  replace hfl := Lib.hid hfl
  replace hMle := Lib.hid hMle
  replace hpn := Lib.hid hpn
  clear hn hm hgo hf hT64 hl hins hA
  replace hN := Lib.hid hN
  go_enter Try.func35, Try.ntmps35
  go_wp2
  generalize hw0 : w.alloc (.cells #[.int .i64 p.kind, .int .i64 p.n, .slice A1 p.a.length ca, .slice B1 p.b.length cb] 24) = w0 at *
  have hsz0 := hch0.size
  have hstl := hst.lt
  clear hw0
  go_loopw [6, 5] (fun i v wr => ∃ k : Nat, k ≤ N ∧ i = .int .i64 k ∧ Chg (fun _ => False) w0 wr ∧ RdAll w0.heap.size (fun j => refLines (sAt ins j)) k v wr) (fun i _ _ => N - (intOf i).toNat)
  case atStart => exact ⟨0, by omega, rfl, Chg.refl _ _, fun _ => (none, 0), World.ownsRow_nil _ _ _ _, fun k hk => by omega⟩
  case round =>
    obtain ⟨k, hk, rfl, hch, S, hown, hbs⟩ := hrel
    have p1 : wr.cell? ⟨w.heap.size, 1, none⟩ = some (.int .i64 N) := ((hst.chg hch (fun h => h)).cell 1).trans (by rw [← hpn.out]; rfl)
    by_cases hlt : k < N
    · have hlt' : (k : Int) < (N : Int) := by omega
      have hk0 : (0 : Int) ≤ (k : Int) := by omega
      have hki : k < ins.length := by rw [hN.out]; exact hlt
      have hlI : ((k : Nat) : Int) < (ins.length : Int) := by omega
      have hcw := hch0.trans hch (fun _ h _ => h)
      obtain ⟨z0, g2, o2, A2, c2, rfl, hg2, hD2, q0, q1, q2, q3, q4, hr2, hc2⟩ := hli.out wr hcw k hki
      have hsat : SAt wr D (.agg #[.slice A2 ins[k].bs.length c2, .bool ins[k].ended, .int .i64 ins[k].code, .int .i64 ins[k].stage, .int .i64 ins[k].id]) (sAt ins k) := by rw [sAt_get hki]; exact ⟨A2, c2, rfl, hr2, hc2⟩
      have hcall := hlines.out wr D k _ hlt hsat
      have hle := hlen.out k hlt
      generalize hR : refLines (sAt ins k) = r at *
      replace hR := Lib.hid hR
      replace hcall := Lib.hid hcall
      generalize ins[k] = s at *
      clear z0 hr2 hc2 hsat
      replace hbs := Lib.hid hbs
      go_wp2_with (first
        | (go_at_call 53
           refine hcall.out.mono ?_
           intro e7 w7 ho7
           obtain ⟨v7, rfl, hown7, hb7⟩ := ho7
           obtain ⟨A7, c7, rfl, hrd7⟩ := own_rd hown7
           have hd7 : Chg (fun _ => False) wr w7 := Chg.of_below hb7
           have hsz7 := hb7.size
           replace hrd7 := Lib.hid hrd7
           clear hown7)
        | (at_builtin
           refine wpList_append_own_at _ rfl (.tmp 18) (.tmp 24) 103 rfl w0.heap.size 101 i0 _ 5 56 Try.underlying103 hi0 iz0 iz1 iz2 rfl (by omega) u5 k (rdRow (fun j => refLines (sAt ins j)) S k) rfl ((ownsRow_chg hown hd7 (fun _ _ h => h)).alloc _) ⟨w7.heap.size, 0, none⟩ 1 1 [.slice A7 r.lines.length c7, .bool r.all, .int .i64 r.code, .int .i64 r.stage, .int .i64 r.id] rfl rfl (World.news_of_block (cs := #[.slice A7 r.lines.length c7, .bool r.all, .int .i64 r.code, .int .i64 r.stage, .int .i64 r.id]) (t := 101) (fr := (0, 0)) (heap_alloc_new w7 _)) (by simp [Value.oneCell']) (by simp only [maxLen]; omega) (by omega) (by have := hch.size; simp; omega) ?_
           intro v2 w2 hown2 hg2' hv2 hat2))
      go_roundw
      case measure => simp [intOf]; omega
      case rel =>
        have hug : ∀ j, u5.ownBlock = some j → w0.heap.size ≤ j ∧ j < wr.heap.size := fun j e => ⟨(hown.lt j e).1, (hown.lt j e).2⟩
        have hc1 : Chg (fun _ => False) wr (w7.alloc (.cells #[.slice A7 r.lines.length c7, .bool r.all, .int .i64 r.code, .int .i64 r.stage, .int .i64 r.id] 101)) := hd7.alloc _
        have hc2 : Chg (fun j => u5.ownBlock = some j) (w7.alloc (.cells #[.slice A7 r.lines.length c7, .bool r.all, .int .i64 r.code, .int .i64 r.stage, .int .i64 r.id] 101)) w2 := (Chg.refl _ _).grown hg2' (fun j e => .inl e)
        have hszA : (w7.alloc (.cells #[.slice A7 r.lines.length c7, .bool r.all, .int .i64 r.code, .int .i64 r.stage, .int .i64 r.id] 101)).heap.size = w7.heap.size + 1 := by simp
        have hnew : ∀ j, v2.ownBlock = some j → u5.ownBlock = some j ∨ j = w7.heap.size + 1 := fun j e => by
          rcases hat2 with h | h
          · exact .inl (h.symm.trans e)
          · exact .inr (by rw [h] at e; injection e with e; rw [← e, hszA])
        have hs0 := hch.size
        refine ⟨k + 1, by omega, by go_num, (hch.trans hc1 (fun _ h _ => h)).trans hc2 (fun y hy hlt => by have := (hug y hy).1; omega), upd S k (A7, c7), ?_, fun j hj => ?_⟩
        · rw [rdRow_succ, hR.out]
          exact hown2
        · by_cases hjk : j = k
          · subst hjk
            have hS : upd S j (A7, c7) j = (A7, c7) := by unfold upd; rw [if_pos rfl]
            rw [hS]
            show Rd w2 _ 1 A7 (refLines (sAt ins j)).lines.length (List.map strv (refLines (sAt ins j)).lines)
            rw [hR.out]
            have h1 := (((hrd7.out).mono (D' := fun j => wr.heap.size ≤ j ∧ j < w7.heap.size) (fun j hj hlt => ⟨hj, hlt⟩)).chg ((Chg.refl (fun _ => False) w7).alloc (.cells #[.slice A7 r.lines.length c7, .bool r.all, .int .i64 r.code, .int .i64 r.stage, .int .i64 r.id] 101)) (fun _ _ _ h => h))
            refine (h1.chg hc2 (fun j hj _ e => by have := (hug j e).2; omega)).mono (fun j hj _ => ⟨by omega, fun e => ?_⟩)
            rcases hnew j e with h | h
            · have := (hug j h).2; omega
            · omega
          · have hS : upd S k (A7, c7) j = S j := by unfold upd; rw [if_neg hjk]
            rw [hS]
            have h1 := ((hbs.out j (by omega)).mono (D' := fun j => w0.heap.size ≤ j ∧ u5.ownBlock ≠ some j ∧ j < wr.heap.size) (fun j hj hlt => ⟨hj.1, hj.2, hlt⟩)).chg hc1 (fun _ _ _ h => h)
            refine (h1.chg hc2 (fun j hj _ e => hj.2.1 e)).mono (fun j hj _ => ⟨hj.1, fun e => ?_⟩)
            rcases hnew j e with h | h
            · exact hj.2.1 h
            · have := hj.2.2; omega
    · have hlt' : ¬ (k : Int) < (N : Int) := by omega
      obtain rfl : k = N := by omega
      obtain ⟨g3, o3, c3, rfl, hg3, hcell⟩ := RdAll.at_ (show RdAll w0.heap.size (fun j => refLines (sAt ins j)) k u5 wr from ⟨S, hown, hbs⟩) (by omega)
      have p2 : wr.cell? ⟨w.heap.size, 2, none⟩ = some (.slice A1 p.a.length ca) := ((hst.chg hch (fun h => h)).cell 2).trans rfl
      have hcw := hch0.trans hch (fun _ h _ => h)
      have hcv1 := hcv.out wr hcw
      replace hcell := Lib.hid hcell
      clear hown hbs hst hch hch0 hsz0
      go_wp2
      go_loopw [8, 7] (fun i s wq => ∃ (r : Nat) (rows : List Bs), i = .int .i64 r ∧ s = strv (joinS rows) ∧ PaPl p.a k (insT ins) (insE ins) (bytesOf ins) (FU (bytesOf ins) k) r 0 rows ∧ (∀ x ∈ rows, ∃ q, x = rowP p.a (insT ins) q k) ∧ wq = wr) (fun i _ _ => bytesOf ins + 1 - (intOf i).toNat)
      case atStart => exact ⟨0, [], rfl, rfl, PaPl.start hFU, (fun x hx => by cases hx), rfl⟩
      case round =>
        obtain ⟨r, rows, rfl, rfl, hpl, hrows, rfl⟩ := hrel
        have hjr := hjl.out rows (by rw [hpl.len]; exact hpl.few) hrows
        have hr40 := hpl.few
        go_wp2
        go_loopw [11, 9, 10] (fun i row some wq => ∃ k2 : Nat, k2 ≤ k ∧ i = .int .i64 k2 ∧ row = strv (rowP p.a (insT ins) r k2) ∧ some = .bool (someT k2 (insT ins) r) ∧ PaPl p.a k (insT ins) (insE ins) (bytesOf ins) (FU (bytesOf ins) k) r k2 rows ∧ wq = wr) (fun i _ _ _ => k - (intOf i).toNat)
        case atStart => exact ⟨0, Nat.zero_le _, rfl, rfl, rfl, hpl, rfl⟩
        case round =>
          clear hpl
          obtain ⟨k2, hk2, rfl, rfl, rfl, hpl, rfl⟩ := hrel
          have hrp := hrl.out r k2
          have hsu := someT_succ (insT ins) r k2
          by_cases hlt : k2 < k
          · have hlt' : (k2 : Int) < (k : Int) := by omega
            have hk0 : (0 : Int) ≤ (k2 : Int) := by omega
            have hk4 : (k : Int) ≤ 4 := by omega
            have hr0 : (0 : Int) ≤ (r : Int) := by omega
            obtain ⟨A4, ca4, q0, q1, q2, q3, q4, hln⟩ := hcell.out k2 hlt
            have hf64 := hfl.out r k2
            have hlen2 := hlen.out k2 hlt
            have hcolA : r < (refLines (sAt ins k2)).lines.length → PaPl p.a k (insT ins) (insE ins) (bytesOf ins) (FU (bytesOf ins) k) r (k2 + 1) rows := fun h => hpl.col hlt (.inl h)
            have hcolB : (refLines (sAt ins k2)).all = true → PaPl p.a k (insT ins) (insE ins) (bytesOf ins) (FU (bytesOf ins) k) r (k2 + 1) rows := fun h => hpl.col hlt (.inr h)
            have hstop : ¬ r < (refLines (sAt ins k2)).lines.length → (refLines (sAt ins k2)).all = false → pasteMeans p.a ins = refOut (joinS rows) false (refLines (sAt ins k2)).code (refLines (sAt ins k2)).stage (refLines (sAt ins k2)).id := fun h1 h2 => hfinA.out _ _ _ (hpl.stop hlt h1 h2)
            have hfA : ∀ h : r < (refLines (sAt ins k2)).lines.length, fld (insT ins) r k2 = (refLines (sAt ins k2)).lines[r] := fun h => by
              unfold fld insT rdT
              rw [List.getElem?_eq_getElem h]; rfl
            have hfB : ¬ r < (refLines (sAt ins k2)).lines.length → fld (insT ins) r k2 = [] := fun h => by
              unfold fld insT rdT
              rw [List.getElem?_eq_none (by omega)]; rfl
            have hsA : r < (refLines (sAt ins k2)).lines.length → someT (k2 + 1) (insT ins) r = true := fun h => by rw [hsu, decide_eq_true (show r < (insT ins k2).length from h), Bool.or_true]
            have hsB : ¬ r < (refLines (sAt ins k2)).lines.length → someT (k2 + 1) (insT ins) r = someT k2 (insT ins) r := fun h => by rw [hsu, decide_eq_false (show ¬ r < (insT ins k2).length from h), Bool.or_false]
            have hp0 : k2 = 0 → rowP p.a (insT ins) r k2 = [] ∧ rowP p.a (insT ins) r (k2 + 1) = fld (insT ins) r k2 := fun h => by subst h; exact ⟨rowP_zero _ _ _, rowP_one _ _ _⟩
            have hp1 : 0 < k2 → rowP p.a (insT ins) r (k2 + 1) = rowP p.a (insT ins) r k2 ++ p.a ++ fld (insT ins) r k2 := fun h => rowP_succ _ _ _ _ h
            generalize hR : refLines (sAt ins k2) = R at *
            generalize hrow : rowP p.a (insT ins) r k2 = row at *
            generalize hrow1 : rowP p.a (insT ins) r (k2 + 1) = row1 at *
            generalize hfd : fld (insT ins) r k2 = fd at *
            generalize hsm : someT k2 (insT ins) r = sm at *
            generalize hsm1 : someT (k2 + 1) (insT ins) r = sm1 at *
            generalize hjs : joinS rows = js at *
            clear hsu hpl hjr hrows hR hfd hsm
            by_cases hz : k2 = 0
            · by_cases hr : r < R.lines.length
              · skip
                have hki0 : ¬ (0 : Int) < (k2 : Int) := by omega
                obtain ⟨hrow0, hrow10⟩ := hp0 hz
                clear hp0 hp1
                have hrI : (r : Int) < (R.lines.length : Int) := by omega
                obtain ⟨g5, o5, rfl, hg5, q5⟩ := hln r hr
                have hfx := hfA hr
                have hcol := hcolA hr
                have hsx := hsA hr
                clear hfA hfB hcolA hcolB hstop hsA hsB hln
                generalize R.lines[r] = x at *
                have hxl : x.length ≤ 64 := by rw [← hfx]; exact hf64
                have c1 := fun W => run_cat4 row x (by omega) (by omega) W
                generalize hy : row ++ x = y at *
                have hyr : y = row1 := by rw [← hy, hrow0, hrow10, hfx, List.nil_append]
                replace hyr := Lib.hid hyr
                replace hsx := Lib.hid hsx
                replace hcol := Lib.hid hcol
                replace hrow10 := Lib.hid hrow10
                replace hrow := Lib.hid hrow
                replace hrow1 := Lib.hid hrow1
                replace hjs := Lib.hid hjs
                replace hsm1 := Lib.hid hsm1
                replace hrow0 := Lib.hid hrow0
                replace hz := Lib.hid hz
                replace hfx := Lib.hid hfx
                replace hy := Lib.hid hy
                go_wp2
                go_roundw
                case rel => exact ⟨k2 + 1, by omega, by go_num, by rw [hrow1.out, hyr.out], by rw [hsm1.out, hsx.out], hcol.out, trivial⟩
                case measure => simp [intOf]; omega
              · by_cases hall : R.all = true
                · skip
                  have hki0 : ¬ (0 : Int) < (k2 : Int) := by omega
                  obtain ⟨hrow0, hrow10⟩ := hp0 hz
                  clear hp0 hp1
                  have hrI : ¬ (r : Int) < (R.lines.length : Int) := by omega
                  have hfx := hfB hr
                  have hcol := hcolB hall
                  have hsx := hsB hr
                  rw [hall] at q1
                  clear hfA hfB hcolA hcolB hstop hsA hsB hln hall
                  have hyr : row = row1 := by rw [hrow0, hrow10, hfx]
                  replace hyr := Lib.hid hyr
                  replace hsx := Lib.hid hsx
                  replace hcol := Lib.hid hcol
                  replace hrow10 := Lib.hid hrow10
                  replace hrow := Lib.hid hrow
                  replace hrow1 := Lib.hid hrow1
                  replace hjs := Lib.hid hjs
                  replace hsm1 := Lib.hid hsm1
                  replace hrow0 := Lib.hid hrow0
                  replace hz := Lib.hid hz
                  replace hfx := Lib.hid hfx
                  go_wp2
                  go_roundw
                  case rel => exact ⟨k2 + 1, by omega, by go_num, by rw [hrow1.out, hyr.out], by rw [hsm1.out, hsx.out], hcol.out, trivial⟩
                  case measure => simp [intOf]; omega
                · skip
                  have hki0 : ¬ (0 : Int) < (k2 : Int) := by omega
                  obtain ⟨hrow0, hrow10⟩ := hp0 hz
                  clear hp0 hp1
                  have hrI : ¬ (r : Int) < (R.lines.length : Int) := by omega
                  have hall' : R.all = false := by simpa using hall
                  have hfin := hstop hr hall'
                  rw [hall'] at q1
                  clear hfA hfB hcolA hcolB hstop hsA hsB hln hall hall'
                  replace hfin := Lib.hid hfin
                  replace hrow10 := Lib.hid hrow10
                  replace hrow := Lib.hid hrow
                  replace hrow1 := Lib.hid hrow1
                  replace hjs := Lib.hid hjs
                  replace hsm1 := Lib.hid hsm1
                  replace hrow0 := Lib.hid hrow0
                  replace hz := Lib.hid hz
                  go_wp2_with (first
                    | (go_at_call 54
                       refine (out_any js false R.code R.stage R.id _).mono ?_
                       intro e7 w7 ho7
                       obtain ⟨v7, rfl, h1, h2⟩ := ho7))
                  go_ret
                  rw [hfin.out]
                  exact out_of ⟨_, rfl, h1, h2⟩ hcw.size hcw
            · by_cases hr : r < R.lines.length
              · skip
                have hki0 : (0 : Int) < (k2 : Int) := by omega
                have hrow10 := hp1 (by omega)
                clear hp0 hp1
                have hrI : (r : Int) < (R.lines.length : Int) := by omega
                obtain ⟨g5, o5, rfl, hg5, q5⟩ := hln r hr
                have hfx := hfA hr
                have hcol := hcolA hr
                have hsx := hsA hr
                clear hfA hfB hcolA hcolB hstop hsA hsB hln
                generalize R.lines[r] = x at *
                have hxl : x.length ≤ 64 := by rw [← hfx]; exact hf64
                have c0 := fun W => run_cat4 row p.a (by omega) (by omega) W
                have c1 := fun W => run_cat4 (row ++ p.a) x (by simp; omega) (by omega) W
                generalize hy : row ++ p.a ++ x = y at *
                generalize hy1 : row ++ p.a = y1 at *
                have hyr : y = row1 := by rw [← hy, hrow10, hfx]
                replace hyr := Lib.hid hyr
                replace hsx := Lib.hid hsx
                replace hcol := Lib.hid hcol
                replace hrow10 := Lib.hid hrow10
                replace hrow := Lib.hid hrow
                replace hrow1 := Lib.hid hrow1
                replace hjs := Lib.hid hjs
                replace hsm1 := Lib.hid hsm1
                replace hfx := Lib.hid hfx
                replace hy := Lib.hid hy
                replace hy1 := Lib.hid hy1
                go_wp2
                go_roundw
                case rel => exact ⟨k2 + 1, by omega, by go_num, by rw [hrow1.out, hyr.out], by rw [hsm1.out, hsx.out], hcol.out, trivial⟩
                case measure => simp [intOf]; omega
              · by_cases hall : R.all = true
                · skip
                  have hki0 : (0 : Int) < (k2 : Int) := by omega
                  have hrow10 := hp1 (by omega)
                  clear hp0 hp1
                  have hrI : ¬ (r : Int) < (R.lines.length : Int) := by omega
                  have hfx := hfB hr
                  have hcol := hcolB hall
                  have hsx := hsB hr
                  rw [hall] at q1
                  clear hfA hfB hcolA hcolB hstop hsA hsB hln hall
                  have c0 := fun W => run_cat4 row p.a (by omega) (by omega) W
                  generalize hy1 : row ++ p.a = y1 at *
                  have hyr : y1 = row1 := by rw [hrow10, hfx, List.append_nil]
                  replace hyr := Lib.hid hyr
                  replace hsx := Lib.hid hsx
                  replace hcol := Lib.hid hcol
                  replace hrow10 := Lib.hid hrow10
                  replace hrow := Lib.hid hrow
                  replace hrow1 := Lib.hid hrow1
                  replace hjs := Lib.hid hjs
                  replace hsm1 := Lib.hid hsm1
                  replace hfx := Lib.hid hfx
                  replace hy1 := Lib.hid hy1
                  go_wp2
                  go_roundw
                  case rel => exact ⟨k2 + 1, by omega, by go_num, by rw [hrow1.out, hyr.out], by rw [hsm1.out, hsx.out], hcol.out, trivial⟩
                  case measure => simp [intOf]; omega
                · skip
                  have hki0 : (0 : Int) < (k2 : Int) := by omega
                  have hrow10 := hp1 (by omega)
                  clear hp0 hp1
                  have hrI : ¬ (r : Int) < (R.lines.length : Int) := by omega
                  have hall' : R.all = false := by simpa using hall
                  have hfin := hstop hr hall'
                  rw [hall'] at q1
                  clear hfA hfB hcolA hcolB hstop hsA hsB hln hall hall'
                  have c0 := fun W => run_cat4 row p.a (by omega) (by omega) W
                  generalize hy1 : row ++ p.a = y1 at *
                  replace hfin := Lib.hid hfin
                  replace hrow10 := Lib.hid hrow10
                  replace hrow := Lib.hid hrow
                  replace hrow1 := Lib.hid hrow1
                  replace hjs := Lib.hid hjs
                  replace hsm1 := Lib.hid hsm1
                  replace hy1 := Lib.hid hy1
                  go_wp2_with (first
                    | (go_at_call 54
                       refine (out_any js false R.code R.stage R.id _).mono ?_
                       intro e7 w7 ho7
                       obtain ⟨v7, rfl, h1, h2⟩ := ho7))
                  go_ret
                  rw [hfin.out]
                  exact out_of ⟨_, rfl, h1, h2⟩ hcw.size hcw
          · have hlt' : ¬ (k2 : Int) < (k : Int) := by omega
            have hkk : k2 = k := by omega
            rw [hkk] at hpl hrp
            have hfin0 := fun h => hfinB.out _ _ _ (hpl.fin h)
            have hrow2 := hpl.row hMle.out
            have hmem : ∀ x ∈ rows ++ [rowP p.a (insT ins) r k], ∃ q, x = rowP p.a (insT ins) q k := fun x hx => by
              rcases List.mem_append.1 hx with hx | hx
              · exact hrows x hx
              · simp only [List.mem_singleton] at hx; exact ⟨r, hx⟩
            have hsn := joinS_snoc rows (rowP p.a (insT ins) r k)
            have e1 : rowP p.a (insT ins) r k2 = rowP p.a (insT ins) r k := by rw [hkk]
            have e2 : someT k2 (insT ins) r = someT k (insT ins) r := by rw [hkk]
            rw [e1, e2]
            replace e1 := Lib.hid e1
            replace e2 := Lib.hid e2
            generalize hrow : rowP p.a (insT ins) r k = row at *
            generalize hsm : someT k (insT ins) r = sm at *
            generalize hjs : joinS rows = js at *
            have hr8 : (r : Int) ≤ 100000 := by omega
            cases sm with
            | false =>
              have hf := hfin0 rfl
              replace hf := Lib.hid hf
              clear hfin0 hrow2 hmem hrows hpl hsn hsm hrow hjs hkk
              go_wp2_with (first
                | (go_at_call 54
                   refine (out_any js true 0 0 0 _).mono ?_
                   intro e7 w7 ho7
                   obtain ⟨v7, rfl, h1, h2⟩ := ho7))
              go_ret
              rw [hf.out]
              exact out_of ⟨_, rfl, h1, h2⟩ hcw.size hcw
            | true =>
              have hpl2 := hrow2 rfl
              have c0 := fun W => run_cat4 js row (by omega) (by omega) W
              have c1 := fun W => run_cat4 (js ++ row) [10] (by simp; omega) (by simp) W
              generalize hy2 : js ++ row ++ [10] = y2 at *
              generalize hy1 : js ++ row = y1 at *
              replace hy1 := Lib.hid hy1
              replace hy2 := Lib.hid hy2
              replace hsn := Lib.hid hsn
              replace hpl2 := Lib.hid hpl2
              replace hmem := Lib.hid hmem
              replace hsm := Lib.hid hsm
              replace hrow := Lib.hid hrow
              replace hjs := Lib.hid hjs
              replace hkk := Lib.hid hkk
              clear hfin0 hrow2 hrows hpl
              go_wp2
              go_roundw
              case rel => exact ⟨r + 1, rows ++ [row], by go_num, by rw [hsn.out], hpl2.out, hmem.out, trivial⟩
              case measure => simp [intOf]; omega
end Go.Proofs.Ytamhebjejgcbjaa.Paste
