/- UniqAlike: no two lines that come out, one behind the other, are alike; with how many each was, they are the input's. -/
import Derived.Test.YtdhmlojodihjkaaDoorCat3
import Derived.Test.YtdhmlojodihjkaaDoorDig
import Derived.Test.YtdhmlojodihjkaaDoorUniqA
import Derived.Test.YtdhmlojodihjkaaDoorUniqAwake
import Derived.Test.YtdhmlojodihjkaaDoorRef4
import Derived.Deep.RegionHeld3
import Derived.Deep.DrawnRows
import Derived.BigQuiet
import Derived.Outline
import Derived.Test.YtdhmlojodihjkaaDoorUniqTold
import Derived.Test.YtdhmlojodihjkaaDoorRef4B
/- Texts, byte by byte. -/
namespace Go.Proofs.YtdhmlojodihjkaaDoor
open Go Go.RowKit

theorem byteArray_size (S : Bs) : (⟨S.toArray⟩ : ByteArray).size = S.length := by simp [ByteArray.size]
theorem byteArray_at (S : Bs) (j : Nat) (h : j < (⟨S.toArray⟩ : ByteArray).size) : (⟨S.toArray⟩ : ByteArray)[j]'h = S[j]'(by rw [byteArray_size] at h; exact h) := rfl
/-- The first byte of digits and more. -/
theorem str_digit (S : Bs) (d : UInt8) (r : Bs) (e : d :: r = S) (h : 0 < (⟨S.toArray⟩ : ByteArray).size) (hd : 48 ≤ d.toNat ∧ d.toNat ≤ 57) :
    (48 : Int) ≤ (((⟨S.toArray⟩ : ByteArray)[0]'h).toNat : Nat) ∧ ¬ (57 : Int) < (((⟨S.toArray⟩ : ByteArray)[0]'h).toNat : Nat) ∧ d.toNat = ((⟨S.toArray⟩ : ByteArray)[0]'h).toNat := by
  subst e
  rw [byteArray_at]
  exact ⟨by simp; omega, by simp; omega, rfl⟩
theorem str_blank0 (S r : Bs) (e : 32 :: r = S) (h : 0 < (⟨S.toArray⟩ : ByteArray).size) : ¬ (48 : Int) ≤ (((⟨S.toArray⟩ : ByteArray)[0]'h).toNat : Nat) := by
  subst e
  rw [byteArray_at]
  simp
theorem str_head (S P c : Bs) (e : P ++ c = S) : (⟨S.toArray⟩ : ByteArray).extract 0 P.length = ⟨P.toArray⟩ := by
  subst e
  apply ByteArray.ext
  simp
theorem str_tail (S P c : Bs) (e : P ++ c = S) : (⟨S.toArray⟩ : ByteArray).extract P.length S.length = ⟨c.toArray⟩ := by
  subst e
  apply ByteArray.ext
  have : P.length + c.length - P.length = c.length := by omega
  simp [this]
theorem str_next (S r : Bs) (d : UInt8) (e : d :: r = S) : (⟨S.toArray⟩ : ByteArray).extract 1 S.length = ⟨r.toArray⟩ := by
  have := str_tail S [d] r e
  simpa using this
theorem digV_pre (ds : Bs) (j : Nat) : digV (ds.take j) ≤ digV ds := by
  have := digV_le (ds.take j) (ds.drop j)
  rwa [List.take_append_drop] at this
end Go.Proofs.YtdhmlojodihjkaaDoor

/- Runs of lines that are alike, one by one. -/
namespace Go.Proofs.YtdhmlojodihjkaaDoor
open Go Go.RowKit

theorem apart_at (g : List (Bs × Nat)) (h : RApart g) : ∀ q, (hq : q + 1 < g.length) → g[q + 1].1 ≠ (g[q]'(by omega)).1 := by
  induction g with
  | nil => intro q hq; simp at hq
  | cons a t ih =>
    intro q hq
    cases t with
    | nil => simp at hq
    | cons b t =>
      cases q with
      | zero => exact fun e => h.1 e.symm
      | succ q => exact ih h.2 q (by simpa using hq)

def upTo (g : List (Bs × Nat)) (q : Nat) : Nat := ((g.take q).map fun p => p.2).sum
theorem upTo_succ (g : List (Bs × Nat)) (q : Nat) (h : q < g.length) : upTo g (q + 1) = upTo g q + g[q].2 := by
  unfold upTo
  rw [List.take_succ_eq_append_getElem h, List.map_append, List.sum_append]
  simp only [List.map_cons, List.map_nil, List.sum_cons, List.sum_nil, Nat.add_zero]
theorem upTo_all (g : List (Bs × Nat)) : upTo g g.length = (flat g).length := by
  unfold upTo
  rw [List.take_length, flat_len]
theorem flat_at (g : List (Bs × Nat)) : ∀ q, (hq : q < g.length) → ∀ k, k < g[q].2 → (flat g)[upTo g q + k]? = some g[q].1 := by
  induction g with
  | nil => intro q hq; simp at hq
  | cons p t ih =>
    intro q hq k hk
    have e : flat (p :: t) = List.replicate p.2 p.1 ++ flat t := by simp [flat]
    rw [e]
    cases q with
    | zero =>
      have hk : k < p.2 := hk
      have e0 : upTo (p :: t) 0 = 0 := rfl
      rw [e0, Nat.zero_add, List.getElem?_append_left (by simpa using hk), List.getElem?_replicate, if_pos hk]
      rfl
    | succ q =>
      have e1 : upTo (p :: t) (q + 1) = p.2 + upTo t q := by simp [upTo]
      rw [e1, List.getElem?_append_right (by simp; omega)]
      have := ih q (by simpa using hq) k hk
      have e2 : p.2 + upTo t q + k - (List.replicate p.2 p.1).length = upTo t q + k := by simp; omega
      rw [e2]
      exact this

/-- What stands ahead at run q: how many lines there are, and the line. -/
theorem run_text (g : List (Bs × Nat)) (q : Nat) (h : q < g.length) (hc : g[q].2 ≤ 2000) (h1 : 1 ≤ g[q].2) :
    ∃ (ds tl : Bs), (g.drop q).flatMap (fun p => uPiece p.1 p.2) = ds ++ (([32] ++ g[q].1 ++ [10]) ++ tl) ∧ tl = (g.drop (q + 1)).flatMap (fun p => uPiece p.1 p.2) ∧ digV ds = g[q].2 ∧
      (∀ j, (hj : j < ds.length) → 48 ≤ ds[j].toNat ∧ ds[j].toNat ≤ 57) ∧ (∀ j, (hj : j < ds.length) → digV (ds.take (j + 1)) = digV (ds.take j) * 10 + (ds[j].toNat - 48)) ∧ ds.length ≤ 20 := by
  refine ⟨Lib.decDigits g[q].2, _, ?_, rfl, (decDigits_all _).1, fun j hj => (decDigits_all _).2 _ (List.getElem_mem hj), fun j hj => ?_, ?_⟩
  · rw [List.drop_eq_getElem_cons h, List.flatMap_cons]
    unfold uPiece
    rw [Lib.itoa_nonneg]
    simp
  · rw [← digV_snoc, List.take_succ_eq_append_getElem hj]
  · rw [Lib.decDigits_length]; exact Lib.nDigits_le20 _ (by omega)
theorem piece_len (g : List (Bs × Nat)) (h : ∀ p ∈ g, p.1.length ≤ 64 ∧ p.2 ≤ 2000) : (g.flatMap (fun p => uPiece p.1 p.2)).length ≤ 100 * g.length := by
  induction g with
  | nil => simp
  | cons p t ih =>
    have h1 := ih (fun x hx => h x (by simp [hx]))
    have h2 := h p (by simp)
    have h3 := Lib.itoa_length_le (p.2 : Int) (by omega) (by omega)
    have e : (uPiece p.1 p.2).length = (Lib.itoa (p.2 : Int)).length + p.1.length + 2 := by unfold uPiece; simp; omega
    rw [List.flatMap_cons, List.length_append, List.length_cons, e]
    omega
theorem text_len (g : List (Bs × Nat)) (h : ∀ p ∈ g, p.1.length ≤ 64) : (g.flatMap (fun p => p.1 ++ [10])).length ≤ 65 * g.length := by
  induction g with
  | nil => simp
  | cons p t ih =>
    have h1 := ih (fun x hx => h x (by simp [hx]))
    have h2 := h p (by simp)
    have e : (p.1 ++ [10]).length = p.1.length + 1 := by simp
    rw [List.flatMap_cons, List.length_append, List.length_cons, e]
    omega
theorem sum_ge (l : List Nat) (x : Nat) (h : x ∈ l) : x ≤ l.sum := by
  induction l with
  | nil => cases h
  | cons y r ih =>
    rw [List.sum_cons]
    rcases List.mem_cons.1 h with rfl | h
    · omega
    · have := ih h; omega
theorem runs_len (l : List Bs) : (runs l).length ≤ l.length ∧ ∀ p ∈ runs l, 1 ≤ p.2 ∧ p.2 ≤ l.length := by
  have h := runs_ok l
  have hs : ((runs l).map fun p => p.2).sum = l.length := by rw [← flat_len, h.1]
  have h1 := h.2.1
  generalize runs l = g at *
  constructor
  · rw [← hs]
    clear hs h
    induction g with
    | nil => simp
    | cons p t ih =>
      have := ih (fun x hx => h1 x (by simp [hx]))
      have := h1 p (by simp)
      simp
      omega
  · intro p hp
    refine ⟨h1 p hp, ?_⟩
    rw [← hs]
    exact sum_ge _ _ (List.mem_map.2 ⟨p, hp, rfl⟩)
end Go.Proofs.YtdhmlojodihjkaaDoor

/- penstocklaw09's lines: the lines of bytes that have ended. -/
namespace Go.Proofs.YtdhmlojodihjkaaDoor.Uniq
open Go Go.RowKit

def LnsPost (w : World) (r : RdL) (e : Ending) (w' : World) : Prop :=
  ∃ (A : Option Addr) (c : Nat), e = .returned (.tuple #[.slice A r.lines.length c, .bool r.all]) ∧ Rd w' (fun _ => True) 1 A r.lines.length (r.lines.map strv) ∧ Chg (fun _ => False) w w'

set_option maxRecDepth 100000 in
theorem lns_any (b : Bs) (A : Option Addr) (c : Nat) (w : World) (hb : Rd w (fun _ => True) 1 A b.length (u8s b)) (hcb : b.length ≤ c) (hl : b.length ≤ 1048576) :
    Calls Tryd.prog 31 #[.slice A b.length c] w (LnsPost w (refLines ⟨b, true, 0, 0, 0⟩)) := by
  have hli := lines_any (fun _ => True) ⟨b, true, 0, 0, 0⟩ _ w ⟨A, c, rfl, hb, hcb⟩ (by dsimp only; omega)
  generalize refLines ⟨b, true, 0, 0, 0⟩ = r at *
  go_enter Tryd.func31, Tryd.ntmps31
  go_wp2_with (first
    | (go_at_call 49
       refine hli.mono ?_
       rintro e1 w1 ⟨v1, rfl, hown1, hb1⟩
       obtain ⟨A5, c5, rfl, hrd1⟩ := own_rd hown1))
  have k1 : Chg (fun _ => False) w w1 := Chg.of_below hb1
  have hrd2 : Rd w1 (fun _ => True) 1 A5 r.lines.length (r.lines.map strv) := hrd1.mono (fun _ _ _ => trivial)
  clear hown1 hrd1 hb1
  go_quiet (fail)
  go_wp2
  go_ret2
  exact ⟨A5, c5, rfl, hrd2.chg (S := fun _ => False) (((Chg.refl _ _).alloc _).drewN _) (fun _ _ _ h => h), (k1.alloc _).drewN _⟩
end Go.Proofs.YtdhmlojodihjkaaDoor.Uniq

/- UniqAlike: no two lines that come out, one behind the other, are alike; with how many each was, they are the input's. -/
namespace Go.Proofs.YtdhmlojodihjkaaDoor.Uniq
open Go Go.RowKit

def strLen : Value → Nat
  | .string b => b.size
  | _ => 0
theorem strLen_strv (b : Bs) : strLen (strv b) = b.length := by simp [strLen, ByteArray.size]

theorem fit_of (n : Int) (h : n = 0 ∨ n = 1) : fitP ⟨8, n, [], []⟩ := by
  rcases h with rfl | rfl
  all_goals exact ⟨by decide, rfl⟩

theorem ended_den (n : Int) (b : Bs) (h : (refLines ⟨b, true, 0, 0, 0⟩).all = true) : (den n [endS b]).need = -1 ∧ (den n [endS b]).err = 0 := by
  have hf := refLines_ended b h
  have hr := linesAll_ref uniqK (uniq0 n) (endS b)
  have hf2 : (cutS [] (endS b).bs).2.2 = false := hf
  rw [hf2] at hr
  constructor
  · show (linesAll uniqK (uniq0 n) (endS b)).2.1 = -1
    rw [hr]; simp [endS]
  · show (linesAll uniqK (uniq0 n) (endS b)).2.2 = 0
    rw [hr]; simp

set_option maxHeartbeats 4000000 in
set_option maxRecDepth 100000 in
theorem alike_law (b : Bs) (cuts : List Int) (A C : Option Addr) (ci cc : Nat) (w : World)
    (hcb : b.length ≤ ci) (hbk : b.length ≤ 1048576) (hins : Rd w (fun _ => True) 1 A b.length (u8s b)) (hcl : cuts.length ≤ maxLen) (hcuts : Rd w (fun _ => True) 1 C cuts.length (i64s cuts)) (hE : E w.heap.size w) :
    Calls Tryd.prog 9 #[.slice A b.length ci, .slice C cuts.length cc] w (TruePost w) := by
  have hEE : ∀ W, Chg (fun _ => False) w W → E w.heap.size W := fun W hW => E_on (hW.below (Nat.le_refl _) (fun _ h => h.elim)) hE
  have haw := fun (W : World) (hW : Chg (fun _ => False) w W) => awake_any w.heap.size W hW.size (hEE W hW)
  have hhv := fun (W : World) (C2 : Option Addr) (c2 : Nat) (hr : Rd W (fun _ => True) 1 C2 1 [.slice C cuts.length cc]) =>
    heavy_any (fun _ => True) 8 0 none none 0 0 0 0 none C2 0 c2 [] [(C, cuts.length, cc)] W (by simp [maxLen]) (by simp [maxLen]) (by simp [maxLen]) ⟨none, 0, [], rfl, rfl, Rd.nil _ _ _ _, fun _ h => by cases h⟩ (fun _ h => by cases h) hr (by simp) (by
      intro c hc
      simp at hc
      subst hc
      exact hcl)
  have hst : Blk (w.alloc (.cells #[.int .i64 8, .int .i64 0, .slice none 0 0, .slice none 0 0] 24)) w.heap.size 24 #[.int .i64 8, .int .i64 0, .slice none 0 0, .slice none 0 0] := Blk.new _ _ _
  have hst1 : Blk ((w.alloc (.cells #[.int .i64 8, .int .i64 0, .slice none 0 0, .slice none 0 0] 24)).alloc (.cells #[.int .i64 8, .int .i64 1, .slice none 0 0, .slice none 0 0] 24)) (w.heap.size + 1) 24 #[.int .i64 8, .int .i64 1, .slice none 0 0, .slice none 0 0] := blk_new' _ _ (by simp)
  have hln := fun (W : World) (hW : Chg (fun _ => False) w W) => lns_any b A ci W (hins.chg hW (fun _ _ _ h => h)) hcb (by omega)
  have hal0 := ended_den 0 b
  have hal1 := ended_den 1 b
  have hnl := (refLines_sum ⟨b, true, 0, 0, 0⟩).2
  have hl64 := refLines_len ⟨b, true, 0, 0, 0⟩
  have hat := alike_texts b
  generalize hh : heavyB 0 0 [] [(C, cuts.length, cc)] = hβ at *
  unfold LnsPost at hln
  replace haw := Lib.hid haw
  replace hhv := Lib.hid hhv
  by_cases hok : (b.length ≤ 2000 ∧ (refLines ⟨b, true, 0, 0, 0⟩).all = true) ∧ hβ = false
  · obtain ⟨⟨hl2, hall⟩, rfl⟩ := hok
    have hsz := heavyB_false hh
    have hl2' : ¬ (2000 : Int) < (b.length : Int) := by omega
    have htl := fun (n : Int) (hn : n = 0 ∨ n = 1) (W : World) (hW : Chg (fun _ => False) w W) (A2 : Option Addr) (c2 : Nat) (hi2 : BssAt W (fun _ => True) (.slice A2 [b].length c2) [b]) =>
      told_any (fun _ => True) ⟨8, n, [], []⟩ ⟨by dsimp only; omega, by dsimp only; omega, by simp, by simp⟩ [b] ⟨fit_of n hn, by rw [(fit_n (fit_of n hn)).2.2.1]; rfl⟩ (fun x hx => by simp at hx; subst hx; omega) (ended_den n b hall) cuts (by have := hsz.2.2.2.2 (C, cuts.length, cc) (by simp); dsimp only at this; omega) _ A2 C c2 cc W (prm_lit W 8 n) (by simp) hi2 (hcuts.chg hW (fun _ _ _ h => h)) w.heap.size hW.size (hEE W hW)
    unfold ToldPost at htl
    have hbs := fun (W : World) (hW : Chg (fun _ => False) w W) (g : Nat) (hg : W.heap.size = g) (T : TypeId) => (show BssAt (W.alloc (.cells #[.slice A b.length ci] T)) (fun _ => True) (.slice (some ⟨g, 0, none⟩) 1 1) [b] from
      ⟨some ⟨g, 0, none⟩, 1, [(b, .slice A b.length ci)], rfl, rfl, row_new _ 1 rfl hg, fun t ht => by
        simp at ht
        subst ht
        exact ⟨⟨A, ci, rfl, (hins.chg hW (fun _ _ _ h => h)).chg ((Chg.refl (fun _ => False) W).alloc _) (fun _ _ _ h => h)⟩, capOk_slice hcb⟩⟩)
    have ho0 : (den 0 [endS b]).outs 0 = (runs (refLines ⟨b, true, 0, 0, 0⟩).lines).flatMap (fun p => p.1 ++ [10]) := by
      rw [← hat.1]
      refine (uniq_outs 0 (endS b) (by show b.length ≤ _; omega) 0).trans ?_
      show (if (0 : Nat) = 0 then uniqText (0 == 1) (refLines ⟨b, true, 0, 0, 0⟩).all (refLines ⟨b, true, 0, 0, 0⟩).lines else []) = _
      rw [hall, if_pos rfl]
      rfl
    have ho1 : (den 1 [endS b]).outs 0 = (runs (refLines ⟨b, true, 0, 0, 0⟩).lines).flatMap (fun p => uPiece p.1 p.2) := by
      rw [← hat.2.1]
      refine (uniq_outs 1 (endS b) (by show b.length ≤ _; omega) 0).trans ?_
      show (if (0 : Nat) = 0 then uniqText (1 == 1) (refLines ⟨b, true, 0, 0, 0⟩).all (refLines ⟨b, true, 0, 0, 0⟩).lines else []) = _
      rw [hall, if_pos rfl]
      rfl
    have hal0 := hal0 hall
    have hal1 := hal1 hall
    have hr3 := hat.2.2
    rw [hat.1] at hr3
    clear hat
    generalize refLines ⟨b, true, 0, 0, 0⟩ = r at *
    obtain ⟨lines, all, r1, r2, r3⟩ := r
    dsimp only at hall hnl hl64 ho0 ho1 hr3
    subst hall
    have hrl := runs_len lines
    have hro := runs_ok lines
    have hrm := runs_mem lines
    have hll : lines.length ≤ 2000 := by omega
    generalize hG : runs lines = G at *
    have hGl : G.length ≤ 2000 := by omega
    have hG64 : ∀ p ∈ G, p.1.length ≤ 64 := fun p hp => hl64 _ (hrm p hp)
    have ht0 := text_len G hG64
    have ht1 := piece_len G (fun p hp => ⟨hG64 p hp, by have := (hrl.2 p hp).2; omega⟩)
    have hlt := fun (W : World) (c : Nat) (g : Nat) (hr : Rd W (fun _ => True) 1 (some ⟨g, 0, none⟩) (G.flatMap (fun p => p.1 ++ [10])).length (u8s (G.flatMap (fun p => p.1 ++ [10])))) (hc : (G.flatMap (fun p => p.1 ++ [10])).length ≤ c) =>
      lns_any (G.flatMap (fun p => p.1 ++ [10])) (some ⟨g, 0, none⟩) c W hr hc (by omega)
    unfold LnsPost at hlt
    rw [hr3] at hlt
    generalize hT0 : G.flatMap (fun p => p.1 ++ [10]) = T0 at *
    generalize hT1 : G.flatMap (fun p => uPiece p.1 p.2) = T1 at *
    replace hT0 := Lib.hid hT0
    replace hT1 := Lib.hid hT1
    replace htl := Lib.hid htl
    replace hbs := Lib.hid hbs
    replace hln := Lib.hid hln
    replace hlt := Lib.hid hlt
    replace ho0 := Lib.hid ho0
    replace ho1 := Lib.hid ho1
    replace hal0 := Lib.hid hal0
    replace hal1 := Lib.hid hal1
    replace hl64 := Lib.hid hl64
    replace hro := Lib.hid hro
    replace hrl := Lib.hid hrl
    replace hrm := Lib.hid hrm
    replace hG64 := Lib.hid hG64
    replace hG := Lib.hid hG
    replace hh := Lib.hid hh
    clear hsz hEE hE hins hcuts hr3
    have tl1 := Lib.hid trivial
    have tt1 := Lib.hid trivial
    have ts1 := Lib.hid trivial
    go_enter Tryd.func9, Tryd.ntmps9
    go_wp2_with (first
      | (go_at_call 31
         clear tl1
         refine (hln.out _ (((Chg.refl _ _).alloc _).alloc _)).mono ?_
         rintro e1 w1 ⟨A2, c2, rfl, hra, hc1⟩
         have k1 : Chg (fun _ => False) w w1 := (((Chg.refl _ _).alloc _).alloc _).trans hc1 (fun _ h _ => h)
         have hb1 := (hst.alloc _).chg hc1 (fun h => h)
         have hd1 := hst1.chg hc1 (fun h => h)
         have p0 : w1.cell? ⟨w.heap.size, 0, none⟩ = some (.int .i64 8) := (hb1.cell 0).trans rfl
         have p1 : w1.cell? ⟨w.heap.size, 1, none⟩ = some (.int .i64 0) := (hb1.cell 1).trans rfl
         have p2 : w1.cell? ⟨w.heap.size, 2, none⟩ = some (.slice none 0 0) := (hb1.cell 2).trans rfl
         have p3 : w1.cell? ⟨w.heap.size, 3, none⟩ = some (.slice none 0 0) := (hb1.cell 3).trans rfl)
      | (go_at_call 17
         refine (hhv.out _ _ _ (row_new _ 1 rfl rfl)).mono ?_
         rintro e2 w2 ⟨rfl, hc2⟩
         have k2 : Chg (fun _ => False) w w2 := (k1.alloc _).trans hc2 (fun _ h _ => h)
         have hb2 := (hb1.alloc _).chg hc2 (fun h => h)
         have hd2 := (hd1.alloc _).chg hc2 (fun h => h)
         have hr2 := (hra.chg ((Chg.refl (fun _ => False) w1).alloc _) (fun _ _ _ h => h)).chg hc2 (fun _ _ _ h => h)
         clear p0 p1 p2 p3
         have q0 : w2.cell? ⟨w.heap.size, 0, none⟩ = some (.int .i64 8) := (hb2.cell 0).trans rfl
         have q1 : w2.cell? ⟨w.heap.size, 1, none⟩ = some (.int .i64 0) := (hb2.cell 1).trans rfl
         have q2 : w2.cell? ⟨w.heap.size, 2, none⟩ = some (.slice none 0 0) := (hb2.cell 2).trans rfl
         have q3 : w2.cell? ⟨w.heap.size, 3, none⟩ = some (.slice none 0 0) := (hb2.cell 3).trans rfl)
      | (go_at_call 32
         clear tt1
         refine (htl.out 0 (.inl rfl) _ (k2.alloc _) _ _ (hbs.out w2 k2 _ rfl _)).mono ?_
         rintro e3 w3 ⟨hda, tka, rfl, hc3⟩
         have k3 : Chg (fun _ => False) w w3 := (k2.alloc _).trans hc3 (fun _ h _ => h)
         have hd3 := (hd2.alloc _).chg hc3 (fun h => h)
         have hr3 := (hr2.chg ((Chg.refl (fun _ => False) w2).alloc _) (fun _ _ _ h => h)).chg hc3 (fun _ _ _ h => h))
      | (clear ts1
         refine wpList_store_got rfl (.tmp 9) (.tmp 48) rfl w3.heap.size _ _ _ _ _ _ rfl rfl _ (Blk.new w3 _ _) rfl ?_
         intro w4 hG4 hc4
         have k34 : Chg (fun _ => False) w3 w4 := ((Chg.refl _ _).alloc _).trans hc4 (fun k hk hlt => by omega)
         have k4 : Chg (fun _ => False) w w4 := k3.trans k34 (fun _ h _ => h)
         have hd4 := hd3.chg k34 (fun h => h)
         have hr4 := hr3.chg k34 (fun _ _ _ h => h)
         clear q0 q1 q2 q3
         have s0 : w4.cell? ⟨w.heap.size + 1, 0, none⟩ = some (.int .i64 8) := (hd4.cell 0).trans rfl
         have s1 : w4.cell? ⟨w.heap.size + 1, 1, none⟩ = some (.int .i64 1) := (hd4.cell 1).trans rfl
         have s2 : w4.cell? ⟨w.heap.size + 1, 2, none⟩ = some (.slice none 0 0) := (hd4.cell 2).trans rfl
         have s3 : w4.cell? ⟨w.heap.size + 1, 3, none⟩ = some (.slice none 0 0) := (hd4.cell 3).trans rfl)
      | (go_at_call 32
         refine (htl.out 1 (.inr rfl) _ (k4.alloc _) _ _ (hbs.out w4 k4 _ rfl _)).mono ?_
         rintro e5 w5 ⟨hdb, tkb, rfl, hc5⟩
         have k45 : Chg (fun _ => False) w4 w5 := ((Chg.refl _ _).alloc _).trans hc5 (fun _ h _ => h)
         have k5 : Chg (fun _ => False) w w5 := k4.trans k45 (fun _ h _ => h)
         have hr5 := hr4.chg k45 (fun _ _ _ h => h)
         have hG5 := hG4.chg k45 (fun h => h))
      | (refine wpList_store_got rfl (.tmp 11) (.tmp 56) rfl w5.heap.size _ _ _ _ _ _ rfl rfl _ (Blk.new w5 _ _) rfl ?_
         intro w6 hH6 hc6
         have k56 : Chg (fun _ => False) w5 w6 := ((Chg.refl _ _).alloc _).trans hc6 (fun k hk hlt => by omega)
         have k6 : Chg (fun _ => False) w w6 := k5.trans k56 (fun _ h _ => h)
         have hr6 := hr5.chg k56 (fun _ _ _ h => h)
         have hG6 := hG5.chg k56 (fun h => h)
         clear s0 s1 s2 s3
         have g0 : w6.cell? ⟨w3.heap.size, 0, none⟩ = some (strv T0) := (hG6.cell 0).trans (by rw [← ho0.out]; rfl)
         have h0 : w6.cell? ⟨w5.heap.size, 0, none⟩ = some (strv T1) := (hH6.cell 0).trans (by rw [← ho1.out]; rfl)
         obtain ⟨c7, w7, hrun, hc7c, hbel7, hsz7, hrd7⟩ := run_bytes w6 T0
         have k67 : Chg (fun _ => False) w6 w7 := Chg.of_below hbel7
         have k7 : Chg (fun _ => False) w w7 := k6.trans k67 (fun _ h _ => h)
         have hr7 := hr6.chg k67 (fun _ _ _ h => h)
         have hrd7' := hrd7.mono (D' := fun _ => True) (fun _ _ _ => trivial)
         have h07 := (k67.cell (p := ⟨w5.heap.size, 0, none⟩) hH6.lt (fun h => h)).trans h0
         replace hsz7 := Lib.hid hsz7
         replace h07 := Lib.hid h07
         have hH7l := Lib.hid (Nat.lt_of_lt_of_le hH6.lt k67.size))
      | (go_at_call 31
         refine (hlt.out w7 c7 w6.heap.size hrd7' hc7c).mono ?_
         rintro e8 w8 ⟨A8, c8, rfl, hs8, hc8⟩
         have k8 : Chg (fun _ => False) w w8 := k7.trans hc8 (fun _ h _ => h)
         have hr8 := hr7.chg hc8 (fun _ _ _ h => h)
         have h08 := (hc8.cell (p := ⟨w5.heap.size, 0, none⟩) hH7l.out (fun h => h)).trans h07.out))
    clear hst hst1 hb1 hb2 hd1 hd2 hd3 hd4 hG4 hG5 hG6 hH6 hc1 hc2 hc3 hc4 hc5 hc6 k34 k45 k56 k67 hra hr2 hr3 hr4 hr5 hr6 hr7 hrd7 hrd7' g0 h0 hbel7 hrun htl hbs hln hlt hhv ht0
    clear k1 k2 k3 k4 k5 k6 k7 hal0 hal1 ho0 ho1 hc8 h08 h07 hsz7 hH7l hT0
    have hmap : (G.map (fun p => p.1)).length = G.length := by simp
    rw [hmap] at hs8
    have hflat := hro.out.1
    replace hmap := Lib.hid hmap
    replace hflat := Lib.hid hflat
    go_loopw [17, 16, 15] (fun i a rest wr => ∃ q : Nat, q ≤ G.length ∧ i = .int .i64 q ∧ a = .int .i64 (upTo G q : Nat) ∧ rest = strv ((G.drop q).flatMap (fun p => uPiece p.1 p.2)) ∧ Chg (fun _ => False) w8 wr) (fun i _ _ _ => G.length - (intOf i).toNat)
    case atStart => exact ⟨0, by omega, rfl, rfl, by rw [← hT1.out]; rfl, Chg.refl _ _⟩
    case round =>
      obtain ⟨q, hq, rfl, rfl, rfl, hch⟩ := hrel
      have kr := k8.trans hch (fun _ h _ => h)
      have hrr := hr8.chg hch (fun _ _ _ h => h)
      by_cases hqlt : q < G.length
      · have hqlt' : (q : Int) < (G.length : Int) := by omega
        have hq0 : (0 : Int) ≤ (q : Int) := by omega
        have hss := hs8.chg hch (fun _ _ _ h => h)
        obtain ⟨g3, o3, u, rfl, hg3, _, hu, hcell⟩ := hss.at_ hqlt
        rw [List.map_map, List.getElem?_map, List.getElem?_eq_getElem hqlt] at hu
        simp only [Option.map_some, Option.some.injEq, Function.comp_apply] at hu
        subst hu
        have hmem := List.getElem_mem hqlt
        have hx64 := hG64.out _ hmem
        have hc1 := (hrl.out.2 _ hmem).1
        have hc2 := (hrl.out.2 _ hmem).2
        obtain ⟨ds, tl, hS, htl2, hdv, hdd, hd1, hdl⟩ := run_text G q hqlt (by omega) hc1
        have hup := upTo_succ G q hqlt
        have hat2 : ∀ k, k < (G[q]).2 → ∃ h : upTo G q + k < lines.length, lines[upTo G q + k] = (G[q]).1 := fun k hk => by
          have h1 := flat_at G q hqlt k hk
          rw [hflat.out] at h1
          have h2 := (List.getElem?_eq_some_iff.1 h1).1
          exact ⟨h2, (List.getElem?_eq_some_iff.1 h1).2⟩
        have hprev : q = 0 ∨ ∃ (q' : Nat) (y : Bs), q = q' + 1 ∧ wr.cell? ⟨g3, o3 + q', none⟩ = some (strv y) ∧ (G[q]).1 ≠ y := by
          rcases Nat.eq_zero_or_pos q with h | h
          · exact .inl h
          · obtain ⟨q', rfl⟩ : ∃ q', q = q' + 1 := ⟨q - 1, by omega⟩
            obtain ⟨g4, o4, u4, e4, _, _, hu4, hcell4⟩ := hss.at_ (k := q') (by omega)
            cases e4
            rw [List.map_map, List.getElem?_map, List.getElem?_eq_getElem (by omega)] at hu4
            simp only [Option.map_some, Option.some.injEq, Function.comp_apply] at hu4
            subst hu4
            exact .inr ⟨q', _, rfl, hcell4, apart_at G hro.out.2.2 q' hqlt⟩
        rw [hS]
        have hTl := piece_len (G.drop q) (fun p hp => ⟨hG64.out p (List.mem_of_mem_drop hp), by have := (hrl.out.2 p (List.mem_of_mem_drop hp)).2; omega⟩)
        rw [hS, List.length_drop] at hTl
        generalize hgx : G[q] = gx at *
        obtain ⟨x, c⟩ := gx
        dsimp only at hx64 hc1 hc2 hdv hat2 hprev hcell hTl hup
        replace hgx := Lib.hid hgx
        replace hS := Lib.hid hS
        replace htl2 := Lib.hid htl2
        replace hup := Lib.hid hup
        replace hat2 := Lib.hid hat2
        have hc2' : c ≤ 2000 := by omega
        have c1 := fun W => run_cat3 [32] x (by simp) (by omega) W
        have c2' := fun W => run_cat3 ([32] ++ x) [10] (by simp; omega) (by simp) W
        have hPl : ([32] ++ x ++ [10]).length = x.length + 2 := by simp
        have hPc : [32] ++ x ++ [10] = 32 :: (x ++ [10]) := rfl
        generalize hPP : [32] ++ x ++ [10] = P at *
        generalize hyy : [32] ++ x = y at *
        replace hPP := Lib.hid hPP
        replace hyy := Lib.hid hyy
        replace hPc := Lib.hid hPc
        replace hdv := Lib.hid hdv
        replace hdd := Lib.hid hdd
        replace hd1 := Lib.hid hd1
        have hPb : P.length ≤ 66 := by omega
        have hTb : tl.length ≤ 1000000 := by simp at hTl; omega
        clear hTl hPl hss hmem
        obtain ⟨wo, rfl⟩ : ∃ wo, wo = wr := ⟨wr, rfl⟩
        rcases hprev with hz0 | ⟨q', y', hqq, hcp, hne⟩
        · have hz : ¬ (0 : Int) < (q : Int) := by omega
          have hz1 := Lib.hid (show decide ((0 : Int) < (q : Int)) = false from decide_eq_false hz)
          have hz2 := Lib.hid (show decide (0 < q) = false from decide_eq_false (by omega))
          replace hz0 := Lib.hid hz0
          go_wp2
          replace hz1 := hz1.out
          replace hz2 := hz2.out
          go_quiet (fail)
          go_wp2
          go_loopw [18, 15] (fun v rest wq => ∃ j : Nat, j ≤ ds.length ∧ v = .int .i64 (digV (ds.take j) : Nat) ∧ rest = strv (ds.drop j ++ (P ++ tl)) ∧ Chg (fun _ => False) wo wq) (fun _ rest _ => strLen rest)
          case atStart => exact ⟨0, by omega, rfl, rfl, (Chg.refl _ _).drewN _⟩
          case round =>
            obtain ⟨j, hj, rfl, rfl, hch2⟩ := hrel
            by_cases hjl : j < ds.length
            · have hdj := hdd.out j hjl
              have hst1 := hd1.out j hjl
              have hpp := digV_pre ds (j + 1)
              rw [hdv.out] at hpp
              have hSe : ds[j] :: (ds.drop (j + 1) ++ (P ++ tl)) = ds.drop j ++ (P ++ tl) := by rw [List.drop_eq_getElem_cons hjl]; rfl
              have hSl : (ds.drop j ++ (P ++ tl)).length = (ds.length - j) + (P.length + tl.length) := by simp
              generalize hSS : ds.drop j ++ (P ++ tl) = S at *
              generalize hNN : ds.drop (j + 1) ++ (P ++ tl) = N1 at *
              have h0z : 0 < (⟨S.toArray⟩ : ByteArray).size := by rw [byteArray_size]; omega
              obtain ⟨hx1, hx2, hx3⟩ := str_digit S _ _ hSe h0z hdj
              rw [hx3] at hst1
              have hex := str_next S _ _ hSe
              have hS0 : 0 < S.length := by omega
              have hS0' : (0 : Int) < (S.length : Int) := by omega
              have hS1 : (1 : Int) ≤ (S.length : Int) := by omega
              have hSb : S.length ≤ 2000000 := by omega
              have hSz : (⟨S.toArray⟩ : ByteArray).size = S.length := byteArray_size S
              have hn5 : ((digV (ds.take j) : Nat) : Int) < 100000 := by omega
              replace hSS := Lib.hid hSS
              replace hSe := Lib.hid hSe
              replace hNN := Lib.hid hNN
              generalize hdt : digV (ds.take j) = dv at *
              replace hdt := Lib.hid hdt
              replace hst1 := Lib.hid hst1
              clear hSl hdj hx3
              have hx4 : (((⟨S.toArray⟩ : ByteArray)[0]'h0z).toNat : Int) ≤ 57 := by omega
              clear hx2
              have hm : S.length = N1.length + 1 := by rw [← hSe.out]; simp
              replace hm := Lib.hid hm
              go_wp2
              go_roundw
              case rel => exact ⟨j + 1, by omega, by rw [hst1.out]; try (congr 1; omega), by rw [hNN.out], hch2⟩
              case measure =>
                show strLen (strv N1) < strLen (strv S)
                rw [strLen_strv, strLen_strv, hm.out]
                omega
            · obtain rfl : j = ds.length := by omega
              rw [List.take_length, hdv.out, List.drop_length, List.nil_append]
              have hSl : (P ++ tl).length = P.length + tl.length := by simp
              have hPe : 32 :: ((x ++ [10]) ++ tl) = P ++ tl := by rw [hPc.out]; rfl
              have hP1 : 1 ≤ P.length := by rw [hPc.out]; simp
              generalize hSS : P ++ tl = S at *
              have h0z : 0 < (⟨S.toArray⟩ : ByteArray).size := by rw [byteArray_size]; omega
              have hx1 := str_blank0 S _ hPe h0z
              have hx1' : (((⟨S.toArray⟩ : ByteArray)[0]'h0z).toNat : Int) < 48 := by omega
              have hex := str_head S P tl hSS
              have hex2 := str_tail S P tl hSS
              have hS0 : 0 < S.length := by omega
              have hS0' : (0 : Int) < (S.length : Int) := by omega
              have hSb : S.length ≤ 2000000 := by omega
              have hSz : (⟨S.toArray⟩ : ByteArray).size = S.length := byteArray_size S
              have hcx := (hch2.cell (p := ⟨g3, o3 + q, none⟩) hg3 (fun h => h)).trans hcell
              have hc0 : ¬ ((c : Nat) : Int) < 1 := by omega
              have ha1 : ¬ ((S.length : Nat) : Int) < ((P.length : Nat) : Int) := by omega
              have ha2 : ((P.length : Nat) : Int) ≤ ((S.length : Nat) : Int) := by omega
              replace hSS := Lib.hid hSS
              replace hPe := Lib.hid hPe
              clear hSl hx1
              go_wp2
              obtain ⟨wi, rfl⟩ : ∃ wi, wi = wr := ⟨wr, rfl⟩
              go_loopw [20, 16] (fun k a wq => ∃ kk : Nat, kk ≤ c ∧ k = .int .i64 kk ∧ a = .int .i64 (upTo G q + kk : Nat) ∧ Chg (fun _ => False) wi wq) (fun k _ _ => c - (intOf k).toNat)
              case atStart => exact ⟨0, by omega, rfl, rfl, Chg.refl _ _⟩
              case round =>
                obtain ⟨kk, hkk, rfl, rfl, hch3⟩ := hrel
                by_cases hkl : kk < c
                · have hkl' : (kk : Int) < (c : Int) := by omega
                  obtain ⟨hidx, hline⟩ := hat2.out kk hkl
                  have hcq := (hch2.trans hch3 (fun _ h _ => h))
                  obtain ⟨g5, o5, u5, rfl, hg5, _, hu5, hcell5⟩ := (hrr.chg hcq (fun _ _ _ h => h)).at_ hidx
                  rw [List.getElem?_map, List.getElem?_eq_getElem hidx, hline] at hu5
                  simp only [Option.map_some, Option.some.injEq] at hu5
                  subst hu5
                  have hcx3 := (hch3.cell (p := ⟨g3, o3 + q, none⟩) (Nat.lt_of_lt_of_le hg3 hch2.size) (fun h => h)).trans hcx
                  generalize hii : upTo G q + kk = ii at *
                  have hi1 : ¬ (lines.length : Int) ≤ (ii : Int) := by omega
                  have hi2 : (ii : Int) < (lines.length : Int) := by omega
                  have hi0 : (0 : Int) ≤ (ii : Int) := by omega
                  have hib : ii ≤ 2000 := by omega
                  have hi3 := Lib.hid (show decide ((lines.length : Int) ≤ (ii : Int)) = false from decide_eq_false hi1)
                  have hi4 := Lib.hid (show decide (lines.length ≤ ii) = false from decide_eq_false (by omega))
                  have hi5 := Lib.hid (show decide ((ii : Int) < (lines.length : Int)) = true from decide_eq_true hi2)
                  have hi6 := Lib.hid (show decide (ii < lines.length) = true from decide_eq_true (by omega))
                  replace hii := Lib.hid hii
                  clear hline
                  go_wp2
                  replace hi3 := hi3.out
                  replace hi4 := hi4.out
                  go_quiet (fail)
                  go_wp2
                  go_roundw
                  case rel => exact ⟨kk + 1, by omega, by go_num, by rw [← Nat.add_assoc, hii.out]; go_num, hch3.drewN _⟩
                  case measure => simp [intOf]; omega
                · obtain rfl : kk = c := by omega
                  have hkl' : ¬ (kk : Int) < (kk : Int) := by omega
                  go_wp2
                  go_roundw
                  case rel => exact ⟨q + 1, by omega, by go_num, by rw [hup.out], by rw [← htl2.out], (hch.trans hch2 (fun _ h _ => h)).trans hch3 (fun _ h _ => h)⟩
                  case measure => simp [intOf]; omega
        · have hz : (0 : Int) < (q : Int) := by omega
          have hqm : (q : Int) - 1 = (q' : Int) := by omega
          have hneb : (x == y') = false := by rw [beq_eq_false_iff_ne]; exact hne
          have hq1 : (0 : Int) ≤ (q' : Int) := by omega
          have hq2 : (q' : Int) < (G.length : Int) := by omega
          have hz1 := Lib.hid (show decide ((0 : Int) < (q : Int)) = true from decide_eq_true hz)
          have hz2 := Lib.hid (show decide (0 < q) = true from decide_eq_true (by omega))
          replace hqq := Lib.hid hqq
          go_wp2
          replace hz1 := hz1.out
          replace hz2 := hz2.out
          go_quiet (fail)
          go_wp2
          go_loopw [18, 15] (fun v rest wq => ∃ j : Nat, j ≤ ds.length ∧ v = .int .i64 (digV (ds.take j) : Nat) ∧ rest = strv (ds.drop j ++ (P ++ tl)) ∧ Chg (fun _ => False) wo wq) (fun _ rest _ => strLen rest)
          case atStart => exact ⟨0, by omega, rfl, rfl, (Chg.refl _ _).drewN _⟩
          case round =>
            obtain ⟨j, hj, rfl, rfl, hch2⟩ := hrel
            by_cases hjl : j < ds.length
            · have hdj := hdd.out j hjl
              have hst1 := hd1.out j hjl
              have hpp := digV_pre ds (j + 1)
              rw [hdv.out] at hpp
              have hSe : ds[j] :: (ds.drop (j + 1) ++ (P ++ tl)) = ds.drop j ++ (P ++ tl) := by rw [List.drop_eq_getElem_cons hjl]; rfl
              have hSl : (ds.drop j ++ (P ++ tl)).length = (ds.length - j) + (P.length + tl.length) := by simp
              generalize hSS : ds.drop j ++ (P ++ tl) = S at *
              generalize hNN : ds.drop (j + 1) ++ (P ++ tl) = N1 at *
              have h0z : 0 < (⟨S.toArray⟩ : ByteArray).size := by rw [byteArray_size]; omega
              obtain ⟨hx1, hx2, hx3⟩ := str_digit S _ _ hSe h0z hdj
              rw [hx3] at hst1
              have hex := str_next S _ _ hSe
              have hS0 : 0 < S.length := by omega
              have hS0' : (0 : Int) < (S.length : Int) := by omega
              have hS1 : (1 : Int) ≤ (S.length : Int) := by omega
              have hSb : S.length ≤ 2000000 := by omega
              have hSz : (⟨S.toArray⟩ : ByteArray).size = S.length := byteArray_size S
              have hn5 : ((digV (ds.take j) : Nat) : Int) < 100000 := by omega
              replace hSS := Lib.hid hSS
              replace hSe := Lib.hid hSe
              replace hNN := Lib.hid hNN
              generalize hdt : digV (ds.take j) = dv at *
              replace hdt := Lib.hid hdt
              replace hst1 := Lib.hid hst1
              clear hSl hdj hx3
              have hx4 : (((⟨S.toArray⟩ : ByteArray)[0]'h0z).toNat : Int) ≤ 57 := by omega
              clear hx2
              have hm : S.length = N1.length + 1 := by rw [← hSe.out]; simp
              replace hm := Lib.hid hm
              go_wp2
              go_roundw
              case rel => exact ⟨j + 1, by omega, by rw [hst1.out]; try (congr 1; omega), by rw [hNN.out], hch2⟩
              case measure =>
                show strLen (strv N1) < strLen (strv S)
                rw [strLen_strv, strLen_strv, hm.out]
                omega
            · obtain rfl : j = ds.length := by omega
              rw [List.take_length, hdv.out, List.drop_length, List.nil_append]
              have hSl : (P ++ tl).length = P.length + tl.length := by simp
              have hPe : 32 :: ((x ++ [10]) ++ tl) = P ++ tl := by rw [hPc.out]; rfl
              have hP1 : 1 ≤ P.length := by rw [hPc.out]; simp
              generalize hSS : P ++ tl = S at *
              have h0z : 0 < (⟨S.toArray⟩ : ByteArray).size := by rw [byteArray_size]; omega
              have hx1 := str_blank0 S _ hPe h0z
              have hx1' : (((⟨S.toArray⟩ : ByteArray)[0]'h0z).toNat : Int) < 48 := by omega
              have hex := str_head S P tl hSS
              have hex2 := str_tail S P tl hSS
              have hS0 : 0 < S.length := by omega
              have hS0' : (0 : Int) < (S.length : Int) := by omega
              have hSb : S.length ≤ 2000000 := by omega
              have hSz : (⟨S.toArray⟩ : ByteArray).size = S.length := byteArray_size S
              have hcx := (hch2.cell (p := ⟨g3, o3 + q, none⟩) hg3 (fun h => h)).trans hcell
              have hc0 : ¬ ((c : Nat) : Int) < 1 := by omega
              have ha1 : ¬ ((S.length : Nat) : Int) < ((P.length : Nat) : Int) := by omega
              have ha2 : ((P.length : Nat) : Int) ≤ ((S.length : Nat) : Int) := by omega
              replace hSS := Lib.hid hSS
              replace hPe := Lib.hid hPe
              clear hSl hx1
              go_wp2
              obtain ⟨wi, rfl⟩ : ∃ wi, wi = wr := ⟨wr, rfl⟩
              go_loopw [20, 16] (fun k a wq => ∃ kk : Nat, kk ≤ c ∧ k = .int .i64 kk ∧ a = .int .i64 (upTo G q + kk : Nat) ∧ Chg (fun _ => False) wi wq) (fun k _ _ => c - (intOf k).toNat)
              case atStart => exact ⟨0, by omega, rfl, rfl, Chg.refl _ _⟩
              case round =>
                obtain ⟨kk, hkk, rfl, rfl, hch3⟩ := hrel
                by_cases hkl : kk < c
                · have hkl' : (kk : Int) < (c : Int) := by omega
                  obtain ⟨hidx, hline⟩ := hat2.out kk hkl
                  have hcq := (hch2.trans hch3 (fun _ h _ => h))
                  obtain ⟨g5, o5, u5, rfl, hg5, _, hu5, hcell5⟩ := (hrr.chg hcq (fun _ _ _ h => h)).at_ hidx
                  rw [List.getElem?_map, List.getElem?_eq_getElem hidx, hline] at hu5
                  simp only [Option.map_some, Option.some.injEq] at hu5
                  subst hu5
                  have hcx3 := (hch3.cell (p := ⟨g3, o3 + q, none⟩) (Nat.lt_of_lt_of_le hg3 hch2.size) (fun h => h)).trans hcx
                  generalize hii : upTo G q + kk = ii at *
                  have hi1 : ¬ (lines.length : Int) ≤ (ii : Int) := by omega
                  have hi2 : (ii : Int) < (lines.length : Int) := by omega
                  have hi0 : (0 : Int) ≤ (ii : Int) := by omega
                  have hib : ii ≤ 2000 := by omega
                  have hi3 := Lib.hid (show decide ((lines.length : Int) ≤ (ii : Int)) = false from decide_eq_false hi1)
                  have hi4 := Lib.hid (show decide (lines.length ≤ ii) = false from decide_eq_false (by omega))
                  have hi5 := Lib.hid (show decide ((ii : Int) < (lines.length : Int)) = true from decide_eq_true hi2)
                  have hi6 := Lib.hid (show decide (ii < lines.length) = true from decide_eq_true (by omega))
                  replace hii := Lib.hid hii
                  clear hline
                  go_wp2
                  replace hi3 := hi3.out
                  replace hi4 := hi4.out
                  go_quiet (fail)
                  go_wp2
                  go_roundw
                  case rel => exact ⟨kk + 1, by omega, by go_num, by rw [← Nat.add_assoc, hii.out]; go_num, hch3.drewN _⟩
                  case measure => simp [intOf]; omega
                · obtain rfl : kk = c := by omega
                  have hkl' : ¬ (kk : Int) < (kk : Int) := by omega
                  go_wp2
                  go_roundw
                  case rel => exact ⟨q + 1, by omega, by go_num, by rw [hup.out], by rw [← htl2.out], (hch.trans hch2 (fun _ h _ => h)).trans hch3 (fun _ h _ => h)⟩
                  case measure => simp [intOf]; omega
      · have hqlt' : ¬ (q : Int) < (G.length : Int) := by omega
        obtain rfl : q = G.length := by omega
        have hua : upTo G G.length = lines.length := by rw [upTo_all, hflat.out]
        rw [List.drop_length, hua]
        replace hua := Lib.hid hua
        go_wp2_with (first
          | (go_at_call 18
             refine (haw.out _ kr).mono ?_
             rintro e9 w9 ⟨rfl, hc9⟩))
        go_ret
        exact ⟨rfl, kr.trans hc9 (fun _ h _ => h)⟩
  · clear hat hal0 hal1 hnl hl64
    generalize refLines ⟨b, true, 0, 0, 0⟩ = r at *
    obtain ⟨lines, all, r1, r2, r3⟩ := r
    replace hln := Lib.hid hln
    have hcs : (hβ = true) ∨ (hβ = false ∧ (2000 : Int) < (b.length : Int)) ∨ (hβ = false ∧ ¬ (2000 : Int) < (b.length : Int) ∧ all = false) := by
      cases hβ
      · refine .inr ?_
        by_cases h2 : b.length ≤ 2000
        · refine .inr ⟨rfl, by omega, ?_⟩
          cases all
          · rfl
          · exact absurd ⟨⟨h2, rfl⟩, rfl⟩ hok
        · exact .inl ⟨rfl, by omega⟩
      · exact .inl rfl
    clear hok hins hcuts hE hEE hh hst1 hcl
    rcases hcs with rfl | ⟨rfl, h2⟩ | ⟨rfl, h2, rfl⟩
    all_goals
      go_enter Tryd.func9, Tryd.ntmps9
      go_wp2_with (first
        | (go_at_call 31
           refine (hln.out _ (((Chg.refl _ _).alloc _).alloc _)).mono ?_
           rintro e1 w1 ⟨A2, c2, rfl, hra, hc1⟩
           have k1 : Chg (fun _ => False) w w1 := (((Chg.refl _ _).alloc _).alloc _).trans hc1 (fun _ h _ => h)
           have hb1 := (hst.alloc _).chg hc1 (fun h => h)
           have p0 : w1.cell? ⟨w.heap.size, 0, none⟩ = some (.int .i64 8) := (hb1.cell 0).trans rfl
           have p1 : w1.cell? ⟨w.heap.size, 1, none⟩ = some (.int .i64 0) := (hb1.cell 1).trans rfl
           have p2 : w1.cell? ⟨w.heap.size, 2, none⟩ = some (.slice none 0 0) := (hb1.cell 2).trans rfl
           have p3 : w1.cell? ⟨w.heap.size, 3, none⟩ = some (.slice none 0 0) := (hb1.cell 3).trans rfl)
        | (go_at_call 17
           refine (hhv.out _ _ _ (row_new _ 1 rfl rfl)).mono ?_
           rintro e2 w2 ⟨rfl, hc2⟩
           have k2 : Chg (fun _ => False) w w2 := (k1.alloc _).trans hc2 (fun _ h _ => h))
        | (go_at_call 18
           refine (haw.out _ k2).mono ?_
           rintro e9 w9 ⟨rfl, hc9⟩))
      go_ret
      exact ⟨rfl, k2.trans hc9 (fun _ h _ => h)⟩
end Go.Proofs.YtdhmlojodihjkaaDoor.Uniq
