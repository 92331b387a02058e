/- params.of, params.Check, filter.Check of whatever parameters. -/
import Derived.Test.YtkgmbomfkdkofaaBytes
import Derived.Test.YtkgmbomfkdkofaaOfA
import Derived.Test.YtkgmbomfkdkofaaChk2
namespace Go.Proofs.Ytkgmbomfkdkofaa
open Go Go.RowKit

def OfAny (r : Int) (w : World) (e : Ending) (w' : World) : Prop := ∃ a0 a1 a2 a3 a4 a5 a6 : Int, e = .returned (.tuple #[.agg #[.int .i64 a0, .int .i64 a1, .int .i64 a2, .int .i64 a3, .int .i64 a4, .int .i64 a5, .int .i64 a6], .int .i64 r]) ∧ Chg (fun _ => False) w w'

/-- Of the kinds that there are: by the ends of N and what bytes tells. -/
theorem of_row (κ n l m a i o h e : Int) (hk1 : 1 ≤ κ) (hk2 : κ ≤ 16) (A B : Option Addr) (la ca lb cb : Nat) (w : World) (hidx : ∀ w, (Instr.index 119 rulesV (.int .i64 κ)).run Try.prog w = .ok (.agg #[.int .i64 l, .int .i64 m, .int .i64 a, .int .i64 i, .int .i64 o, .int .i64 h, .int .i64 e]) w)
    (β : Bool) (hby : ∀ W, Chg (fun _ => False) w W → Calls Try.prog 45 #[.agg #[.int .i64 l, .int .i64 m, .int .i64 a, .int .i64 i, .int .i64 o, .int .i64 h, .int .i64 e], .agg #[.int .i64 κ, .int .i64 n, .slice A la ca, .slice B lb cb]] W (TellPost β W))
    (r : Bool) (hr : r = (β && (decide (l ≤ n) && decide (n ≤ m)))) (c : Int)
    (hgood : l ≤ n → n ≤ m → β = true → (∀ W, Chg (fun _ => False) w W → Calls Try.prog 45 #[.agg #[.int .i64 l, .int .i64 m, .int .i64 a, .int .i64 i, .int .i64 o, .int .i64 h, .int .i64 e], .agg #[.int .i64 κ, .int .i64 n, .slice A la ca, .slice B lb cb]] W (TellPost true W)) →
      Calls Try.prog 43 #[.agg #[.int .i64 κ, .int .i64 n, .slice A la ca, .slice B lb cb]] w (OfAny c w)) :
    Calls Try.prog 43 #[.agg #[.int .i64 κ, .int .i64 n, .slice A la ca, .slice B lb cb]] w (OfAny (if r = false then 11 else c) w) := by
  by_cases h1 : l ≤ n
  · by_cases h2 : n ≤ m
    · cases hβ : β with
      | false =>
        subst hβ
        have er : r = false := by rw [hr, Bool.false_and]
        rw [if_pos er]
        exact (of_bad κ n l m a i o h e hk1 hk2 h1 h2 A B la ca lb cb w hidx hby).mono fun _ _ hx => ⟨_, _, _, _, _, _, _, hx⟩
      | true =>
        subst hβ
        have er : r = true := by rw [hr, decide_eq_true h1, decide_eq_true h2]; rfl
        rw [if_neg (by rw [er]; decide)]
        exact hgood h1 h2 rfl hby
    · have er : r = false := by rw [hr, decide_eq_false h2, Bool.and_false, Bool.and_false]
      rw [if_pos er]
      exact (of_high κ n l m a i o h e hk1 hk2 h1 (by omega) A B la ca lb cb w hidx).mono fun _ _ hx => ⟨_, _, _, _, _, _, _, hx⟩
  · have er : r = false := by rw [hr, decide_eq_false h1, Bool.false_and, Bool.and_false]
    rw [if_pos er]
    exact (of_low κ n l m a i o h e hk1 hk2 (by omega) A B la ca lb cb w hidx).mono fun _ _ hx => ⟨_, _, _, _, _, _, _, hx⟩

theorem check_row {p : Prm} (h1 : 1 ≤ p.kind) (h2 : p.kind ≤ 16) : refCheck p = if refRow p = false then 11 else (if 2048 < refHolds p then 12 else 0) := by
  unfold refCheck
  rw [if_neg (by omega)]

theorem eq0_and (n : Int) : (n == 0) = (decide (0 ≤ n) && decide (n ≤ 0)) := by
  rw [Bool.eq_iff_iff]
  simp
  omega

theorem of_any (D : Nat → Prop) (p : Prm) (hp : p.Fine) (hal : p.a.length ≤ 100000) (v : Value) (w : World) (h : PAt w D v p) :
    Calls Try.prog 43 #[v] w (OfAny (refCheck p) w) := by
  obtain ⟨A, ca, B, cb, rfl, hA, hB⟩ := h
  obtain ⟨kind, n, a, b⟩ := p
  have hn0 := hp.n0
  have hn1 := hp.n1
  clear hp
  dsimp only at *
  by_cases hk : kind < 1 ∨ 16 < kind
  · have e : refCheck ⟨kind, n, a, b⟩ = 10 := by unfold refCheck; rw [if_pos hk]
    rw [e]
    exact (of_kind kind n hk A B _ ca _ cb w).mono fun _ _ h => ⟨_, _, _, _, _, _, _, h⟩
  have h1 : 1 ≤ kind := by omega
  have h2 : kind ≤ 16 := by omega
  have e0 : refCheck ⟨kind, n, a, b⟩ = _ := check_row h1 h2
  rw [e0]
  clear e0
  have hbare : ∀ l m i o hs e, ∀ W : World, Chg (fun _ => False) w W → Calls Try.prog 45 #[.agg #[.int .i64 l, .int .i64 m, .int .i64 0, .int .i64 i, .int .i64 o, .int .i64 hs, .int .i64 e], .agg #[.int .i64 kind, .int .i64 n, .slice A a.length ca, .slice B b.length cb]] W (TellPost (ze a && ze b) W) := fun l m i o hs e W _ => bytes_none _ _ _ _ _ _ _ _ _ _ _ _ _ _ _
  have hpart : ∀ l m i o hs e, ∀ W : World, Chg (fun _ => False) w W → Calls Try.prog 45 #[.agg #[.int .i64 l, .int .i64 m, .int .i64 3, .int .i64 i, .int .i64 o, .int .i64 hs, .int .i64 e], .agg #[.int .i64 kind, .int .i64 n, .slice A a.length ca, .slice B b.length cb]] W (TellPost (ze b && oneB a) W) := fun l m i o hs e W hW => bytes_parting D _ _ _ _ _ _ _ _ _ _ _ _ _ _ W (hA.chg hW (fun _ _ _ h => h))
  have hword : ∀ l m i o hs e, ∀ W : World, Chg (fun _ => False) w W → Calls Try.prog 45 #[.agg #[.int .i64 l, .int .i64 m, .int .i64 1, .int .i64 i, .int .i64 o, .int .i64 hs, .int .i64 e], .agg #[.int .i64 kind, .int .i64 n, .slice A a.length ca, .slice B b.length cb]] W (TellPost ((ze b && wi a.length 1 16) && !decide ((10 : UInt8) ∈ a)) W) := fun l m i o hs e W hW => bytes_word D _ _ _ _ _ _ _ _ _ _ _ _ _ _ (Nat.le_trans hal (by decide)) W (hA.chg hW (fun _ _ _ h => h))
  have hset : ∀ l m i o hs e, ∀ W : World, Chg (fun _ => False) w W → Calls Try.prog 45 #[.agg #[.int .i64 l, .int .i64 m, .int .i64 2, .int .i64 i, .int .i64 o, .int .i64 hs, .int .i64 e], .agg #[.int .i64 kind, .int .i64 n, .slice A a.length ca, .slice B b.length cb]] W (TellPost ((wi a.length 1 64 && decide a.Nodup) && decide ((b.length : Int) ≤ a.length)) W) := fun l m i o hs e W hW => bytes_set D _ _ _ _ _ _ _ _ _ _ _ _ _ _ hal W (hA.chg hW (fun _ _ _ h => h))
  have hflat : ∀ l m a' i o hs : Int, (∀ w, (Instr.index 119 rulesV (.int .i64 kind)).run Try.prog w = .ok (.agg #[.int .i64 l, .int .i64 m, .int .i64 a', .int .i64 i, .int .i64 o, .int .i64 hs, .int .i64 0]) w) → ∀ β : Bool,
      (∀ W, Chg (fun _ => False) w W → Calls Try.prog 45 #[.agg #[.int .i64 l, .int .i64 m, .int .i64 a', .int .i64 i, .int .i64 o, .int .i64 hs, .int .i64 0], .agg #[.int .i64 kind, .int .i64 n, .slice A a.length ca, .slice B b.length cb]] W (TellPost β W)) →
      refHolds ⟨kind, n, a, b⟩ ≤ 2048 → refRow ⟨kind, n, a, b⟩ = (β && (decide (l ≤ n) && decide (n ≤ m))) →
      Calls Try.prog 43 #[.agg #[.int .i64 kind, .int .i64 n, .slice A a.length ca, .slice B b.length cb]] w (OfAny (if refRow ⟨kind, n, a, b⟩ = false then 11 else (if 2048 < refHolds ⟨kind, n, a, b⟩ then 12 else 0)) w) := fun l m a' i o hs hidx β hby hh hr => by
    refine of_row kind n l m a' i o hs 0 h1 h2 A B _ ca _ cb w hidx β hby _ hr _ fun h3 h4 _ hb => ?_
    rw [if_neg (by omega)]
    exact (of_flat kind n l m a' i o hs h1 h2 h3 h4 A B _ ca _ cb w hidx hb).mono fun _ _ h => ⟨_, _, _, _, _, _, _, h⟩
  have hc : ∀ x y : Bool, (x && y) = (y && x) := Bool.and_comm
  obtain rfl | rfl | rfl | rfl | rfl | rfl | rfl | rfl | rfl | rfl | rfl | rfl | rfl | rfl | rfl | rfl : kind = 1 ∨ kind = 2 ∨ kind = 3 ∨ kind = 4 ∨ kind = 5 ∨ kind = 6 ∨ kind = 7 ∨ kind = 8 ∨ kind = 9 ∨ kind = 10 ∨ kind = 11 ∨ kind = 12 ∨ kind = 13 ∨ kind = 14 ∨ kind = 15 ∨ kind = 16 := by omega
  · exact hflat 0 15 0 0 1 0 (fun _ => by kernel_rfl) _ (hbare _ _ _ _ _ _) (by simp [refHolds]) (by simp [refRow, wi, Bool.decide_and])
  · exact hflat 0 15 0 1 0 0 (fun _ => by kernel_rfl) _ (hbare _ _ _ _ _ _) (by simp [refHolds]) (by simp [refRow, wi, Bool.decide_and])
  · exact hflat 0 1000000000 0 1 1 64 (fun _ => by kernel_rfl) _ (hbare _ _ _ _ _ _) (by simp [refHolds]) (by simp [refRow, wi, Bool.decide_and])
  · refine of_row 4 n 0 9223372036854775807 0 1 1 64 64 h1 h2 A B _ ca _ cb w (fun _ => by kernel_rfl) _ (hbare _ _ _ _ _ _) _ ?_ _ fun h3 h4 _ hb => ?_
    · simp [refRow, hn1]
    · by_cases ho : n ≤ 31
      · rw [if_neg (by simp only [refHolds]; split <;> simp <;> omega)]
        exact (of_4 n h3 ho A B _ ca _ cb w (fun _ => by kernel_rfl) hb).mono fun _ _ h => ⟨_, _, _, _, _, _, _, h⟩
      · rw [if_pos (by simp only [refHolds]; split <;> simp <;> omega)]
        exact (of_over4 n (by omega) hn1 A B _ ca _ cb w (fun _ => by kernel_rfl) hb).mono fun _ _ h => ⟨_, _, _, _, _, _, _, h⟩
  · exact hflat 0 1 1 1 1 64 (fun _ => by kernel_rfl) _ (hword _ _ _ _ _ _) (by simp [refHolds]) (by simp [refRow, wi, Bool.decide_and, Bool.and_assoc, Bool.and_comm, Bool.and_left_comm])
  · exact hflat 0 0 2 1 1 0 (fun _ => by kernel_rfl) _ (hset _ _ _ _ _ _) (by simp [refHolds]) (by simp [refRow, wi, Bool.decide_and, eq0_and, Bool.and_assoc, Bool.and_comm, Bool.and_left_comm])
  · exact hflat 1 65535 3 1 1 64 (fun _ => by kernel_rfl) _ (hpart _ _ _ _ _ _) (by simp [refHolds]) (by simp [refRow, wi, Bool.decide_and])
  · exact hflat 0 1 0 1 1 128 (fun _ => by kernel_rfl) _ (hbare _ _ _ _ _ _) (by simp [refHolds]) (by simp [refRow, wi, Bool.decide_and])
  · exact hflat 0 0 0 1 1 0 (fun _ => by kernel_rfl) _ (hbare _ _ _ _ _ _) (by simp [refHolds]) (by simp [refRow, eq0_and])
  · exact hflat 0 1000000000 0 1 1 64 (fun _ => by kernel_rfl) _ (hbare _ _ _ _ _ _) (by simp [refHolds]) (by simp [refRow, wi, Bool.decide_and])
  · exact hflat 0 1 0 1 1 320 (fun _ => by kernel_rfl) _ (hbare _ _ _ _ _ _) (by simp [refHolds]) (by simp [refRow, wi, Bool.decide_and])
  · exact hflat 1 4 0 (-1) 1 0 (fun _ => by kernel_rfl) _ (hbare _ _ _ _ _ _) (by simp [refHolds]) (by simp [refRow, wi, Bool.decide_and])
  · refine of_row 13 n 1 4 3 (-1) 1 0 96 h1 h2 A B _ ca _ cb w (fun _ => by kernel_rfl) _ (hpart _ _ _ _ _ _) _ ?_ _ fun h3 h4 _ hb => ?_
    · simp [refRow, wi, Bool.decide_and]
    · rw [if_neg (by simp [refHolds]; omega)]
      exact (of_13 n h3 h4 A B _ ca _ cb w (fun _ => by kernel_rfl) hb).mono fun _ _ h => ⟨_, _, _, _, _, _, _, h⟩
  · refine of_row 14 n 1 9223372036854775807 3 2 1 192 128 h1 h2 A B _ ca _ cb w (fun _ => by kernel_rfl) _ (hpart _ _ _ _ _ _) _ ?_ _ fun h3 h4 _ hb => ?_
    · simp [refRow, hn1]
    · by_cases ho : n ≤ 14
      · rw [if_neg (by simp only [refHolds]; split <;> simp <;> omega)]
        exact (of_14 n h3 ho A B _ ca _ cb w (fun _ => by kernel_rfl) hb).mono fun _ _ h => ⟨_, _, _, _, _, _, _, h⟩
      · rw [if_pos (by simp only [refHolds]; split <;> simp <;> omega)]
        exact (of_over14 n (by omega) hn1 A B _ ca _ cb w (fun _ => by kernel_rfl) hb).mono fun _ _ h => ⟨_, _, _, _, _, _, _, h⟩
  · exact hflat 1 4 0 1 (-1) 0 (fun _ => by kernel_rfl) _ (hbare _ _ _ _ _ _) (by simp [refHolds]) (by simp [refRow, wi, Bool.decide_and])
  · exact hflat 1 4 0 1 (-1) 64 (fun _ => by kernel_rfl) _ (hbare _ _ _ _ _ _) (by simp [refHolds]) (by simp [refRow, wi, Bool.decide_and])

set_option maxRecDepth 100000 in
theorem pcheck_any (D : Nat → Prop) (p : Prm) (hp : p.Fine) (hal : p.a.length ≤ 100000) (v : Value) (w : World) (h : PAt w D v p) :
    Calls Try.prog 42 #[v] w (ErrPost w (refCheck p)) := by
  have ho := fun (W : World) (hW : Chg (fun _ => False) w W) => of_any D p hp hal v W (h.chg hW (fun _ _ _ h => h))
  generalize refCheck p = r at *
  have ho := Lib.hid ho
  obtain ⟨A, ca, B, cb, rfl, hA, hB⟩ := h
  clear hA hB hp
  go_enter Try.func42, Try.ntmps42
  go_wp2_with (first
    | (go_at_call 43
       refine (ho.out _ ((Chg.refl _ _).alloc _)).mono ?_
       rintro e1 w1 ⟨a0, a1, a2, a3, a4, a5, a6, rfl, hc1⟩))
  go_ret
  exact ⟨rfl, (((Chg.refl _ _).alloc _).trans hc1 (fun _ h _ => h)).alloc _⟩

/-- What filter.Check answers. -/
def wantOf (k : Int) (p : Prm) : Int := if refCheck p = 0 then (if p.kind = k then 0 else 10) else refCheck p

set_option maxRecDepth 100000 in
theorem fcheck_any (D : Nat → Prop) (p : Prm) (hp : p.Fine) (hal : p.a.length ≤ 100000) (k : Int) (v : Value) (w : World) (h : PAt w D v p) :
    Calls Try.prog 28 #[v, .int .i64 k] w (ErrPost w (wantOf k p)) := by
  have ho := fun (W : World) (hW : Chg (fun _ => False) w W) => pcheck_any D p hp hal v W (h.chg hW (fun _ _ _ h => h))
  unfold wantOf
  generalize refCheck p = r at *
  replace ho := Lib.hid ho
  obtain ⟨A, ca, B, cb, rfl, hA, hB⟩ := h
  have hst : Blk (w.alloc (.cells #[.int .i64 p.kind, .int .i64 p.n, .slice A p.a.length ca, .slice B p.b.length cb] 24)) w.heap.size 24 #[.int .i64 p.kind, .int .i64 p.n, .slice A p.a.length ca, .slice B p.b.length cb] := Blk.new _ _ _
  clear hA hB hp
  by_cases hr : r = 0
  · subst hr
    rw [if_pos rfl]
    by_cases hk : p.kind = k
    · rw [if_pos hk]
      have hk1 : (p.kind != k) = false := by rw [hk]; simp
      replace hk := Lib.hid hk
      go_enter Try.func28, Try.ntmps28
      go_wp2_with (first
        | (go_at_call 42
           refine (ho.out _ ((Chg.refl _ _).alloc _)).mono ?_
           rintro e1 w1 ⟨rfl, hc1⟩
           have q0 : w1.cell? ⟨w.heap.size, 0, none⟩ = some (.int .i64 p.kind) := ((hst.chg hc1 (fun h => h)).cell 0).trans rfl))
      go_ret
      exact ⟨rfl, ((Chg.refl _ _).alloc _).trans hc1 (fun _ h _ => h)⟩
    · rw [if_neg hk]
      have hk1 : (p.kind != k) = true := by rw [bne_iff_ne]; exact hk
      replace hk := Lib.hid hk
      go_enter Try.func28, Try.ntmps28
      go_wp2_with (first
        | (go_at_call 42
           refine (ho.out _ ((Chg.refl _ _).alloc _)).mono ?_
           rintro e1 w1 ⟨rfl, hc1⟩
           have q0 : w1.cell? ⟨w.heap.size, 0, none⟩ = some (.int .i64 p.kind) := ((hst.chg hc1 (fun h => h)).cell 0).trans rfl))
      go_ret
      exact ⟨rfl, ((Chg.refl _ _).alloc _).trans hc1 (fun _ h _ => h)⟩
  · rw [if_neg hr]
    have hr1 : (r != 0) = true := by rw [bne_iff_ne]; exact hr
    replace hr := Lib.hid hr
    go_enter Try.func28, Try.ntmps28
    go_wp2_with (first
      | (go_at_call 42
         refine (ho.out _ ((Chg.refl _ _).alloc _)).mono ?_
         rintro e1 w1 ⟨rfl, hc1⟩
         have q0 : w1.cell? ⟨w.heap.size, 0, none⟩ = some (.int .i64 p.kind) := ((hst.chg hc1 (fun h => h)).cell 0).trans rfl))
    go_ret
    exact ⟨rfl, ((Chg.refl _ _).alloc _).trans hc1 (fun _ h _ => h)⟩
end Go.Proofs.Ytkgmbomfkdkofaa
