/- (params.rule).bytes for whatever rule and parameters. -/
import Derived.Test.YtkgmbomfkdkofaaNames
import Derived.Test.YtkgmbomfkdkofaaSortH
import Derived.Test.YtkgmbomfkdkofaaChk
namespace Go.Proofs.Ytkgmbomfkdkofaa
open Go Go.RowKit Go.Sort

def TellPost (b : Bool) (w : World) (e : Ending) (w' : World) : Prop := e = .returned (.bool b) ∧ Chg (fun _ => False) w w'

set_option maxRecDepth 100000 in
theorem bytes_none (l m i o h e k n : Int) (A B : Option Addr) (la ca lb cb : Nat) (w : World) :
    Calls Try.prog 45 #[.agg #[.int .i64 l, .int .i64 m, .int .i64 0, .int .i64 i, .int .i64 o, .int .i64 h, .int .i64 e], .agg #[.int .i64 k, .int .i64 n, .slice A la ca, .slice B lb cb]] w (TellPost (((la : Int) == 0) && ((lb : Int) == 0)) w) := by
  obtain ⟨β0, h0⟩ := bool_any ((la : Int) == 0)
  obtain ⟨β1, h1⟩ := bool_any ((lb : Int) == 0)
  rw [h0, h1]
  cases β0 <;> cases β1
  all_goals
    go_enter Try.func45, Try.ntmps45
    go_wp2
    go_ret
    exact ⟨rfl, ((Chg.refl _ _).alloc _).alloc _⟩

set_option maxRecDepth 100000 in
theorem bytes_word (D : Nat → Prop) (l m i o h e k n : Int) (A B : Option Addr) (ca cb : Nat) (a b : Bs) (hl : a.length ≤ 1000000) (w : World) (hA : Rd w D 1 A a.length (u8s a)) :
    Calls Try.prog 45 #[.agg #[.int .i64 l, .int .i64 m, .int .i64 1, .int .i64 i, .int .i64 o, .int .i64 h, .int .i64 e], .agg #[.int .i64 k, .int .i64 n, .slice A a.length ca, .slice B b.length cb]] w (TellPost ((ze b && wi a.length 1 16) && !decide ((10 : UInt8) ∈ a)) w) := by
  have hct : ∀ W : World, Chg (fun _ => False) w W → Calls Try.prog 46 #[.slice A a.length ca, .int .u8 10] W fun e w' => e = .returned (.bool (decide ((10 : UInt8) ∈ a))) ∧ w' = W := fun W hW => contains8 D A ca a 10 W (hA.chg hW (fun _ _ _ h => h)) hl
  clear hA
  generalize decide ((10 : UInt8) ∈ a) = β at *
  unfold ze wi
  generalize a.length = la at *
  generalize b.length = lb at *
  replace hct := Lib.hid hct
  obtain ⟨β0, h0⟩ := bool_any ((lb : Int) == 0)
  by_cases h1 : (1 : Int) ≤ (la : Int)
  · by_cases h2 : (la : Int) ≤ 16
    · have e1 : decide ((1 : Int) ≤ (la : Int) ∧ (la : Int) ≤ 16) = true := decide_eq_true ⟨h1, h2⟩
      rw [e1, h0]
      clear e1
      cases β <;> cases β0
      all_goals
        go_enter Try.func45, Try.ntmps45
        go_wp2_with (first
          | (go_at_call 46
             refine (hct.out _ (((Chg.refl _ _).alloc _).alloc _)).mono ?_
             rintro e1 w1 ⟨rfl, rfl⟩))
        go_ret
        exact ⟨rfl, ((Chg.refl _ _).alloc _).alloc _⟩
    · have e1 : decide ((1 : Int) ≤ (la : Int) ∧ (la : Int) ≤ 16) = false := decide_eq_false (fun h => h2 h.2)
      rw [e1, Bool.and_false, Bool.false_and]
      clear e1 h0
      go_enter Try.func45, Try.ntmps45
      go_wp2
      go_ret
      exact ⟨rfl, ((Chg.refl _ _).alloc _).alloc _⟩
  · have e1 : decide ((1 : Int) ≤ (la : Int) ∧ (la : Int) ≤ 16) = false := decide_eq_false (fun h => h1 h.1)
    rw [e1, Bool.and_false, Bool.false_and]
    clear e1 h0
    go_enter Try.func45, Try.ntmps45
    go_wp2
    go_ret
    exact ⟨rfl, ((Chg.refl _ _).alloc _).alloc _⟩

set_option maxRecDepth 100000 in
theorem bytes_parting (D : Nat → Prop) (l m i o h e k n : Int) (A B : Option Addr) (ca cb : Nat) (a b : Bs) (w : World) (hA : Rd w D 1 A a.length (u8s a)) :
    Calls Try.prog 45 #[.agg #[.int .i64 l, .int .i64 m, .int .i64 3, .int .i64 i, .int .i64 o, .int .i64 h, .int .i64 e], .agg #[.int .i64 k, .int .i64 n, .slice A a.length ca, .slice B b.length cb]] w (TellPost (ze b && oneB a) w) := by
  by_cases ha : a.length = 1
  · obtain ⟨x, rfl⟩ := List.length_eq_one_iff.1 ha
    obtain ⟨g, off, v, rfl, hg, _, hv, hc⟩ := hA.at_ (k := 0) (by simp)
    simp [u8s] at hv
    subst hv
    have hc' : w.cell? ⟨g, off, none⟩ = some (.int .u8 x.toNat) := hc
    obtain ⟨β1, h1⟩ := bool_any ((b.length : Int) == 0)
    have e1 : ze b = β1 := h1
    obtain ⟨β0, h0⟩ := bool_any ((x.toNat : Int) != 10)
    have e2 : oneB [x] = β0 := by
      unfold oneB
      rw [← h0]
      rw [Bool.eq_iff_iff]
      simp only [decide_eq_true_eq, bne_iff_ne, List.length_cons, List.length_nil, true_and, ne_eq, List.cons.injEq, and_true]
      exact ⟨fun h e => h (UInt8.toNat_inj.1 (by simpa using (by omega : x.toNat = 10))), fun h e => h (by subst e; rfl)⟩
    rw [e1, e2]
    clear e1 e2 hA hc ha
    show Calls _ _ #[_, .agg #[_, _, .slice _ 1 _, _]] _ _
    cases β0 <;> cases β1
    all_goals
      go_enter Try.func45, Try.ntmps45
      go_wp2
      go_ret
      exact ⟨rfl, ((Chg.refl _ _).alloc _).alloc _⟩
  · have e2 : oneB a = false := by unfold oneB; exact decide_eq_false (fun h => ha h.1)
    rw [e2, Bool.and_false]
    clear hA e2
    generalize a.length = la at *
    have h1 : ¬ (la : Int) = 1 := by omega
    have h2 : ((la : Int) == 1) = false := by rw [beq_eq_false_iff_ne]; exact h1
    clear h1
    go_enter Try.func45, Try.ntmps45
    go_wp2
    go_ret
    exact ⟨rfl, ((Chg.refl _ _).alloc _).alloc _⟩

end Go.Proofs.Ytkgmbomfkdkofaa

/- (params.rule).bytes at the rule of unlike bytes. -/
namespace Go.Proofs.Ytkgmbomfkdkofaa
open Go Go.RowKit Go.Sort

def OwnP (n : Nat) (d : Array Int) (w : World) (e : Ending) (w' : World) : Prop :=
  ∃ g cap, e = .returned (.slice (some ⟨g, 0, none⟩) n cap) ∧ w.heap.size ≤ g ∧ g < w'.heap.size ∧ n ≤ cap ∧ Holds e8 w' g 0 d ∧ Below w.heap.size w w'

/-- What Compact tells of a sorted row. -/
def CompPost (g cap n : Nat) (b : Bool) (w : World) (e : Ending) (w' : World) : Prop :=
  ∃ L : Nat, e = .returned (.slice (some ⟨g, 0, none⟩) L cap) ∧ ((L : Int) == (n : Int)) = b ∧ L ≤ n ∧ Chg (fun k => k = g) w w'

theorem comp_any (a : Bs) (hal : a.length ≤ 100000) (g cap : Nat) (d' : Array Int) (w : World) (hg : g < w.heap.size) (hcap : a.length ≤ cap) (hp : PermIn 0 a.length (nums a) d') (hs : SortedIn ltInt 0 a.length d') (hH : Holds e8 w g 0 d') (W : World) (hW : Chg (fun _ => False) w W) :
    Calls Try.prog 49 #[.slice (some ⟨g, 0, none⟩) a.length cap] W (CompPost g cap a.length (decide a.Nodup) W) := by
  have hz : d'.size = a.length := by rw [hp.1, nums_size]
  refine (compact8 g 0 cap a.length d' W hz (holds_chg8 hH hW hg (fun h => h)) (by omega) hcap).mono ?_
  rintro e w' ⟨rfl, hc⟩
  refine ⟨_, rfl, ?_, ?_, hc⟩
  · have h := compact_nodup (nums_size a) hp hs
    rw [nums_nodup] at h
    by_cases hn : a.Nodup
    · rw [decide_eq_true hn, h.2 hn]; simp
    · rw [decide_eq_false hn, beq_eq_false_iff_ne]
      intro e
      exact hn (h.1 (by omega))
  · have := compact_le d'
    omega

set_option maxHeartbeats 8000000 in
set_option maxRecDepth 100000 in
theorem bytes_unlike (D : Nat → Prop) (l m i o h e k n : Int) (A B : Option Addr) (ca cb : Nat) (a b : Bs) (h0 : 0 < a.length) (hl : a.length ≤ 100000) (w : World) (hA : Rd w D 1 A a.length (u8s a)) :
    Calls Try.prog 45 #[.agg #[.int .i64 l, .int .i64 m, .int .i64 2, .int .i64 i, .int .i64 o, .int .i64 h, .int .i64 e], .agg #[.int .i64 k, .int .i64 n, .slice A a.length ca, .slice B b.length cb]] w (TellPost ((wi a.length 1 64 && decide a.Nodup) && decide ((b.length : Int) ≤ a.length)) w) := by
  have hcl : ∀ W : World, Chg (fun _ => False) w W → Calls Try.prog 47 #[.slice A a.length ca] W (OwnP a.length (nums a) W) := fun W hW => clone8 D A ca a W (hA.chg hW (fun _ _ _ h => h)) h0 hl
  have hso := fun (g cap : Nat) (W : World) (hH : Holds e8 W g 0 (nums a)) (hg : g < W.heap.size) => sort8 g 0 cap a.length (nums a) W (nums_size a) hH hg (by omega)
  have hco := comp_any a hl
  replace hcl := Lib.hid hcl
  replace hso := Lib.hid hso
  replace hco := Lib.hid hco
  clear hA
  have hst : Blk ((w.alloc (.cells #[.int .i64 l, .int .i64 m, .int .i64 2, .int .i64 i, .int .i64 o, .int .i64 h, .int .i64 e] 116)).alloc (.cells #[.int .i64 k, .int .i64 n, .slice A a.length ca, .slice B b.length cb] 24)) (w.heap.size + 1) 24 #[.int .i64 k, .int .i64 n, .slice A a.length ca, .slice B b.length cb] := by
    have := Blk.new (w.alloc (.cells #[.int .i64 l, .int .i64 m, .int .i64 2, .int .i64 i, .int .i64 o, .int .i64 h, .int .i64 e] 116)) 24 #[.int .i64 k, .int .i64 n, .slice A a.length ca, .slice B b.length cb]
    simp only [World.size_alloc] at this
    exact this
  have hwq : Chg (fun _ => False) w ((w.alloc (.cells #[.int .i64 l, .int .i64 m, .int .i64 2, .int .i64 i, .int .i64 o, .int .i64 h, .int .i64 e] 116)).alloc (.cells #[.int .i64 k, .int .i64 n, .slice A a.length ca, .slice B b.length cb] 24)) := ((Chg.refl _ _).alloc _).alloc _
  have hfin : ∀ W : World, Chg (fun k => w.heap.size ≤ k) w W → Chg (fun _ => False) w W := fun W h => (Chg.refl (fun _ => False) w).trans h (fun k hk hlt => by omega)
  replace hfin := Lib.hid hfin
  unfold wi
  generalize hν : decide a.Nodup = ν at *
  clear hν
  generalize hla : a.length = la at *
  replace hla := Lib.hid hla
  generalize b.length = lb at *
  have e1 : (1 : Int) ≤ (la : Int) := by omega
  have e1d : decide ((1 : Int) ≤ (la : Int)) = true := decide_eq_true e1
  obtain ⟨β, hβ⟩ := bool_any (decide ((lb : Int) ≤ (la : Int)))
  by_cases h64 : (la : Int) ≤ 64
  · have e2 : decide ((1 : Int) ≤ (la : Int) ∧ (la : Int) ≤ 64) = true := decide_eq_true ⟨e1, h64⟩
    rw [e2, hβ]
    clear e2
    have e64 : decide ((la : Int) ≤ 64) = true := decide_eq_true h64
    replace hβ := Lib.hid hβ
    cases ν
    · rw [Bool.and_false, Bool.false_and]
      go_enter Try.func45, Try.ntmps45
      go_wp2_with (first
        | (go_at_call 47
           refine (hcl.out _ hwq).mono ?_
           intro e1 w1 ho1
           obtain ⟨g, cap, rfl, hg0, hg1, hcap, hH1, hb1⟩ := ho1
           have k1 := hwq.trans (Chg.of_below (S := fun _ => False) hb1) (fun _ h _ => h)
           have hs1 := hst.chg (Chg.of_below (S := fun _ => False) hb1) (fun h => h)
           simp only [World.size_alloc] at hg0)
        | (go_at_call 48
           refine (hso.out g cap w1 hH1 hg1).mono ?_
           intro e2 w2 ho2
           obtain ⟨d2, rfl, hp2, hs2, hR2⟩ := ho2))
      have hg2 := Nat.lt_of_lt_of_le hg1 hR2.2.size
      have hP := hs1.chg hR2.2 (fun h => by have h : w.heap.size + 1 = g := h; omega)
      have p2 : w2.cell? ⟨w.heap.size + 1, 2, none⟩ = some (.slice A la ca) := (hP.cell 2).trans rfl
      have p3 : w2.cell? ⟨w.heap.size + 1, 3, none⟩ = some (.slice B lb cb) := (hP.cell 3).trans rfl
      have k2 : Chg (fun _ => False) w w2 := k1.trans hR2.2 (fun k hk hlt => by have hk : k = g := hk; omega)
      have hcc := fun (W : World) (hW : Chg (fun _ => False) w2 W) => hco.out g cap d2 w2 hg2 hcap hp2 hs2 hR2.1 W hW
      have hgw : w.heap.size + 2 ≤ g := hg0
      replace hcc := Lib.hid hcc
      clear hs1 hst hb1 hH1 hp2 hs2 hR2 hg1 hg2 hg0 k1 hwq
      have c0 := Chg.refl (fun k => k = g) w2
      have hS : ∀ W, Chg (fun k => k = g) w2 W → W.cell? ⟨w.heap.size + 1, 2, none⟩ = some (.slice A la ca) ∧ W.cell? ⟨w.heap.size + 1, 3, none⟩ = some (.slice B lb cb) ∧ Chg (fun k => k = g) w2 W := fun W hW => by
        have hPW := hP.chg hW (fun h => by have h : w.heap.size + 1 = g := h; omega)
        exact ⟨(hPW.cell 2).trans rfl, (hPW.cell 3).trans rfl, hW⟩
      have hS0 := hS w2 c0
      replace hS := Lib.hid hS
      refine wp_region_held_drew (S := (fun W => W.cell? ⟨w.heap.size + 1, 2, none⟩ = some (.slice A la ca) ∧ W.cell? ⟨w.heap.size + 1, 3, none⟩ = some (.slice B lb cb) ∧ Chg (fun k => k = g) w2 W)) (by kernel_rfl) (hS.out _ c0.drew) (fun hHeld => ?_)
      refine wpAnyH_take (i := 0) (v := (.slice (some ⟨g, 0, none⟩) la cap)) rfl (by kernel_rfl) (by kernel_rfl) (by kernel_rfl) (fun _ _ _ h => h) (Or.inl ⟨by kernel_rfl, ?_⟩) (by assumption) ?_
      · intro W hSW
        (try dsimp only at hSW)
        go_simp
      simp only [Act.put, List.getElem_toArray, List.getElem_cons_zero, List.setIfInBounds_toArray, List.set_cons_zero, List.set_cons_succ]
      refine wpAnyH_take (i := 1) (v := (.int .i64 (la : Int))) rfl (by kernel_rfl) (by kernel_rfl) (by kernel_rfl) (fun _ _ _ h => h) (Or.inl ⟨by kernel_rfl, ?_⟩) (by assumption) ?_
      · intro W hSW
        (try dsimp only at hSW)
        go_simp
      simp only [Act.put, List.getElem_toArray, List.getElem_cons_zero, List.getElem_cons_succ, List.setIfInBounds_toArray, List.set_cons_zero, List.set_cons_succ]
      refine wpAnyH_take (i := 2) (v := (.bool true)) rfl (by kernel_rfl) (by kernel_rfl) (by kernel_rfl) (fun _ _ _ h => h) (Or.inl ⟨by kernel_rfl, ?_⟩) (by assumption) ?_
      · intro W hSW
        (try dsimp only at hSW)
        go_simp
      simp only [Act.put, List.getElem_toArray, List.getElem_cons_zero, List.getElem_cons_succ, List.setIfInBounds_toArray, List.set_cons_zero, List.set_cons_succ]
      refine wpAnyH_take (i := 3) (v := (.bool true)) rfl (by kernel_rfl) (by kernel_rfl) (by kernel_rfl) (fun _ _ _ h => h) (Or.inl ⟨by kernel_rfl, ?_⟩) (by assumption) ?_
      · intro W hSW
        (try dsimp only at hSW)
        go_simp
      simp only [Act.put, List.getElem_toArray, List.getElem_cons_zero, List.getElem_cons_succ, List.setIfInBounds_toArray, List.set_cons_zero, List.set_cons_succ]
      refine wpAnyH_take (i := 4) (v := (.slice (some ⟨g, 0, none⟩) la cap)) rfl (by kernel_rfl) (by kernel_rfl) (by kernel_rfl) (fun _ _ _ h => h) (Or.inl ⟨by kernel_rfl, ?_⟩) (by assumption) ?_
      · intro W hSW
        (try dsimp only at hSW)
        go_simp
      simp only [Act.put, List.getElem_toArray, List.getElem_cons_zero, List.getElem_cons_succ, List.setIfInBounds_toArray, List.set_cons_zero, List.set_cons_succ]
      refine wpAnyH_take (i := 5) (v := (.int .i64 (la : Int))) rfl (by kernel_rfl) (by kernel_rfl) (by kernel_rfl) (fun _ _ _ h => h) (Or.inl ⟨by kernel_rfl, ?_⟩) (by assumption) ?_
      · intro W hSW
        (try dsimp only at hSW)
        go_simp
      simp only [Act.put, List.getElem_toArray, List.getElem_cons_zero, List.getElem_cons_succ, List.setIfInBounds_toArray, List.set_cons_zero, List.set_cons_succ]
      refine wpAnyH_take (i := 6) (v := (.bool true)) rfl (by kernel_rfl) (by kernel_rfl) (by kernel_rfl) (fun _ _ _ h => h) (Or.inl ⟨by kernel_rfl, ?_⟩) (by assumption) ?_
      · intro W hSW
        (try dsimp only at hSW)
        go_simp
      simp only [Act.put, List.getElem_toArray, List.getElem_cons_zero, List.getElem_cons_succ, List.setIfInBounds_toArray, List.set_cons_zero, List.set_cons_succ]
      refine wpAnyH_take (i := 7) (v := (.bool true)) rfl (by kernel_rfl) (by kernel_rfl) (by kernel_rfl) (fun _ _ _ h => h) (Or.inl ⟨by kernel_rfl, ?_⟩) (by assumption) ?_
      · intro W hSW
        (try dsimp only at hSW)
        go_simp
      simp only [Act.put, List.getElem_toArray, List.getElem_cons_zero, List.getElem_cons_succ, List.setIfInBounds_toArray, List.set_cons_zero, List.set_cons_succ]
      refine wpAnyH_take (i := 8) (v := (.bool true)) rfl (by kernel_rfl) (by kernel_rfl) (by kernel_rfl) (fun _ _ _ h => h) (Or.inl ⟨by kernel_rfl, ?_⟩) (by assumption) ?_
      · intro W hSW
        (try dsimp only at hSW)
        go_simp
      simp only [Act.put, List.getElem_toArray, List.getElem_cons_zero, List.getElem_cons_succ, List.setIfInBounds_toArray, List.set_cons_zero, List.set_cons_succ]
      refine wpAnyH_take (i := 9) (v := (.slice (some ⟨g, 0, none⟩) la cap)) rfl (by kernel_rfl) (by kernel_rfl) (by kernel_rfl) (fun _ _ _ h => h) (Or.inl ⟨by kernel_rfl, ?_⟩) (by assumption) ?_
      · intro W hSW
        (try dsimp only at hSW)
        go_simp
      simp only [Act.put, List.getElem_toArray, List.getElem_cons_zero, List.getElem_cons_succ, List.setIfInBounds_toArray, List.set_cons_zero, List.set_cons_succ]
      refine wpAnyH_take (i := 12) (v := (.pointer (some ⟨w.heap.size + 1, 2, none⟩))) rfl (by kernel_rfl) (by kernel_rfl) (by kernel_rfl) (fun _ _ _ h => h) (Or.inl ⟨by kernel_rfl, ?_⟩) (by assumption) ?_
      · intro W hSW
        (try dsimp only at hSW)
        go_simp
      simp only [Act.put, List.getElem_toArray, List.getElem_cons_zero, List.getElem_cons_succ, List.setIfInBounds_toArray, List.set_cons_zero, List.set_cons_succ]
      refine wpAnyH_take (i := 13) (v := (.slice A la ca)) rfl (by kernel_rfl) (by kernel_rfl) (by kernel_rfl) (fun _ _ _ h => h) (Or.inl ⟨by kernel_rfl, ?_⟩) (by assumption) ?_
      · intro W hSW
        (try dsimp only at hSW)
        go_simp
      simp only [Act.put, List.getElem_toArray, List.getElem_cons_zero, List.getElem_cons_succ, List.setIfInBounds_toArray, List.set_cons_zero, List.set_cons_succ]
      refine wpAnyH_take (i := 14) (v := (.int .i64 (la : Int))) rfl (by kernel_rfl) (by kernel_rfl) (by kernel_rfl) (fun _ _ _ h => h) (Or.inl ⟨by kernel_rfl, ?_⟩) (by assumption) ?_
      · intro W hSW
        (try dsimp only at hSW)
        go_simp
      simp only [Act.put, List.getElem_toArray, List.getElem_cons_zero, List.getElem_cons_succ, List.setIfInBounds_toArray, List.set_cons_zero, List.set_cons_succ]
      refine wpAnyH_ready (rs := [10]) (by kernel_rfl) (by simp) ?_
      refine AllReadyH.cons rfl (fun K hK => ?_) AllReadyH.nil
      go_simp
      refine (hcc.out _ (Chg.refl _ _).drew).mono ?_
      intro e3 w3 ho3
      obtain ⟨L, rfl, hL, hL2, hc3⟩ := ho3
      have dX : Chg (fun k => k = g) w2 w3 := c0.drew.trans hc3 (fun _ h _ => h)
      go_wp2_with fail
      refine hK.out _ _ (hS.out _ dX) (fun hHeld3 => ?_)
      clear hK K
      try simp only [Act.put, List.getElem_toArray, List.getElem_cons_zero, List.getElem_cons_succ, List.setIfInBounds_toArray, List.set_cons_zero, List.set_cons_succ]
      refine wpAnyH_take (i := 11) (v := (.int .i64 (L : Int))) rfl (by kernel_rfl) (by kernel_rfl) (by kernel_rfl) (fun _ _ _ h => h) (Or.inl ⟨by kernel_rfl, ?_⟩) (by assumption) ?_
      · intro W hSW
        (try dsimp only at hSW)
        go_simp
      simp only [Act.put, List.getElem_toArray, List.getElem_cons_zero, List.getElem_cons_succ, List.setIfInBounds_toArray, List.set_cons_zero, List.set_cons_succ]
      refine wpAnyH_take (i := 15) (v := (.bool false)) rfl (by kernel_rfl) (by kernel_rfl) (by kernel_rfl) (fun _ _ _ h => h) (Or.inl ⟨by kernel_rfl, ?_⟩) (by assumption) ?_
      · intro W hSW
        (try dsimp only at hSW)
        go_simp
      simp only [Act.put, List.getElem_toArray, List.getElem_cons_zero, List.getElem_cons_succ, List.setIfInBounds_toArray, List.set_cons_zero, List.set_cons_succ]
      refine wpAnyH_take (i := 16) (v := (.bool false)) rfl (by kernel_rfl) (by kernel_rfl) (by kernel_rfl) (fun _ _ _ h => h) (Or.inl ⟨by kernel_rfl, ?_⟩) (by assumption) ?_
      · intro W hSW
        (try dsimp only at hSW)
        go_simp
      simp only [Act.put, List.getElem_toArray, List.getElem_cons_zero, List.getElem_cons_succ, List.setIfInBounds_toArray, List.set_cons_zero, List.set_cons_succ]
      refine wpAnyH_take (i := 17) (v := (.bool false)) rfl (by kernel_rfl) (by kernel_rfl) (by kernel_rfl) (fun _ _ _ h => h) (Or.inl ⟨by kernel_rfl, ?_⟩) (by assumption) ?_
      · intro W hSW
        (try dsimp only at hSW)
        go_simp
      simp only [Act.put, List.getElem_toArray, List.getElem_cons_zero, List.getElem_cons_succ, List.setIfInBounds_toArray, List.set_cons_zero, List.set_cons_succ]
      refine wpAnyH_take (i := 18) (v := undef) rfl (by kernel_rfl) (by kernel_rfl) (by kernel_rfl) (fun _ _ _ h => h) (Or.inr ⟨by kernel_rfl, rfl⟩) (by assumption) ?_
      simp only [Act.put, List.getElem_toArray, List.getElem_cons_zero, List.getElem_cons_succ, List.setIfInBounds_toArray, List.set_cons_zero, List.set_cons_succ]
      refine wpAnyH_take (i := 19) (v := undef) rfl (by kernel_rfl) (by kernel_rfl) (by kernel_rfl) (fun _ _ _ h => h) (Or.inr ⟨by kernel_rfl, rfl⟩) (by assumption) ?_
      simp only [Act.put, List.getElem_toArray, List.getElem_cons_zero, List.getElem_cons_succ, List.setIfInBounds_toArray, List.set_cons_zero, List.set_cons_succ]
      refine wpAnyH_take (i := 20) (v := undef) rfl (by kernel_rfl) (by kernel_rfl) (by kernel_rfl) (fun _ _ _ h => h) (Or.inr ⟨by kernel_rfl, rfl⟩) (by assumption) ?_
      simp only [Act.put, List.getElem_toArray, List.getElem_cons_zero, List.getElem_cons_succ, List.setIfInBounds_toArray, List.set_cons_zero, List.set_cons_succ]
      refine wpAnyH_take (i := 21) (v := undef) rfl (by kernel_rfl) (by kernel_rfl) (by kernel_rfl) (fun _ _ _ h => h) (Or.inr ⟨by kernel_rfl, rfl⟩) (by assumption) ?_
      simp only [Act.put, List.getElem_toArray, List.getElem_cons_zero, List.getElem_cons_succ, List.setIfInBounds_toArray, List.set_cons_zero, List.set_cons_succ]
      refine wpAnyH_take (i := 22) (v := undef) rfl (by kernel_rfl) (by kernel_rfl) (by kernel_rfl) (fun _ _ _ h => h) (Or.inr ⟨by kernel_rfl, rfl⟩) (by assumption) ?_
      simp only [Act.put, List.getElem_toArray, List.getElem_cons_zero, List.getElem_cons_succ, List.setIfInBounds_toArray, List.set_cons_zero, List.set_cons_succ]
      refine wpAnyH_take (i := 23) (v := undef) rfl (by kernel_rfl) (by kernel_rfl) (by kernel_rfl) (fun _ _ _ h => h) (Or.inr ⟨by kernel_rfl, rfl⟩) (by assumption) ?_
      simp only [Act.put, List.getElem_toArray, List.getElem_cons_zero, List.getElem_cons_succ, List.setIfInBounds_toArray, List.set_cons_zero, List.set_cons_succ]
      refine wpAnyH_take (i := 24) (v := undef) rfl (by kernel_rfl) (by kernel_rfl) (by kernel_rfl) (fun _ _ _ h => h) (Or.inr ⟨by kernel_rfl, rfl⟩) (by assumption) ?_
      simp only [Act.put, List.getElem_toArray, List.getElem_cons_zero, List.getElem_cons_succ, List.setIfInBounds_toArray, List.set_cons_zero, List.set_cons_succ]
      refine wpAnyH_take (i := 25) (v := (.bool false)) rfl (by kernel_rfl) (by kernel_rfl) (by kernel_rfl) (fun _ _ _ h => h) (Or.inl ⟨by kernel_rfl, ?_⟩) (by assumption) ?_
      · intro W hSW
        (try dsimp only at hSW)
        go_simp
      simp only [Act.put, List.getElem_toArray, List.getElem_cons_zero, List.getElem_cons_succ, List.setIfInBounds_toArray, List.set_cons_zero, List.set_cons_succ]
      refine wpAnyH_take (i := 26) (v := (.bool false)) rfl (by kernel_rfl) (by kernel_rfl) (by kernel_rfl) (fun _ _ _ h => h) (Or.inl ⟨by kernel_rfl, ?_⟩) (by assumption) ?_
      · intro W hSW
        (try dsimp only at hSW)
        go_simp
      simp only [Act.put, List.getElem_toArray, List.getElem_cons_zero, List.getElem_cons_succ, List.setIfInBounds_toArray, List.set_cons_zero, List.set_cons_succ]
      refine wpAnyH_done (by kernel_rfl) ?_ _
      go_wp2
      go_ret
      exact ⟨rfl, k2.trans dX (fun k hk hlt => by have hk : k = g := hk; omega)⟩
    · replace hβ := hβ.out
      have hβn : decide (lb ≤ la) = β := by rw [← hβ]; simp
      cases β
      all_goals
        go_enter Try.func45, Try.ntmps45
        go_wp2_with (first
          | (go_at_call 47
             refine (hcl.out _ hwq).mono ?_
             intro e1 w1 ho1
             obtain ⟨g, cap, rfl, hg0, hg1, hcap, hH1, hb1⟩ := ho1
             have k1 := hwq.trans (Chg.of_below (S := fun _ => False) hb1) (fun _ h _ => h)
             have hs1 := hst.chg (Chg.of_below (S := fun _ => False) hb1) (fun h => h)
             simp only [World.size_alloc] at hg0)
          | (go_at_call 48
             refine (hso.out g cap w1 hH1 hg1).mono ?_
             intro e2 w2 ho2
             obtain ⟨d2, rfl, hp2, hs2, hR2⟩ := ho2))
        have hg2 := Nat.lt_of_lt_of_le hg1 hR2.2.size
        have hP := hs1.chg hR2.2 (fun h => by have h : w.heap.size + 1 = g := h; omega)
        have p2 : w2.cell? ⟨w.heap.size + 1, 2, none⟩ = some (.slice A la ca) := (hP.cell 2).trans rfl
        have p3 : w2.cell? ⟨w.heap.size + 1, 3, none⟩ = some (.slice B lb cb) := (hP.cell 3).trans rfl
        have k2 : Chg (fun _ => False) w w2 := k1.trans hR2.2 (fun k hk hlt => by have hk : k = g := hk; omega)
        have hcc := fun (W : World) (hW : Chg (fun _ => False) w2 W) => hco.out g cap d2 w2 hg2 hcap hp2 hs2 hR2.1 W hW
        have hgw : w.heap.size + 2 ≤ g := hg0
        replace hcc := Lib.hid hcc
        clear hs1 hst hb1 hH1 hp2 hs2 hR2 hg1 hg2 hg0 k1 hwq
        have c0 := Chg.refl (fun k => k = g) w2
        have hS : ∀ W, Chg (fun k => k = g) w2 W → W.cell? ⟨w.heap.size + 1, 2, none⟩ = some (.slice A la ca) ∧ W.cell? ⟨w.heap.size + 1, 3, none⟩ = some (.slice B lb cb) ∧ Chg (fun k => k = g) w2 W := fun W hW => by
          have hPW := hP.chg hW (fun h => by have h : w.heap.size + 1 = g := h; omega)
          exact ⟨(hPW.cell 2).trans rfl, (hPW.cell 3).trans rfl, hW⟩
        have hS0 := hS w2 c0
        replace hS := Lib.hid hS
        go_region_held3 (fun W => W.cell? ⟨w.heap.size + 1, 2, none⟩ = some (.slice A la ca) ∧ W.cell? ⟨w.heap.size + 1, 3, none⟩ = some (.slice B lb cb) ∧ Chg (fun k => k = g) w2 W)
            (first
              | with_reducible exact hS0
              | with_reducible exact hS.out _ c0.drew
              | with_reducible exact hS.out _ dX)
            (first
              | (go_at_call 49
                 go_split_ands
                 refine (hcc.out _ (Chg.refl _ _).drew).mono ?_
                 intro e3 w3 ho3
                 obtain ⟨L, rfl, hL, hL2, hc3⟩ := ho3
                 have dX : Chg (fun k => k = g) w2 w3 := Chg.trans (by assumption) hc3 (fun _ h _ => h)))
        go_wp2
        go_ret
        exact ⟨rfl, k2.trans dX (fun k hk hlt => by have hk : k = g := hk; omega)⟩
  · have e2 : decide ((1 : Int) ≤ (la : Int) ∧ (la : Int) ≤ 64) = false := decide_eq_false (fun h => h64 h.2)
    rw [e2, Bool.false_and, Bool.false_and]
    clear e2 hβ
    have e64 : decide ((la : Int) ≤ 64) = false := decide_eq_false h64
    go_enter Try.func45, Try.ntmps45
    go_wp2_with (first
      | (go_at_call 47
         refine (hcl.out _ hwq).mono ?_
         intro e1 w1 ho1
         obtain ⟨g, cap, rfl, hg0, hg1, hcap, hH1, hb1⟩ := ho1
         have k1 := hwq.trans (Chg.of_below (S := fun _ => False) hb1) (fun _ h _ => h)
         have hs1 := hst.chg (Chg.of_below (S := fun _ => False) hb1) (fun h => h)
         simp only [World.size_alloc] at hg0)
      | (go_at_call 48
         refine (hso.out g cap w1 hH1 hg1).mono ?_
         intro e2 w2 ho2
         obtain ⟨d2, rfl, hp2, hs2, hR2⟩ := ho2))
    have k2 : Chg (fun _ => False) w w2 := k1.trans hR2.2 (fun k hk hlt => by have hk : k = g := hk; omega)
    clear hs1 hst hb1 hH1 hp2 hs2 hR2 hg1 hg0 k1 hwq
    go_quiet (fail)
    go_wp2
    go_ret
    exact ⟨rfl, k2.drewN nq⟩

set_option maxRecDepth 100000 in
theorem clone_none (A : Option Addr) (c : Nat) (w : World) : Calls Try.prog 47 #[.slice A 0 c] w fun e w' => ∃ A' c', e = .returned (.slice A' 0 c') ∧ Chg (fun _ => False) w w' := by
  obtain ⟨i0, hi0, hz0, hz1, hz2⟩ := info_parts info_u8
  have qT : ∀ (w : World) (a : Option Addr) (n c n' c' : Nat), (binOp .eql 22 (.slice a n c) (.slice none n' c')).run Try.prog w = .ok (.bool a.isNone) w := fun w a n c n' c' => Lib.run_eql_slice_nil w _ _ a n c n' c' Try.underlying22
  cases A with
  | none =>
    go_enter Try.func47, Try.ntmps47
    go_wp2
    go_ret
    exact ⟨_, _, rfl, Chg.refl _ _⟩
  | some ad =>
    have hown0 : (w.alloc (.cells #[] 5)).ownsRow w.heap.size 5 1 (.slice (some ⟨w.heap.size, 0, none⟩) 0 0) 0 [] := World.ownsRow_made w #[] 0 (Nat.le_refl _) (by simp [maxLen]) rfl
    go_enter Try.func47, Try.ntmps47
    go_wp2_with (first
      | (at_builtin
         refine wpList_append_rd _ (by rfl) (.tmp 5) (.tmp 6) 22 (by rfl) w.heap.size 5 i0 _ 1 1 Try.underlying22 hi0 hz0 hz1 hz2 (by rfl) (by omega) (.slice (some ⟨w.heap.size, 0, none⟩) 0 0) 0 [] (by rfl) hown0 (fun _ => True) (some ad) 0 c [] (by rfl) ⟨rfl, fun h => absurd h (Nat.lt_irrefl 0)⟩ (by simp) (by simp [maxLen]) (by omega) (by simp) ?_
         intro v' w' hown hgr hbl
         obtain ⟨A', c', rfl, hrd⟩ := own_rd hown))
    go_ret
    exact ⟨_, _, rfl, ((Chg.refl _ _).alloc _).grown hgr (fun k e => .inr (by simp [Value.ownBlock] at e; omega))⟩

set_option maxHeartbeats 1000000 in
set_option maxRecDepth 100000 in
theorem bytes_unlike0 (l m i o h e k n : Int) (A B : Option Addr) (ca lb cb : Nat) (w : World) :
    Calls Try.prog 45 #[.agg #[.int .i64 l, .int .i64 m, .int .i64 2, .int .i64 i, .int .i64 o, .int .i64 h, .int .i64 e], .agg #[.int .i64 k, .int .i64 n, .slice A 0 ca, .slice B lb cb]] w (TellPost false w) := by
  have hcl := clone_none
  have hso := sort_none
  replace hcl := Lib.hid hcl
  replace hso := Lib.hid hso
  have hwq : Chg (fun _ => False) w ((w.alloc (.cells #[.int .i64 l, .int .i64 m, .int .i64 2, .int .i64 i, .int .i64 o, .int .i64 h, .int .i64 e] 116)).alloc (.cells #[.int .i64 k, .int .i64 n, .slice A 0 ca, .slice B lb cb] 24)) := ((Chg.refl _ _).alloc _).alloc _
  go_enter Try.func45, Try.ntmps45
  go_wp2_with (first
    | (go_at_call 47
       refine (hcl.out _ _ _).mono ?_
       intro e1 w1 ho1
       obtain ⟨A', c', rfl, hc1⟩ := ho1)
    | (go_at_call 48
       refine (hso.out _ _ _).mono ?_
       intro e2 w2 ho2
       obtain ⟨rfl, hc2⟩ := ho2))
  have k2 : Chg (fun _ => False) w w2 := (hwq.trans hc1 (fun _ h _ => h)).trans hc2 (fun _ h _ => h)
  clear hc1 hc2 hwq
  go_quiet (fail)
  go_wp2
  go_ret
  exact ⟨rfl, k2.drewN nq⟩

theorem bytes_set (D : Nat → Prop) (l m i o h e k n : Int) (A B : Option Addr) (ca cb : Nat) (a b : Bs) (hl : a.length ≤ 100000) (w : World) (hA : Rd w D 1 A a.length (u8s a)) :
    Calls Try.prog 45 #[.agg #[.int .i64 l, .int .i64 m, .int .i64 2, .int .i64 i, .int .i64 o, .int .i64 h, .int .i64 e], .agg #[.int .i64 k, .int .i64 n, .slice A a.length ca, .slice B b.length cb]] w (TellPost ((wi a.length 1 64 && decide a.Nodup) && decide ((b.length : Int) ≤ a.length)) w) := by
  rcases Nat.eq_zero_or_pos a.length with h0 | h0
  · have e : ((wi a.length 1 64 && decide a.Nodup) && decide ((b.length : Int) ≤ a.length)) = false := by
      rw [h0]
      rfl
    rw [e, h0]
    exact bytes_unlike0 _ _ _ _ _ _ _ _ _ _ _ _ _ _
  · exact bytes_unlike D _ _ _ _ _ _ _ _ _ _ _ _ _ _ h0 hl w hA
end Go.Proofs.Ytkgmbomfkdkofaa
