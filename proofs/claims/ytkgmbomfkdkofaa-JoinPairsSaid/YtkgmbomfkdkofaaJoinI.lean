/- join: Feed, End, More, Held; a machine that Drive can drive. -/
import Derived.Test.YtkgmbomfkdkofaaJoinW
import Derived.Test.YtkgmbomfkdkofaaJoinD
import Derived.Test.YtkgmbomfkdkofaaPasteH
namespace Go.Proofs.Ytkgmbomfkdkofaa
open Go Go.RowKit

/-! ## The machine's states, plain -/
structure JOk (N : Nat) (s : JoS) : Prop where
  n1 : 1 ≤ N
  n2 : N ≤ 100
  most : s.most = N
  keep : JKeep N s.a
  few : ∀ k, k < 2 → (s.a.q k).length ≤ 40
  st : s.a.over = false → (s.more = true ∧ Due s.a) ∨ (s.more = false ∧ Waits s.a ∧ s.at_ = s.a.wk)

theorem grp_rest (c : UInt8) (N : Nat) (s : JA) (k : Nat) : ((s.set s.wk (s.grp c N)).q k).length ≤ (s.q k).length := by
  show (upd s.q s.wk (s.grp c N).rest k).length ≤ _
  by_cases hk : k = s.wk
  · subst hk; rw [upd_same]; exact (jgo_len c N (s.en s.wk) (s.q s.wk) (s.key s.wk) (s.ls s.wk)).1
  · rw [upd_ne _ _ hk]; exact Nat.le_refl _
theorem jq_step (s : JoS) (k : Nat) : ((jrStep s).1.a.q k).length ≤ (s.a.q k).length := by
  by_cases h0 : s.a.over = true
  · rw [jr_over h0]; exact Nat.le_refl _
  have h0' : s.a.over = false := by simpa using h0
  by_cases h1 : s.a.want 0 = false ∧ s.a.want 1 = false
  · by_cases h2 : s.a.key 0 = s.a.key 1 ∧ s.a.pi < (s.a.ls 0).length
    · rw [jr_due h0' h1 h2]; exact Nat.le_refl _
    · rw [jr_next h0' h1 h2]; exact Nat.le_refl _
  · unfold jrStep
    rw [if_neg h0, if_neg h1]
    dsimp only
    rw [(aStep_grp s.by_ s.most s.a h0' h1).2.1]
    exact grp_rest _ _ _ _
theorem jq_all : ∀ (n : Nat) (s : JoS) (k : Nat), aMu s.a < n → ((jAll s).1.a.q k).length ≤ (s.a.q k).length := by
  intro n
  induction n with
  | zero => intro s k h; omega
  | succ n ih =>
    intro s k h
    cases hg : (jrStep s).2.1 with
    | true =>
      have := jrStep_mu s hg
      rw [jAll_go hg]
      exact Nat.le_trans (ih _ k (by omega)) (jq_step s k)
    | false => rw [jAll_stop hg]; exact jq_step s k
theorem aMu_le (s : JA) : aMu s ≤ 2 * ((s.q 0).length + (s.q 1).length) + 6 := by
  have hb : ∀ b : Bool, b2n b ≤ 1 := fun b => by cases b <;> decide
  have h1 := hb (!s.want 0)
  have h2 := hb (!s.want 1)
  have h3 := hb (s.want 0 && !(s.ls 0).isEmpty)
  have h4 := hb (s.want 1 && !(s.ls 1).isEmpty)
  unfold aMu
  omega

/-- A run of rows from a place that came about. -/
theorem jo_run {N : Nat} {s : JoS} (n1 : 1 ≤ N) (n2 : N ≤ 100) (hm : s.most = N) (hk : JKeep N s.a) (hf : ∀ k, k < 2 → (s.a.q k).length ≤ 80) (hmo : s.more = true → s.a.over = false ∧ s.a.want 0 = false ∧ s.a.want 1 = false) :
    JRok s ∧ ((∀ k, k < 2 → ((jAll s).1.a.q k).length ≤ 40) → JOk N (jAll s).1) ∧ ((jAll s).1.a.over = false → (jAll s).2 = 0) := by
  have hmu := aMu_le s.a
  have f0 := hf 0 (by omega)
  have f1 := hf 1 (by omega)
  have hr := jAll_run _ s (Nat.lt_succ_self _) (by rw [hm]; exact n1) (by rw [hm]; exact hk) hmo
  refine ⟨⟨by rw [hm]; exact n1, by rw [hm]; omega, by rw [hm]; exact hk, by omega⟩, fun hq => ⟨n1, n2, by rw [hr.most, hm], by have := hr.keep; rw [hm] at this; exact this, hq, fun ho => ?_⟩, fun ho => ?_⟩
  · rcases hr.out with ⟨_, h2, h3, _⟩ | ⟨h1, h2, h3⟩
    · exact .inl ⟨h2, h3⟩
    · have hw := (aAll_ext s.by_ s.most (fun _ => []) s.a.en _ s.a (Nat.lt_succ_self _) (fun k hk => ⟨rfl, hk⟩)).2.2 (by rw [h2]; exact ho)
      rw [h2] at hw
      exact .inr ⟨h1, hw.2.1, (h3 ho).1⟩
  · rcases hr.out with ⟨h1, _, _, _⟩ | ⟨_, _, h3⟩
    · exact h1
    · exact (h3 ho).2

theorem JOk.stop {N : Nat} {s : JoS} (h : JOk N s) : JOk N s.stop := ⟨h.n1, h.n2, h.most, keep_over h.keep, h.few, fun e => by cases e⟩

/-- Bytes, or an end, at the place where it waits. -/
theorem jo_setQ {N : Nat} {s : JoS} (h : JOk N s) (hmf : s.more = false) (hw : Waits s.a) (hat : s.at_ = s.a.wk) (b : Bs) (new : List Bs) (e : Bool) (hn : ∀ l ∈ new, l.length ≤ 64) (hc : new.length ≤ 40) :
    JRok (s.setQ s.at_ b new e) ∧ JOk N (jAll (s.setQ s.at_ b new e)).1 ∧ ((jAll (s.setQ s.at_ b new e)).1.a.over = false → (jAll (s.setQ s.at_ b new e)).2 = 0) := by
  have hq : ∀ k, k < 2 → ((s.setQ s.at_ b new e).a.q k).length ≤ 40 := fun k hk => by
    show (upd s.a.q s.at_ (s.a.q s.at_ ++ new) k).length ≤ 40
    by_cases hj : k = s.at_
    · subst hj; rw [upd_same, hat, hw.q]; simpa using hc
    · rw [upd_ne _ _ hj]; exact h.few k hk
  have hr := jo_run (s := s.setQ s.at_ b new e) h.n1 h.n2 h.most (keep_setQ h.keep s.at_ b new e hn) (fun k hk => by have := hq k hk; omega) (fun hm => by
    have : s.more = true := hm
    rw [hmf] at this; cases this)
  exact ⟨hr.1, hr.2.1 (fun k hk => Nat.le_trans (jq_all _ _ k (Nat.lt_succ_self _)) (hq k hk)), hr.2.2⟩
theorem jo_adv {N : Nat} {s : JoS} (h : JOk N s) (hd : Due s.a) : JRok s.adv ∧ JOk N (jAll s.adv).1 ∧ s.line.length ≤ 200 := by
  obtain ⟨_, g2, g3, g4⟩ := due_line (c := s.by_) rfl hd h.keep
  have hr := jo_run (s := s.adv) h.n1 h.n2 h.most g2 (fun k hk => by have := h.few k hk; show (s.a.q k).length ≤ 80; omega) (fun _ => g4)
  exact ⟨hr.1, hr.2.1 (fun k hk => Nat.le_trans (jq_all _ _ k (Nat.lt_succ_self _)) (h.few k hk)), g3⟩

/-! ## In memory -/
def JoInv (g N B : Nat) (s : JoS) (F : Nat → Prop) (w : World) : Prop :=
  ∃ fl cs V, JOk N s ∧ (s.a.over = false → ∀ k, k < 2 → fl k = false) ∧ JMem g B s fl cs V w ∧ ∀ k, F k ↔ jF g V k

section
variable {g N B : Nat}

theorem jo_ans {s : JoS} {F : Nat → Prop} {w w' : World} (h : JoInv g N B s F w) (c : Int) (hw : w = w') : MAns joinM (JoInv g N B) w F ([], c, s) (.returned (.tuple #[.slice none 0 0, .int .i64 c])) w' := by
  subst hw
  exact ⟨_, F, rfl, h, fun _ hk => .inl hk, Chg.refl _ _, OutsAt.nil _ _ _ _⟩

theorem jo_cells {s : JoS} {fl : Nat → Bool} {cs : Array Value} {V : Nat → Value} {w : World} (h : JMem g B s fl cs V w) :
    w.cell? ⟨g, 0, none⟩ = some (.int .i64 s.at_) ∧ w.cell? ⟨g, 1, none⟩ = some (.bool s.more) ∧ w.cell? ⟨g, 2, none⟩ = some (.bool s.a.over) ∧ ∀ i, w.frozen? ⟨g, i, none⟩ = false :=
  ⟨(h.blk.cell _).trans h.c0, (h.blk.cell _).trans h.c1, (h.blk.cell _).trans h.c2, fun i => h.blk.frozen i⟩

/-- What rows answers, after a change. -/
theorem jo_rows {s1 : JoS} {fl1 : Nat → Bool} {cs1 : Array Value} {V1 : Nat → Value} {F : Nat → Prop} {w w1 : World} (hok : JRok s1) (hm : JMem g B s1 fl1 cs1 V1 w1) (hF : ∀ k, jF g V1 k → F k ∨ w.heap.size ≤ k) (hc : Chg F w w1) :
    Calls Try.prog 132 #[.pointer (some ⟨g, 0, none⟩)] w1 fun e w' => e = .returned (.int .i64 (jAll s1).2) ∧ ∃ cs' V', JMem g B (jAll s1).1 fl1 cs' V' w' ∧ Chg F w w' ∧ ∀ k, jF g V' k → F k ∨ w.heap.size ≤ k := by
  have hBw : B ≤ w1.heap.size := by have := hm.blk.lt; have := hm.ge; omega
  refine (jrows_any g B s1 fl1 cs1 V1 w1 hok hm (jF g V1) (fun _ h => h) hBw).mono ?_
  rintro e w' ⟨cs', V', rfl, hm', hc', hF'⟩
  refine ⟨rfl, cs', V', hm', hc.trans hc' (fun k hk hlt => ?_), fun k hk => ?_⟩
  · rcases hF k hk with h | h
    · exact h
    · omega
  · rcases hF' k hk with h | h
    · exact hF k h
    · exact .inr (Nat.le_trans hc.size h)

theorem cutS_new (s : Bs) (bs : Bs) (h1 : s.length ≤ 64) (h2 : bs.length ≤ 32) : (∀ l ∈ (cutS s bs).1, l.length ≤ 64) ∧ (cutS s bs).1.length ≤ 40 := by
  have h3 := cutS_count bs s
  exact ⟨(cutS_len bs s h1).2, by omega⟩

set_option maxHeartbeats 1000000 in
set_option maxRecDepth 100000 in
theorem jo_feed (s : JoS) (F : Nat → Prop) (w : World) (port : Int) (A : Option Addr) (c : Nat) (bs : Bs) (h : JoInv g N B s F w) (hr : Rd w (fun j => ¬ F j) 1 A bs.length (u8s bs)) (hl : bs.length ≤ 100000) :
    Calls Try.prog 128 #[.pointer (some ⟨g, 0, none⟩), .int .i64 port, .slice A bs.length c] w (MAns joinM (JoInv g N B) w F (joinM.feed s port bs)) := by
  have hinv := h
  obtain ⟨fl, cs, V, hok, hfl, hm, hFF⟩ := h
  obtain ⟨k0, k1, k2, hfz⟩ := jo_cells hm
  have hfin := fun c (w' : World) hw => jo_ans (w' := w') hinv c hw
  replace hfin := Lib.hid hfin
  show Calls _ _ _ _ (MAns joinM (JoInv g N B) w F (joFeed s port bs))
  by_cases ho : s.a.over = true
  · have e : joFeed s port bs = ([], 4, s) := by unfold joFeed; rw [if_pos ho]
    rw [e]
    rw [ho] at k2
    clear hr hFF e hm hok hfl hinv
    go_enter Try.func128, Try.ntmps128
    go_wp2
    go_ret2
    exact hfin.out 4 _ rfl
  have ho' : s.a.over = false := by simpa using ho
  rw [ho'] at k2
  rcases hok.st ho' with ⟨hmo, hdue⟩ | ⟨hmo, hw, hat⟩
  · have e : joFeed s port bs = ([], 1, s) := by unfold joFeed; rw [if_neg ho, if_pos (.inl hmo)]
    rw [e]
    rw [hmo] at k1
    clear hr hFF e hm hok hfl hinv hdue
    go_enter Try.func128, Try.ntmps128
    go_wp2
    go_ret2
    exact hfin.out 1 _ rfl
  rw [hmo] at k1
  by_cases hp : port = s.at_
  · subst hp
    have hnm : ¬ (s.more = true ∨ (s.at_ : Int) ≠ s.at_) := by rw [hmo]; simp
    by_cases hlen : bs.length = 0 ∨ bs.length > 32
    · have e : joFeed s s.at_ bs = ([], 1, s) := by unfold joFeed; rw [if_neg ho, if_neg hnm, if_pos hlen]
      rw [e]
      clear hr hFF e hm hok hfl hinv hw
      rcases hlen with hz | hz
      · have hz1 : ((bs.length : Int) == 0) = true := by rw [hz]; rfl
        go_enter Try.func128, Try.ntmps128
        go_wp2
        go_ret2
        exact hfin.out 1 _ rfl
      · have hz1 : ((bs.length : Int) == 0) = false := by rw [beq_eq_false_iff_ne]; omega
        have hz2 : (32 : Int) < (bs.length : Int) := by omega
        go_enter Try.func128, Try.ntmps128
        go_wp2
        go_ret2
        exact hfin.out 1 _ rfl
    · have hz1 : ((bs.length : Int) == 0) = false := by rw [beq_eq_false_iff_ne]; omega
      have hz2 : ¬ (32 : Int) < (bs.length : Int) := by omega
      have hlt : s.at_ < 2 := by rw [hat]; exact hw.lt
      have hqa := hm.q s.at_ hlt
      rw [hfl ho' s.at_ hlt] at hqa
      have hbeg : (s.beg s.at_).length ≤ 64 := hqa.spl.le
      have hnew := cutS_new (s.beg s.at_) bs hbeg (by omega)
      have hmB : B ≤ w.heap.size := by have := hm.blk.lt; have := hm.ge; omega
      have hpush := push_any 84 g (5 + s.at_ * 70) B cs ⟨s.beg s.at_, s.a.q s.at_, s.a.en s.at_⟩ (V s.at_) w bs A c hm.blk hqa (hm.own _ hlt) (hm.vne (by omega)) hmB (hr.mono (fun k hk _ e => hk ((hFF k).2 (.inl e)))) hl (by have := hok.few s.at_ hlt; dsimp only; omega)
      have hrun := jo_setQ hok hmo hw hat (cutS (s.beg s.at_) bs).2.1 (cutS (s.beg s.at_) bs).1 (s.a.en s.at_) hnew.1 hnew.2
      have hjf : joFeed s s.at_ bs = if (cutS (s.beg s.at_) bs).2.2 = true ∧ (jAll (s.setQ s.at_ (cutS (s.beg s.at_) bs).2.1 (cutS (s.beg s.at_) bs).1 (s.a.en s.at_))).2 = 0 ∧ (jAll (s.setQ s.at_ (cutS (s.beg s.at_) bs).2.1 (cutS (s.beg s.at_) bs).1 (s.a.en s.at_))).1.a.over = false
          then ([], 20, (jAll (s.setQ s.at_ (cutS (s.beg s.at_) bs).2.1 (cutS (s.beg s.at_) bs).1 (s.a.en s.at_))).1.stop)
          else ([], (jAll (s.setQ s.at_ (cutS (s.beg s.at_) bs).2.1 (cutS (s.beg s.at_) bs).1 (s.a.en s.at_))).2, (jAll (s.setQ s.at_ (cutS (s.beg s.at_) bs).2.1 (cutS (s.beg s.at_) bs).1 (s.a.en s.at_))).1) := by
        unfold joFeed; rw [if_neg ho, if_neg hnm, if_neg hlen]
      rw [hjf]
      have hltI : (s.at_ : Int) < 2 := by omega
      have hat0 : (0 : Int) ≤ (s.at_ : Int) := by omega
      unfold PushPost at hpush
      have hrows : ∀ lv' cs' w1, QPost 84 g (5 + s.at_ * 70) cs B (V s.at_) w ⟨(cutS (s.beg s.at_) bs).2.1, s.a.q s.at_ ++ (cutS (s.beg s.at_) bs).1, s.a.en s.at_⟩ (cutS (s.beg s.at_) bs).2.2 lv' cs' w1 →
          Calls Try.prog 132 #[.pointer (some ⟨g, 0, none⟩)] w1 fun e w' => e = .returned (.int .i64 (jAll (s.setQ s.at_ (cutS (s.beg s.at_) bs).2.1 (cutS (s.beg s.at_) bs).1 (s.a.en s.at_))).2) ∧
            ∃ cs' V', JMem g B (jAll (s.setQ s.at_ (cutS (s.beg s.at_) bs).2.1 (cutS (s.beg s.at_) bs).1 (s.a.en s.at_))).1 (upd fl s.at_ (cutS (s.beg s.at_) bs).2.2) cs' V' w' ∧ Chg F w w' ∧ ∀ k, jF g V' k → F k ∨ w.heap.size ≤ k := fun lv' cs' w1 p => by
        have hm1 := hm.queue hlt p
        have hqF := JMem.queue_F hlt p
        exact jo_rows (s1 := s.setQ s.at_ (cutS (s.beg s.at_) bs).2.1 (cutS (s.beg s.at_) bs).1 (s.a.en s.at_)) hrun.1 hm1 (fun k hk => (hqF.2 k hk).imp (fun h => (hFF k).2 h) id) (hqF.1.mono (fun k hk _ => (hFF k).2 hk))
      generalize s.setQ s.at_ (cutS (s.beg s.at_) bs).2.1 (cutS (s.beg s.at_) bs).1 (s.a.en s.at_) = s1 at *
      generalize jAll s1 = R at *
      obtain ⟨_, hokR, hR0⟩ := hrun
      have hflu : ∀ b : Bool, b = false → ∀ k, k < 2 → upd fl s.at_ b k = false := fun b hb k hk => by
        by_cases hj : k = s.at_
        · subst hj; rw [upd_same, hb]
        · rw [upd_ne _ _ hj]; exact hfl ho' k hk
      replace hjf := Lib.hid hjf
      replace hnew := Lib.hid hnew
      replace hat := Lib.hid hat
      by_cases hfail : (cutS (s.beg s.at_) bs).2.2 = true
      · rw [hfail] at hpush hrows
        have hmq : ∀ cs' V' w', JMem g B R.1 (upd fl s.at_ true) cs' V' w' → Chg F w w' → (∀ k, jF g V' k → F k ∨ w.heap.size ≤ k) → R.1.a.over = true → MAns joinM (JoInv g N B) w F ([], R.2, R.1) (.returned (.tuple #[.slice none 0 0, .int .i64 R.2])) w' := fun cs' V' w' h1 h2 h3 h4 =>
          ⟨_, fun k => jF g V' k, rfl, ⟨_, cs', V', hokR, (fun h => by rw [h4] at h; cases h), h1, fun _ => Iff.rfl⟩, h3, h2, OutsAt.nil _ _ _ _⟩
        have hms : ∀ cs' V' w', JMem g B R.1 (upd fl s.at_ true) cs' V' w' → Chg F w w' → (∀ k, jF g V' k → F k ∨ w.heap.size ≤ k) → MAns joinM (JoInv g N B) w F ([], 20, R.1.stop) (.returned (.tuple #[.slice none 0 0, .int .i64 20])) (w'.setCell ⟨g, 2, none⟩ (.bool true)) := fun cs' V' w' h1 h2 h3 =>
          ⟨_, fun k => jF g V' k, rfl, ⟨_, _, V', hokR.stop, (fun h => by cases h), h1.set_over.1, fun _ => Iff.rfl⟩, h3, h2.trans h1.set_over.2 (fun k hk hlt => by
            subst hk
            rcases h3 _ (.inl rfl) with h | h
            · exact h
            · omega), OutsAt.nil _ _ _ _⟩
        replace hrows := Lib.hid hrows
        replace hpush := Lib.hid hpush
        replace hmq := Lib.hid hmq
        replace hms := Lib.hid hms
        have hfail2 := hfail
        rw [hfail2]
        clear hr hFF hm hok hfl hinv hqa hokR hflu hw hlen hbeg hmo hnm hfail
        obtain ⟨R1, R2⟩ := R
        dsimp only at hrows hmq hms hR0 ⊢
        cases hRo : R1.a.over with
        | true =>
          rw [if_neg (fun h => by cases h.2.2)]
          have hd : (R2 == 0) = true ∨ (R2 == 0) = false := by cases (R2 == 0) <;> simp
          clear hR0 hfail2
          rcases hd with hd | hd
          · go_enter Try.func128, Try.ntmps128
            go_wp2_with (first
              | (go_at_call 100; go_in)
              | (go_at_call 97; go_in)
              | (go_at_call 133
                 refine hpush.out.mono ?_
                 intro e1 w1 ho1
                 obtain ⟨lv1, cs1, rfl, p1⟩ := ho1
                 rw [if_pos rfl]
                 have hr1 := hrows.out _ _ _ p1
                 replace hr1 := Lib.hid hr1
                 clear p1)
              | (go_at_call 132
                 refine hr1.out.mono ?_
                 rintro e2 w2 ⟨rfl, cs2, V2, hm2, hc2, hF2⟩
                 obtain ⟨_, _, m2, mf⟩ := jo_cells hm2
                 have mf2 := mf 2
                 rw [hRo] at m2)
              | (go_at_call 134
                 refine (b_over _ _ m2).mono ?_
                 rintro e3 w3 ⟨rfl, rfl⟩)
              | (go_at_call 96
                 refine (b_stop _ _ m2 mf2).mono ?_
                 rintro e3 w3 ⟨rfl, rfl⟩))
            go_ret2
            exact hmq.out _ _ _ hm2 hc2 hF2 hRo
          · go_enter Try.func128, Try.ntmps128
            go_wp2_with (first
              | (go_at_call 100; go_in)
              | (go_at_call 97; go_in)
              | (go_at_call 133
                 refine hpush.out.mono ?_
                 intro e1 w1 ho1
                 obtain ⟨lv1, cs1, rfl, p1⟩ := ho1
                 rw [if_pos rfl]
                 have hr1 := hrows.out _ _ _ p1
                 replace hr1 := Lib.hid hr1
                 clear p1)
              | (go_at_call 132
                 refine hr1.out.mono ?_
                 rintro e2 w2 ⟨rfl, cs2, V2, hm2, hc2, hF2⟩
                 obtain ⟨_, _, m2, mf⟩ := jo_cells hm2
                 have mf2 := mf 2
                 rw [hRo] at m2)
              | (go_at_call 134
                 refine (b_over _ _ m2).mono ?_
                 rintro e3 w3 ⟨rfl, rfl⟩)
              | (go_at_call 96
                 refine (b_stop _ _ m2 mf2).mono ?_
                 rintro e3 w3 ⟨rfl, rfl⟩))
            go_ret2
            exact hmq.out _ _ _ hm2 hc2 hF2 hRo
        | false =>
          have hR2 := hR0 hRo
          subst hR2
          rw [if_pos ⟨rfl, rfl, rfl⟩]
          clear hR0 hfail2
          go_enter Try.func128, Try.ntmps128
          go_wp2_with (first
            | (go_at_call 100; go_in)
            | (go_at_call 97; go_in)
            | (go_at_call 133
               refine hpush.out.mono ?_
               intro e1 w1 ho1
               obtain ⟨lv1, cs1, rfl, p1⟩ := ho1
               rw [if_pos rfl]
               have hr1 := hrows.out _ _ _ p1
               replace hr1 := Lib.hid hr1
               clear p1)
            | (go_at_call 132
               refine hr1.out.mono ?_
               rintro e2 w2 ⟨rfl, cs2, V2, hm2, hc2, hF2⟩
               obtain ⟨_, _, m2, mf⟩ := jo_cells hm2
               have mf2 := mf 2
               rw [hRo] at m2)
            | (go_at_call 134
               refine (b_over _ _ m2).mono ?_
               rintro e3 w3 ⟨rfl, rfl⟩)
            | (go_at_call 96
               refine (b_stop _ _ m2 mf2).mono ?_
               rintro e3 w3 ⟨rfl, rfl⟩))
          go_ret2
          exact hms.out _ _ _ hm2 hc2 hF2
      · have hfail' : (cutS (s.beg s.at_) bs).2.2 = false := by simpa using hfail
        rw [if_neg (fun h => hfail h.1)]
        rw [hfail'] at hpush hrows
        have hres : ∀ cs' V' w', JMem g B R.1 (upd fl s.at_ false) cs' V' w' → Chg F w w' → (∀ k, jF g V' k → F k ∨ w.heap.size ≤ k) → MAns joinM (JoInv g N B) w F ([], R.2, R.1) (.returned (.tuple #[.slice none 0 0, .int .i64 R.2])) w' := fun cs' V' w' h1 h2 h3 =>
          ⟨_, fun k => jF g V' k, rfl, ⟨_, cs', V', hokR, fun _ => hflu false rfl, h1, fun _ => Iff.rfl⟩, h3, h2, OutsAt.nil _ _ _ _⟩
        replace hrows := Lib.hid hrows
        replace hpush := Lib.hid hpush
        replace hres := Lib.hid hres
        clear hr hFF hm hok hfl hinv hqa hfail hfail' hR0 hokR hflu hw hlen hbeg hmo hnm
        obtain ⟨R1, R2⟩ := R
        dsimp only at hrows hres ⊢
        have hd : (R2 == 0) = true ∨ (R2 == 0) = false := by cases (R2 == 0) <;> simp
        rcases hd with hd | hd
        all_goals
         go_enter Try.func128, Try.ntmps128
         go_wp2_with (first
           | (go_at_call 100; go_in)
           | (go_at_call 97; go_in)
           | (go_at_call 133
              refine hpush.out.mono ?_
              intro e1 w1 ho1
              obtain ⟨lv1, cs1, rfl, p1⟩ := ho1
              rw [if_neg (by decide)]
              have hr1 := hrows.out _ _ _ p1
              replace hr1 := Lib.hid hr1
              clear p1)
           | (go_at_call 132
              refine hr1.out.mono ?_
              rintro e2 w2 ⟨rfl, cs2, V2, hm2, hc2, hF2⟩))
         go_ret2
         exact hres.out _ _ _ hm2 hc2 hF2
  · have e : joFeed s port bs = ([], 1, s) := by unfold joFeed; rw [if_neg ho, if_pos (.inr hp)]
    rw [e]
    have hp1 : (port == (s.at_ : Int)) = false := by simpa using hp
    have hp2 : (port != (s.at_ : Int)) = true := by simpa using hp
    clear hr hFF e hm hok hfl hinv hw
    go_enter Try.func128, Try.ntmps128
    go_wp2
    go_ret2
    exact hfin.out 1 _ rfl
end
end Go.Proofs.Ytkgmbomfkdkofaa
namespace Go.Proofs.Ytkgmbomfkdkofaa
open Go Go.RowKit
section
variable {g N B : Nat}

set_option maxHeartbeats 1000000 in
set_option maxRecDepth 100000 in
theorem jo_end (s : JoS) (F : Nat → Prop) (w : World) (port : Int) (h : JoInv g N B s F w) :
    Calls Try.prog 127 #[.pointer (some ⟨g, 0, none⟩), .int .i64 port] w (MAns joinM (JoInv g N B) w F (joinM.fin s port)) := by
  have hinv := h
  obtain ⟨fl, cs, V, hok, hfl, hm, hFF⟩ := h
  obtain ⟨k0, k1, k2, hfz⟩ := jo_cells hm
  have hfin := fun c (w' : World) hw => jo_ans (w' := w') hinv c hw
  replace hfin := Lib.hid hfin
  show Calls _ _ _ _ (MAns joinM (JoInv g N B) w F (joFin s port))
  by_cases ho : s.a.over = true
  · have e : joFin s port = ([], 4, s) := by unfold joFin; rw [if_pos ho]
    rw [e]
    rw [ho] at k2
    clear hFF e hm hok hfl hinv
    go_enter Try.func127, Try.ntmps127
    go_wp2
    go_ret2
    exact hfin.out 4 _ rfl
  have ho' : s.a.over = false := by simpa using ho
  rw [ho'] at k2
  rcases hok.st ho' with ⟨hmo, hdue⟩ | ⟨hmo, hw, hat⟩
  · have e : joFin s port = ([], 1, s) := by unfold joFin; rw [if_neg ho, if_pos (.inl hmo)]
    rw [e]
    rw [hmo] at k1
    clear hFF e hm hok hfl hinv hdue
    go_enter Try.func127, Try.ntmps127
    go_wp2
    go_ret2
    exact hfin.out 1 _ rfl
  rw [hmo] at k1
  by_cases hp : port = s.at_
  · subst hp
    have hnm : ¬ (s.more = true ∨ (s.at_ : Int) ≠ s.at_) := by rw [hmo]; simp
    have hlt : s.at_ < 2 := by rw [hat]; exact hw.lt
    have hqa := hm.q s.at_ hlt
    have hbeg : (s.beg s.at_).length ≤ 64 := hqa.spl.le
    have hmB : B ≤ w.heap.size := by have := hm.blk.lt; have := hm.ge; omega
    have hclose := close_any 84 g (5 + s.at_ * 70) B cs ⟨s.beg s.at_, s.a.q s.at_, s.a.en s.at_⟩ (V s.at_) w (fl s.at_) hm.blk hqa (hm.own _ hlt) (hm.vne (by omega)) hmB (by have := hok.few s.at_ hlt; dsimp only; omega)
    have hrun := jo_setQ hok hmo hw hat [] (if s.beg s.at_ = [] then [] else [s.beg s.at_]) true (by
      intro l h
      split at h
      · cases h
      · simp only [List.mem_singleton] at h; subst h; exact hbeg) (by split <;> simp)
    have e : joFin s s.at_ = ([], (jAll (s.setQ s.at_ [] (if s.beg s.at_ = [] then [] else [s.beg s.at_]) true)).2, (jAll (s.setQ s.at_ [] (if s.beg s.at_ = [] then [] else [s.beg s.at_]) true)).1) := by
      unfold joFin; rw [if_neg ho, if_neg hnm]
    rw [e]
    have hltI : (s.at_ : Int) < 2 := by omega
    have hat0 : (0 : Int) ≤ (s.at_ : Int) := by omega
    unfold ClosePost at hclose
    have hrows : ∀ lv' cs' w1, QPost 84 g (5 + s.at_ * 70) cs B (V s.at_) w ⟨[], s.a.q s.at_ ++ (if s.beg s.at_ = [] then [] else [s.beg s.at_]), true⟩ (fl s.at_) lv' cs' w1 →
        Calls Try.prog 132 #[.pointer (some ⟨g, 0, none⟩)] w1 fun e w' => e = .returned (.int .i64 (jAll (s.setQ s.at_ [] (if s.beg s.at_ = [] then [] else [s.beg s.at_]) true)).2) ∧
          ∃ cs' V', JMem g B (jAll (s.setQ s.at_ [] (if s.beg s.at_ = [] then [] else [s.beg s.at_]) true)).1 (upd fl s.at_ (fl s.at_)) cs' V' w' ∧ Chg F w w' ∧ ∀ k, jF g V' k → F k ∨ w.heap.size ≤ k := fun lv' cs' w1 p => by
      have hm1 := hm.queue hlt p
      have hqF := JMem.queue_F hlt p
      exact jo_rows (s1 := s.setQ s.at_ [] (if s.beg s.at_ = [] then [] else [s.beg s.at_]) true) hrun.1 hm1 (fun k hk => (hqF.2 k hk).imp (fun h => (hFF k).2 h) id) (hqF.1.mono (fun k hk _ => (hFF k).2 hk))
    generalize s.setQ s.at_ [] (if s.beg s.at_ = [] then [] else [s.beg s.at_]) true = s1 at *
    generalize (if s.beg s.at_ = [] then [] else [s.beg s.at_]) = nw at *
    generalize jAll s1 = R at *
    obtain ⟨_, hokR, hR0⟩ := hrun
    have hres : ∀ cs' V' w', JMem g B R.1 (upd fl s.at_ (fl s.at_)) cs' V' w' → Chg F w w' → (∀ k, jF g V' k → F k ∨ w.heap.size ≤ k) → MAns joinM (JoInv g N B) w F ([], R.2, R.1) (.returned (.tuple #[.slice none 0 0, .int .i64 R.2])) w' := fun cs' V' w' h1 h2 h3 =>
      ⟨_, fun k => jF g V' k, rfl, ⟨_, cs', V', hokR, (fun _ k hk => by rw [upd_id]; exact hfl ho' k hk), h1, fun _ => Iff.rfl⟩, h3, h2, OutsAt.nil _ _ _ _⟩
    replace hrows := Lib.hid hrows
    replace hclose := Lib.hid hclose
    replace hres := Lib.hid hres
    replace hat := Lib.hid hat
    clear hFF hm hok hfl hinv hqa hR0 hokR hw hbeg hmo hnm e
    obtain ⟨R1, R2⟩ := R
    dsimp only at hrows hres ⊢
    go_enter Try.func127, Try.ntmps127
    go_wp2_with (first
      | (go_at_call 97; go_in)
      | (go_at_call 131
         refine hclose.out.mono ?_
         intro e1 w1 ho1
         obtain ⟨lv1, cs1, rfl, p1⟩ := ho1
         have hr1 := hrows.out _ _ _ p1
         replace hr1 := Lib.hid hr1
         clear p1)
      | (go_at_call 132
         refine hr1.out.mono ?_
         rintro e2 w2 ⟨rfl, cs2, V2, hm2, hc2, hF2⟩))
    go_ret2
    exact hres.out _ _ _ hm2 hc2 hF2
  · have e : joFin s port = ([], 1, s) := by unfold joFin; rw [if_neg ho, if_pos (.inr hp)]
    rw [e]
    have hp1 : (port == (s.at_ : Int)) = false := by simpa using hp
    have hp2 : (port != (s.at_ : Int)) = true := by simpa using hp
    clear hFF e hm hok hfl hinv hw
    go_enter Try.func127, Try.ntmps127
    go_wp2
    go_ret2
    exact hfin.out 1 _ rfl

set_option maxHeartbeats 1000000 in
set_option maxRecDepth 100000 in
theorem jo_more (s : JoS) (F : Nat → Prop) (w : World) (h : JoInv g N B s F w) :
    Calls Try.prog 130 #[.pointer (some ⟨g, 0, none⟩)] w (MAns joinM (JoInv g N B) w F (joinM.more s)) := by
  have hinv := h
  obtain ⟨fl, cs, V, hok, hfl, hm, hFF⟩ := h
  obtain ⟨k0, k1, k2, hfz⟩ := jo_cells hm
  have hfin := fun c (w' : World) hw => jo_ans (w' := w') hinv c hw
  replace hfin := Lib.hid hfin
  show Calls _ _ _ _ (MAns joinM (JoInv g N B) w F (joMore s))
  by_cases ho : s.a.over = true
  · have e : joMore s = ([], 4, s) := by unfold joMore; rw [if_pos ho]
    rw [e]
    rw [ho] at k2
    clear hFF e hm hok hfl hinv
    go_enter Try.func130, Try.ntmps130
    go_wp2_with (first
      | (go_at_call 102; go_in))
    go_ret2
    exact hfin.out 4 _ rfl
  have ho' : s.a.over = false := by simpa using ho
  rw [ho'] at k2
  rcases hok.st ho' with ⟨hmo, hdue⟩ | ⟨hmo, hw, hat⟩
  · have e : joMore s = (tellS 0 [s.line], (jAll s.adv).2, (jAll s.adv).1) := by unfold joMore; rw [if_neg ho, if_neg (by rw [hmo]; decide)]
    rw [e]
    rw [hmo] at k1
    have hpj := hok.keep.pj hdue.none.1 hdue.none.2
    have hmost := hok.most
    have hn2 := hok.n2
    have htold := told_any g B s fl cs V w hm hdue.pi hpj (fun k hk => by have := hok.keep.few k hk; omega) (fun k hk => hok.keep.shl k hk) (hok.keep.shk 0 (by omega))
    have hadv := jo_adv hok hdue
    have hin := hm.inside
    have hwB : B ≤ w.heap.size := by have := hm.blk.lt; have := hm.ge; omega
    have hrows : ∀ cs' w1, JMem g B s.adv fl cs' V w1 → Chg (fun k => k = g) w w1 → Calls Try.prog 132 #[.pointer (some ⟨g, 0, none⟩)] w1 (JRPost g B fl w1 (jF g V) (jAll s.adv)) := fun cs' w1 h1 h2 =>
      jrows_any g B s.adv fl cs' V w1 hadv.1 h1 (jF g V) (fun _ h => h) (Nat.le_trans hwB h2.size)
    have hres : ∀ v w1 w', Chg (fun k => k = g) w w1 → OutsAt w1 (fun k => w.heap.size ≤ k) v (tellS 0 [s.line]) → (∃ cs' V', JMem g B (jAll s.adv).1 fl cs' V' w' ∧ Chg (jF g V) w1 w' ∧ ∀ x, jF g V' x → jF g V x ∨ w1.heap.size ≤ x) →
        MAns joinM (JoInv g N B) w F (tellS 0 [s.line], (jAll s.adv).2, (jAll s.adv).1) (.returned (.tuple #[v, .int .i64 (jAll s.adv).2])) w' := fun v w1 w' h1 h2 ⟨cs', V', h3, h4, h5⟩ =>
      ⟨v, fun k => jF g V' k, rfl, ⟨fl, cs', V', hadv.2.1, (fun _ => hfl ho'), h3, fun _ => Iff.rfl⟩, fun k hk => (h5 k hk).imp (fun h => (hFF k).2 h) (fun h => Nat.le_trans h1.size h),
        (h1.mono (fun k hk _ => (hFF k).2 (.inl hk))).trans h4 (fun k hk _ => (hFF k).2 hk), h2.chg h4 (fun k hk _ hs => by have := (hin k hs).2; omega)⟩
    generalize jAll s.adv = R at *
    unfold ToldPost at htold
    replace hrows := Lib.hid hrows
    replace htold := Lib.hid htold
    replace hres := Lib.hid hres
    clear hFF hm hok hfl hinv hadv hin hpj hdue e hmost hn2 hmo
    obtain ⟨R1, R2⟩ := R
    dsimp only at hrows hres ⊢
    go_enter Try.func130, Try.ntmps130
    go_wp2_with (first
      | (go_at_call 102; go_in)
      | (go_at_call 136
         refine htold.out.mono ?_
         rintro e1 w1 ⟨v1, cs1, rfl, hm1, hc1, hv1⟩
         have hr1 := hrows.out _ _ hm1 hc1
         replace hr1 := Lib.hid hr1
         clear hm1)
      | (go_at_call 132
         refine hr1.out.mono ?_
         rintro e2 w2 ⟨cs2, V2, rfl, hm2, hc2, hF2⟩))
    go_ret2
    exact hres.out _ _ _ hc1 hv1 ⟨cs2, V2, hm2, hc2, hF2⟩
  · have e : joMore s = ([], 1, s) := by unfold joMore; rw [if_neg ho, if_pos hmo]
    rw [e]
    rw [hmo] at k1
    clear hFF e hm hok hfl hinv hw
    go_enter Try.func130, Try.ntmps130
    go_wp2_with (first
      | (go_at_call 102; go_in))
    go_ret2
    exact hfin.out 1 _ rfl
end
end Go.Proofs.Ytkgmbomfkdkofaa
namespace Go.Proofs.Ytkgmbomfkdkofaa
open Go Go.RowKit
section
variable {g N B : Nat}

theorem j_need (a : Int) (mo ov : Bool) (w : World) (h0 : w.cell? ⟨g, 0, none⟩ = some (.int .i64 a)) (h1 : w.cell? ⟨g, 1, none⟩ = some (.bool mo)) (h2 : w.cell? ⟨g, 2, none⟩ = some (.bool ov)) :
    Calls Try.prog 95 #[.pointer (some ⟨g, 0, none⟩)] w fun e w' => e = .returned (.int .i64 (if ov = true then -1 else if mo = true then -2 else a)) ∧ w = w' := by
  cases ov <;> cases mo
  all_goals
    go_enter Try.func95, Try.ntmps95
    go_wp2
    go_ret
    exact ⟨rfl, rfl⟩

def heldTo (s : JoS) (k : Nat) : Nat := if k = 0 then 0 else if k = 1 then joWt s 0 else joWt s 0 + joWt s 1

set_option maxHeartbeats 1000000 in
set_option maxRecDepth 100000 in
theorem jo_held_any (s : JoS) (F : Nat → Prop) (w : World) (h : JoInv g N B s F w) :
    Calls Try.prog 129 #[.pointer (some ⟨g, 0, none⟩)] w fun e w' => e = .returned (.int .i64 (joinM.held s)) ∧ Chg (fun _ => False) w w' := by
  obtain ⟨fl, cs, V, hok, hfl, hm, hFF⟩ := h
  have hq : ∀ k, k < 2 → paWt ⟨s.beg k, s.a.q k, s.a.en k⟩ ≤ 3000 ∧ lens (s.a.ls k) ≤ 6400 ∧ joWt s k = paWt ⟨s.beg k, s.a.q k, s.a.en k⟩ + lens (s.a.ls k) ∧ Calls Try.prog 135 #[.pointer (some ⟨g, 5 + k * 70, none⟩)] w fun e w' => e = .returned (.int .i64 (paWt ⟨s.beg k, s.a.q k, s.a.en k⟩)) ∧ w = w' := fun k hk => by
    have hqa := hm.q k hk
    have h1 := lens_mul 40 (s.a.q k) (hok.few k hk) (hok.keep.shq k hk)
    have h2 := lens_mul N (s.a.ls k) (hok.keep.few k hk) (hok.keep.shl k hk)
    have h3 := hok.n2
    have h4 : (s.beg k).length ≤ 64 := hqa.spl.le
    have h5 := hok.few k hk
    have e : ((s.a.q k).map List.length).sum = lens (s.a.q k) := rfl
    refine ⟨?_, by have : 64 * N ≤ 64 * 100 := Nat.mul_le_mul_left _ h3; omega, rfl, (weight_any 84 g (5 + k * 70) B cs _ (V k) w (fl k) hm.blk hqa (hm.own k hk) (by dsimp only; omega) (by dsimp only; omega)).mono (fun e w' h => ⟨h.1, h.2.symm⟩)⟩
    unfold paWt
    dsimp only
    rw [e]
    split <;> omega
  obtain ⟨A2, c2, hV2, hcell2⟩ := strs_cell B (hm.gown 0 (by omega))
  obtain ⟨A3, c3, hV3, hcell3⟩ := strs_cell B (hm.gown 1 (by omega))
  have w74 : w.cell? ⟨g, 74, none⟩ = some (.slice A2 (s.a.ls 0).length c2) := (hm.blk.cell _).trans ((hm.grp 0 (by omega)).trans (by rw [hV2]))
  have w144 : w.cell? ⟨g, 144, none⟩ = some (.slice A3 (s.a.ls 1).length c3) := (hm.blk.cell _).trans ((hm.grp 1 (by omega)).trans (by rw [hV3]))
  have hn0 : (s.a.ls 0).length ≤ 100 := by have := hok.keep.few 0 (by omega); have := hok.n2; omega
  have hn1 : (s.a.ls 1).length ≤ 100 := by have := hok.keep.few 1 (by omega); have := hok.n2; omega
  obtain ⟨a0, b0, d0, x0⟩ := hq 0 (by omega)
  obtain ⟨a1, b1, d1, x1⟩ := hq 1 (by omega)
  have e : joinM.held s = (heldTo s 2 : Int) := rfl
  rw [e]
  have ht0 : heldTo s 0 = 0 := rfl
  have ht1 : heldTo s 1 = paWt ⟨s.beg 0, s.a.q 0, s.a.en 0⟩ + lens (s.a.ls 0) := by show joWt s 0 = _; rw [d0]
  have ht2 : heldTo s 2 = paWt ⟨s.beg 0, s.a.q 0, s.a.en 0⟩ + lens (s.a.ls 0) + paWt ⟨s.beg 1, s.a.q 1, s.a.en 1⟩ + lens (s.a.ls 1) := by show joWt s 0 + joWt s 1 = _; rw [d0, d1]; omega
  replace hcell2 := Lib.hid hcell2
  replace hcell3 := Lib.hid hcell3
  generalize heldTo s = ht at *
  generalize paWt ⟨s.beg 0, s.a.q 0, s.a.en 0⟩ = p0 at *
  generalize paWt ⟨s.beg 1, s.a.q 1, s.a.en 1⟩ = p1 at *
  generalize s.a.ls 0 = l0 at *
  generalize s.a.ls 1 = l1 at *
  clear hq hV2 hV3 hok hm hFF hfl e d0 d1
  have hn0I : (l0.length : Int) ≤ 100 := by omega
  have hn1I : (l1.length : Int) ≤ 100 := by omega
  replace ht0 := Lib.hid ht0
  replace ht1 := Lib.hid ht1
  replace ht2 := Lib.hid ht2
  have hp0 : (p0 : Int) ≤ 3000 := by omega
  have hp1 : (p1 : Int) ≤ 3000 := by omega
  replace x0 := Lib.hid x0
  replace x1 := Lib.hid x1
  go_enter Try.func129, Try.ntmps129
  go_wp2
  go_loopw [3, 7] (fun n i wr => ∃ k : Nat, k ≤ 2 ∧ i = .int .i64 k ∧ n = .int .i64 (ht k : Nat) ∧ w = wr) (fun _ i _ => 2 - (intOf i).toNat)
  case atStart => exact ⟨0, Nat.zero_le _, rfl, by rw [ht0.out]; rfl, rfl⟩
  case round =>
    obtain ⟨k, hk, rfl, rfl, rfl⟩ := hrel
    obtain rfl | rfl | rfl : k = 0 ∨ k = 1 ∨ k = 2 := by omega
    · have hbase : (ht 0 : Int) ≤ 10000 := by rw [ht0.out]; omega
      generalize hh : ht 0 = h0 at *
      replace hh := Lib.hid hh
      go_wp2_with (first
        | (go_at_call 135
           refine x0.out.mono ?_
           rintro e1 w1 ⟨rfl, rfl⟩))
      go_loopw [3, 27] (fun n i wr2 => ∃ k : Nat, k ≤ l0.length ∧ i = .int .i64 k ∧ n = .int .i64 (h0 + p0 + lens (l0.take k) : Nat) ∧ w = wr2) (fun _ i _ => l0.length - (intOf i).toNat)
      case atStart => exact ⟨0, Nat.zero_le _, rfl, by simp [lens], rfl⟩
      case round =>
        obtain ⟨k, hk, rfl, rfl, rfl⟩ := hrel
        by_cases hlt : k < l0.length
        · obtain ⟨g2, off, rfl, hg2, hc⟩ := hcell2.out k hlt
          have hs := lens_take l0 k hlt
          have hle := lens_take_le l0 (k + 1)
          generalize l0[k] = x at *
          generalize lens (l0.take k) = n0 at *
          have hs := Lib.hid hs
          have hxl : (x.length : Int) ≤ 100000 := by have := hs.out; omega
          have hnl : (n0 : Int) ≤ 100000 := by have := hs.out; omega
          have hbs : (⟨x.toArray⟩ : ByteArray).size = x.length := by simp [ByteArray.size]
          have hltI : (k : Int) < (l0.length : Int) := by omega
          have hk0 : (0 : Int) ≤ (k : Int) := by omega
          go_wp2
          go_roundw
          case rel => exact ⟨k + 1, by omega, by go_num, by rw [hs.out]; go_num, by trivial⟩
          case measure => simp [intOf]; omega
        · have hkl : k = l0.length := by omega
          have hfin : lens (l0.take k) = lens l0 := by rw [hkl, List.take_length]
          have hltI : ¬ (k : Int) < (l0.length : Int) := by omega
          replace hfin := Lib.hid hfin
          go_wp2
          go_roundw
          case rel => exact ⟨1, by omega, by go_num, by rw [hfin.out, ht1.out, ht0.out, Nat.zero_add], by trivial⟩
          case measure => simp [intOf]
    · have hbase : (ht 1 : Int) ≤ 10000 := by have := ht1.out; omega
      generalize hh : ht 1 = h1 at *
      replace hh := Lib.hid hh
      go_wp2_with (first
        | (go_at_call 135
           refine x1.out.mono ?_
           rintro e1 w1 ⟨rfl, rfl⟩))
      go_loopw [3, 27] (fun n i wr2 => ∃ k : Nat, k ≤ l1.length ∧ i = .int .i64 k ∧ n = .int .i64 (h1 + p1 + lens (l1.take k) : Nat) ∧ w = wr2) (fun _ i _ => l1.length - (intOf i).toNat)
      case atStart => exact ⟨0, Nat.zero_le _, rfl, by simp [lens], rfl⟩
      case round =>
        obtain ⟨k, hk, rfl, rfl, rfl⟩ := hrel
        by_cases hlt : k < l1.length
        · obtain ⟨g2, off, rfl, hg2, hc⟩ := hcell3.out k hlt
          have hs := lens_take l1 k hlt
          have hle := lens_take_le l1 (k + 1)
          generalize l1[k] = x at *
          generalize lens (l1.take k) = n0 at *
          have hs := Lib.hid hs
          have hxl : (x.length : Int) ≤ 100000 := by have := hs.out; omega
          have hnl : (n0 : Int) ≤ 100000 := by have := hs.out; omega
          have hbs : (⟨x.toArray⟩ : ByteArray).size = x.length := by simp [ByteArray.size]
          have hltI : (k : Int) < (l1.length : Int) := by omega
          have hk0 : (0 : Int) ≤ (k : Int) := by omega
          go_wp2
          go_roundw
          case rel => exact ⟨k + 1, by omega, by go_num, by rw [hs.out]; go_num, by trivial⟩
          case measure => simp [intOf]; omega
        · have hkl : k = l1.length := by omega
          have hfin : lens (l1.take k) = lens l1 := by rw [hkl, List.take_length]
          have hltI : ¬ (k : Int) < (l1.length : Int) := by omega
          replace hfin := Lib.hid hfin
          go_wp2
          go_roundw
          case rel => exact ⟨2, by omega, by go_num, by rw [hfin.out, ht2.out, ht1.out], by trivial⟩
          case measure => simp [intOf]
    · go_wp2
      go_ret
      exact ⟨rfl, Chg.refl _ _⟩

theorem jo_small (s : JoS) (h : JOk N s) : (∀ port bs, bs.length ≤ 100000 → (joinM.feed s port bs).1.length ≤ 1000000 ∧ ((joinM.feed s port bs).1.map fun o => o.2.length).sum ≤ 10000000) ∧
    (∀ port, (joinM.fin s port).1.length ≤ 1000000 ∧ ((joinM.fin s port).1.map fun o => o.2.length).sum ≤ 10000000) ∧ ((joinM.more s).1.length ≤ 1000000 ∧ ((joinM.more s).1.map fun o => o.2.length).sum ≤ 10000000) := by
  have f1 : ∀ port bs, (joFeed s port bs).1 = [] := fun port bs => by
    unfold joFeed
    split
    · rfl
    split
    · rfl
    split
    · rfl
    split <;> rfl
  have f2 : ∀ port, (joFin s port).1 = [] := fun port => by
    unfold joFin
    split
    · rfl
    split <;> rfl
  refine ⟨fun port bs _ => ?_, fun port => ?_, ?_⟩
  · show (joFeed s port bs).1.length ≤ 1000000 ∧ ((joFeed s port bs).1.map fun o => o.2.length).sum ≤ 10000000
    rw [f1]; simp
  · show (joFin s port).1.length ≤ 1000000 ∧ ((joFin s port).1.map fun o => o.2.length).sum ≤ 10000000
    rw [f2]; simp
  · show (joMore s).1.length ≤ 1000000 ∧ ((joMore s).1.map fun o => o.2.length).sum ≤ 10000000
    unfold joMore
    split
    · simp
    next ho =>
      split
      · simp
      next hmo =>
        rcases h.st (by simpa using ho) with ⟨_, hd⟩ | ⟨hf, _⟩
        · have h3 := (jo_adv h hd).2.2
          have h4 : (joinS [s.line]).length ≤ 1000 := by unfold joinS; simp; omega
          unfold tellS
          simp only [List.cons_ne_nil, if_false, List.length_singleton, List.map_cons, List.map_nil, List.sum_cons, List.sum_nil]
          omega
        · exact absurd hf (by simpa using hmo)

theorem jo_mach : MachOk Try.prog joinM B 72 (.pointer (some ⟨g, 0, none⟩)) (fun _ => True) (JoInv g N B) 95 129 128 127 130
      (.pointer (some ⟨g, 0, none⟩)) (.pointer (some ⟨g, 0, none⟩)) (.pointer (some ⟨g, 0, none⟩)) (.pointer (some ⟨g, 0, none⟩)) (.pointer (some ⟨g, 0, none⟩)) where
  env _ _ _ _ := trivial
  keep s F w w' S h hc hS := by
    obtain ⟨fl, cs, V, hok, hfl, hm, hFF⟩ := h
    exact ⟨fl, cs, V, hok, hfl, hm.keep hc (fun k hk => hS k ((hFF k).2 hk)), hFF⟩
  inside s F w h := by
    obtain ⟨fl, cs, V, hok, hfl, hm, hFF⟩ := h
    exact ⟨by have := hm.blk.lt; have := hm.ge; omega, fun k hk => hm.inside k ((hFF k).1 hk)⟩
  mN := ⟨fun w => by kernel_rfl, fun args w => by kernel_rfl⟩
  mH := ⟨fun w => by kernel_rfl, fun args w => by kernel_rfl⟩
  mF := ⟨fun w => by kernel_rfl, fun args w => by kernel_rfl⟩
  mE := ⟨fun w => by kernel_rfl, fun args w => by kernel_rfl⟩
  mM := ⟨fun w => by kernel_rfl, fun args w => by kernel_rfl⟩
  need s F w h _ := by
    obtain ⟨fl, cs, V, hok, hfl, hm, hFF⟩ := h
    obtain ⟨k0, k1, k2, _⟩ := jo_cells hm
    exact (j_need s.at_ s.more s.a.over w k0 k1 k2).mono (by rintro e w' ⟨rfl, rfl⟩; exact ⟨rfl, Chg.refl _ _⟩)
  held s F w h _ := jo_held_any s F w h
  feed s F w port A c bs h _ hr hl := jo_feed s F w port A c bs h hr hl
  fin s F w port h _ := jo_end s F w port h
  more s F w h _ := jo_more s F w h
  small s F w h := by
    obtain ⟨fl, cs, V, hok, hfl, hm, hFF⟩ := h
    exact jo_small s hok
end
end Go.Proofs.Ytkgmbomfkdkofaa
