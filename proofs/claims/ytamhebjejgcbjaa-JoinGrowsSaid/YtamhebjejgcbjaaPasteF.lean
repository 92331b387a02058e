/- paste: Feed and End. -/
import Derived.Test.YtamhebjejgcbjaaPasteW
import Derived.Test.YtamhebjejgcbjaaBase
namespace Go.Proofs.Ytamhebjejgcbjaa
open Go Go.RowKit

def PaInv (g n B : Nat) (s : PaS) (F : Nat → Prop) (w : World) : Prop :=
  ∃ gi csI rv lv, PaOk n s ∧ PaW s ∧ PaMem g gi B s csI rv lv w ∧ ∀ k, F k ↔ paF g gi n rv lv k

section
variable {g n B : Nat}

theorem pa_ans {s : PaS} {F : Nat → Prop} {w w' : World} (h : PaInv g n B s F w) (c : Int) (hw : w = w') : MAns pasteM (PaInv g n B) w F ([], c, s) (.returned (.tuple #[.slice none 0 0, .int .i64 c])) w' := by
  subst hw
  exact ⟨_, F, rfl, h, fun _ hk => .inl hk, Chg.refl _ _, OutsAt.nil _ _ _ _⟩

theorem pa_cells {gi : Nat} {s : PaS} {csI : Array Value} {rv : Value} {lv : Nat → Value} {w : World} (h : PaMem g gi B s csI rv lv w) :
    w.cell? ⟨g, 0, none⟩ = some (.int .i64 s.at_) ∧ w.cell? ⟨g, 1, none⟩ = some (.bool false) ∧ w.cell? ⟨g, 2, none⟩ = some (.bool s.over) ∧ w.cell? ⟨g, 4, none⟩ = some (.slice (some ⟨gi, 0, none⟩) s.qs.length s.qs.length) ∧ w.cell? ⟨g, 5, none⟩ = some rv ∧ ∀ i, w.frozen? ⟨g, i, none⟩ = false :=
  ⟨(h.blk.cell 0).trans rfl, (h.blk.cell 1).trans rfl, (h.blk.cell 2).trans rfl, (h.blk.cell 4).trans rfl, (h.blk.cell 5).trans rfl, fun i => h.blk.frozen i⟩

/-- The wanted input has got bytes. -/
theorem pushed_ok {q : PQ} (hl : q.ls = []) (hb : q.beg.length ≤ 64) {bs : Bs} (hlen : bs.length ≤ 32) : PQOk ⟨(cutS q.beg bs).2.1, q.ls ++ (cutS q.beg bs).1, q.ended⟩ := by
  have h1 := cutS_count bs q.beg
  have h2 := cutS_len bs q.beg hb
  refine ⟨?_, ?_⟩
  · rw [hl, List.nil_append]; dsimp only; omega
  · rw [hl, List.nil_append]; exact h2.2
theorem closed_ok {q : PQ} (hl : q.ls = []) (hb : q.beg.length ≤ 64) : PQOk ⟨[], q.ls ++ (if q.beg = [] then [] else [q.beg]), true⟩ := by
  refine ⟨?_, ?_⟩
  · rw [hl, List.nil_append]; dsimp only; split <;> simp
  · rw [hl, List.nil_append]
    intro l h
    dsimp only at h
    split at h
    · cases h
    · simp only [List.mem_singleton] at h; subst h; exact hb

/-- What rows answers is what Feed and End answer. -/
theorem rows_ans {gi : Nat} {s1 : PaS} {F : Nat → Prop} {w w1 : World} {F1 : Nat → Prop} (hok : PaOk n s1) (hF1 : ∀ k, F1 k → F k ∨ w.heap.size ≤ k) (hc : Chg F w w1)
    {e : Ending} {w' : World} (h : RowsPost g gi B n s1 w1 F1 e w') : ∃ v, e = .returned v ∧ MAns pasteM (PaInv g n B) w F (tellS 0 (paAll s1).1, 0, (paAll s1).2) (.returned (.tuple #[v, .int .i64 0])) w' := by
  obtain ⟨csI', rv', lv', v, rfl, hm, hc2, hF2, ho⟩ := h
  have hal := paAll_ok _ s1 (Nat.lt_succ_self _) hok
  refine ⟨v, rfl, v, fun k => paF g gi n rv' lv' k, rfl, ⟨gi, csI', rv', lv', hal.1, hal.2.1, hm, fun _ => Iff.rfl⟩, fun k hk => ?_, hc.trans hc2 (fun k hk hlt => ?_), ho.mono (fun k hk _ => Nat.le_trans hc.size hk)⟩
  · rcases hF2 k hk with h | h
    · exact hF1 k h
    · exact .inr (Nat.le_trans hc.size h)
  · rcases hF1 k hk with h | h
    · exact h
    · omega

set_option maxHeartbeats 1000000 in
set_option maxRecDepth 100000 in
theorem pa_feed (s : PaS) (F : Nat → Prop) (w : World) (port : Int) (A : Option Addr) (c : Nat) (bs : Bs) (h : PaInv g n B s F w) (hr : Rd w (fun j => ¬ F j) 1 A bs.length (u8s bs)) (hl : bs.length ≤ 100000) :
    Calls Try.prog 155 #[.pointer (some ⟨g, 0, none⟩), .int .i64 port, .slice A bs.length c] w (MAns pasteM (PaInv g n B) w F (pasteM.feed s port bs)) := by
  have hinv := h
  obtain ⟨gi, csI, rv, lv, hok, hW, hm, hFF⟩ := h
  obtain ⟨k0, k1, k2, k4, k5, hfz⟩ := pa_cells hm
  have hfin := fun c (w' : World) hw => pa_ans (w' := w') hinv c hw
  replace hfin := Lib.hid hfin
  show Calls _ _ _ _ (MAns pasteM (PaInv g n B) w F (paFeed s port bs))
  by_cases ho : s.over = true
  · have e : paFeed s port bs = ([], 4, s) := by unfold paFeed; rw [if_pos ho]
    rw [e]
    rw [ho] at k2
    clear hr hFF e hm hok hW hinv
    go_enter Try.func155, Try.ntmps155
    go_wp2
    go_ret2
    exact hfin.out 4 _ rfl
  · have ho' : s.over = false := by simpa using ho
    rw [ho'] at k2
    by_cases hp : port = s.at_
    · subst hp
      by_cases hlen : bs.length = 0 ∨ bs.length > 32
      · have e : paFeed s s.at_ bs = ([], 1, s) := by unfold paFeed; rw [if_neg ho, if_neg (by simp), if_pos hlen]
        rw [e]
        clear hr hFF e hm hok hW hinv
        rcases hlen with hz | hz
        · have hz1 : ((bs.length : Int) == 0) = true := by rw [hz]; rfl
          go_enter Try.func155, Try.ntmps155
          go_wp2
          go_ret2
          exact hfin.out 1 _ rfl
        · have hz1 : ((bs.length : Int) == 0) = false := by rw [beq_eq_false_iff_ne]; omega
          have hz2 : (32 : Int) < (bs.length : Int) := by omega
          go_enter Try.func155, Try.ntmps155
          go_wp2
          go_ret2
          exact hfin.out 1 _ rfl
      · have hz1 : ((bs.length : Int) == 0) = false := by rw [beq_eq_false_iff_ne]; omega
        have hz2 : ¬ (32 : Int) < (bs.length : Int) := by omega
        obtain ⟨q, hq, hql, hqe⟩ := hW ho'
        have hqlt := (List.getElem?_eq_some_iff.1 hq).1
        obtain ⟨fl, hqa, hfl⟩ := hm.q _ q hq
        have hfl' := hfl ho'
        subst hfl'
        have hbeg : q.beg.length ≤ 64 := hqa.spl.le
        have hpok := pushed_ok hql hbeg (by omega : bs.length ≤ 32)
        have hmB : B ≤ w.heap.size := by have := hm.blk.lt; have := hm.ge.1; omega
        have hpush := push_any 112 gi (s.at_ * 68) B csI q (lv s.at_) w bs A c hm.ins hqa (hm.own _ q hq) (hm.lvne hq).2 hmB (hr.mono (fun k hk _ e => hk ((hFF k).2 (.inr (.inl e))))) hl (by rw [hql]; simp)
        have hltI : (s.at_ : Int) < (s.qs.length : Int) := by omega
        have hqsl : (s.qs.length : Int) ≤ 4 := by have := hok.len; have := hok.n4; omega
        have hat0 : (0 : Int) ≤ (s.at_ : Int) := by omega
        by_cases hfail : (cutS q.beg bs).2.2 = true
        · have e : paFeed s s.at_ bs = ([], 20, (s.setQ s.at_ ⟨(cutS q.beg bs).2.1, q.ls ++ (cutS q.beg bs).1, q.ended⟩).stop) := by unfold paFeed; rw [if_neg ho, if_neg (by simp), if_neg hlen, hq]; dsimp only; rw [if_pos hfail]
          rw [e]
          unfold PushPost at hpush
          rw [hfail] at hpush
          have hres : ∀ lv' cs' w1, QPost 112 gi (s.at_ * 68) csI B (lv s.at_) w ⟨(cutS q.beg bs).2.1, q.ls ++ (cutS q.beg bs).1, q.ended⟩ true lv' cs' w1 → (w1.cell? ⟨g, 2, none⟩ = some (.bool false) ∧ w1.frozen? ⟨g, 2, none⟩ = false) ∧
              MAns pasteM (PaInv g n B) w F ([], 20, (s.setQ s.at_ ⟨(cutS q.beg bs).2.1, q.ls ++ (cutS q.beg bs).1, q.ended⟩).stop) (.returned (.tuple #[.slice none 0 0, .int .i64 20])) (w1.setCell ⟨g, 2, none⟩ (.bool true)) := fun lv' cs' w1 p => by
            have hb1 := hm.blk_queue hq p
            have hc2 : Chg (fun k => k = g) w1 (w1.setCell ⟨g, 2, none⟩ (.bool true)) := (Chg.refl (fun k => k = g) w1).setCell (p := ⟨g, 2, none⟩) (.inl rfl) _
            have hqF := PaMem.queue_F (g := g) (rv := rv) hqlt p
            rw [hok.len] at hqF
            have hm2 : PaMem g gi B ((s.setQ s.at_ ⟨(cutS q.beg bs).2.1, q.ls ++ (cutS q.beg bs).1, q.ended⟩).stop) cs' rv (upd lv s.at_ lv') (w1.setCell ⟨g, 2, none⟩ (.bool true)) :=
              hm.queue_g hq p rfl rfl (by
                have := hb1.set 2 (.bool true)
                rw [show paC (s.setQ s.at_ ⟨(cutS q.beg bs).2.1, q.ls ++ (cutS q.beg bs).1, q.ended⟩).stop gi rv = (paC s gi rv).setIfInBounds 2 (.bool true) by unfold paC PaS.setQ PaS.stop; simp]
                exact this) hc2 (fun e => by cases e)
            refine ⟨⟨(hb1.cell 2).trans (by unfold paC; rw [ho']; rfl), hb1.frozen 2⟩, _, fun k => paF g gi n rv (upd lv s.at_ lv') k, rfl, ⟨gi, cs', rv, upd lv s.at_ lv', ?_, (fun e => by cases e), hm2, fun _ => Iff.rfl⟩, fun k hk => ?_, (p.chg.mono (fun k hk _ => (hFF k).2 (hqF.1 k hk))).trans hc2 (fun k hk _ => (hFF k).2 (.inl hk)), OutsAt.nil _ _ _ _⟩
            · have := hok.setQ s.at_ _ hpok
              exact ⟨this.len, this.n1, this.n4, this.row, this.by_, this.qs, this.rows⟩
            · rcases hqF.2 k hk with h | h
              · exact .inl ((hFF k).2 h)
              · exact .inr h
          replace hres := Lib.hid hres
          replace hpush := Lib.hid hpush
          clear hr hFF e hm hok hW hinv hqa hpok hq hfail
          go_enter Try.func155, Try.ntmps155
          go_wp2_with (first
            | (go_at_call 127; go_in)
            | (go_at_call 124; go_in)
            | (go_at_call 159
               refine hpush.out.mono ?_
               intro e1 w1 ho1
               obtain ⟨lv1, cs1, rfl, p1⟩ := ho1
               rw [if_pos rfl]
               have hr1 := hres.out _ _ _ p1
               have m2 := hr1.1.1
               have f2 := hr1.1.2
               have hr2 := Lib.hid hr1.2
               clear hr1 p1)
            | (go_at_call 123
               refine (b_stop false _ m2 f2).mono ?_
               rintro e2 w2 ⟨rfl, rfl⟩))
          go_ret2
          exact hr2.out
        · have hfail' : (cutS q.beg bs).2.2 = false := by simpa using hfail
          have e : paFeed s s.at_ bs = (tellS 0 (paAll (s.setQ s.at_ ⟨(cutS q.beg bs).2.1, q.ls ++ (cutS q.beg bs).1, q.ended⟩)).1, 0, (paAll (s.setQ s.at_ ⟨(cutS q.beg bs).2.1, q.ls ++ (cutS q.beg bs).1, q.ended⟩)).2) := by unfold paFeed; rw [if_neg ho, if_neg (by simp), if_neg hlen, hq]; dsimp only; rw [if_neg hfail]
          rw [e]
          unfold PushPost at hpush
          rw [hfail'] at hpush
          have hok1 := hok.setQ s.at_ _ hpok
          have hrows : ∀ lv' cs' w1, QPost 112 gi (s.at_ * 68) csI B (lv s.at_) w ⟨(cutS q.beg bs).2.1, q.ls ++ (cutS q.beg bs).1, q.ended⟩ false lv' cs' w1 →
              Calls Try.prog 158 #[.pointer (some ⟨g, 0, none⟩)] w1 fun e w' => ∃ v, e = .returned v ∧ MAns pasteM (PaInv g n B) w F (tellS 0 (paAll (s.setQ s.at_ ⟨(cutS q.beg bs).2.1, q.ls ++ (cutS q.beg bs).1, q.ended⟩)).1, 0, (paAll (s.setQ s.at_ ⟨(cutS q.beg bs).2.1, q.ls ++ (cutS q.beg bs).1, q.ended⟩)).2) (.returned (.tuple #[v, .int .i64 0])) w' := fun lv' cs' w1 p => by
            have hm1 := hm.queue hq p (fun _ => rfl)
            have hqF := PaMem.queue_F (g := g) (rv := rv) hqlt p
            rw [hok.len] at hqF
            have hB1 : B ≤ w1.heap.size := by have := p.chg.size; omega
            refine (rows_any g gi B n _ cs' rv (upd lv s.at_ lv') w1 hok1 hm1 (fun k => paF g gi n rv (upd lv s.at_ lv') k) (fun _ h => h) hB1).mono ?_
            intro e w' h
            exact rows_ans hok1 (fun k hk => by
              rcases hqF.2 k hk with h | h
              · exact .inl ((hFF k).2 h)
              · exact .inr h) (p.chg.mono (fun k hk _ => (hFF k).2 (hqF.1 k hk))) h
          replace hrows := Lib.hid hrows
          replace hpush := Lib.hid hpush
          clear hr hFF e hm hok hW hinv hqa hpok hq hfail hok1 hfail'
          go_enter Try.func155, Try.ntmps155
          go_wp2_with (first
            | (go_at_call 127; go_in)
            | (go_at_call 124; go_in)
            | (go_at_call 159
               refine hpush.out.mono ?_
               intro e1 w1 ho1
               obtain ⟨lv1, cs1, rfl, p1⟩ := ho1
               rw [if_neg (by decide)]
               have hr1 := hrows.out _ _ _ p1
               replace hr1 := Lib.hid hr1
               clear p1)
            | (go_at_call 158
               refine hr1.out.mono ?_
               intro e2 w2 ho2
               obtain ⟨v2, rfl, ha2⟩ := ho2
               replace ha2 := Lib.hid ha2))
          go_ret2
          exact ha2.out
    · have e : paFeed s port bs = ([], 1, s) := by unfold paFeed; rw [if_neg ho, if_pos hp]
      rw [e]
      have hp1 : (port == (s.at_ : Int)) = false := by simpa using hp
      have hp2 : (port != (s.at_ : Int)) = true := by simpa using hp
      clear hr hFF e hm hok hW hinv
      go_enter Try.func155, Try.ntmps155
      go_wp2
      go_ret2
      exact hfin.out 1 _ rfl

set_option maxHeartbeats 1000000 in
set_option maxRecDepth 100000 in
theorem pa_end (s : PaS) (F : Nat → Prop) (w : World) (port : Int) (h : PaInv g n B s F w) :
    Calls Try.prog 154 #[.pointer (some ⟨g, 0, none⟩), .int .i64 port] w (MAns pasteM (PaInv g n B) w F (pasteM.fin s port)) := by
  have hinv := h
  obtain ⟨gi, csI, rv, lv, hok, hW, hm, hFF⟩ := h
  obtain ⟨k0, k1, k2, k4, k5, hfz⟩ := pa_cells hm
  have hfin := fun c (w' : World) hw => pa_ans (w' := w') hinv c hw
  replace hfin := Lib.hid hfin
  show Calls _ _ _ _ (MAns pasteM (PaInv g n B) w F (paFin s port))
  by_cases ho : s.over = true
  · have e : paFin s port = ([], 4, s) := by unfold paFin; rw [if_pos ho]
    rw [e]
    rw [ho] at k2
    clear hFF e hm hok hW hinv
    go_enter Try.func154, Try.ntmps154
    go_wp2
    go_ret2
    exact hfin.out 4 _ rfl
  · have ho' : s.over = false := by simpa using ho
    rw [ho'] at k2
    by_cases hp : port = s.at_
    · subst hp
      obtain ⟨q, hq, hql, hqe⟩ := hW ho'
      have hqlt := (List.getElem?_eq_some_iff.1 hq).1
      obtain ⟨fl, hqa, hfl⟩ := hm.q _ q hq
      have hbeg : q.beg.length ≤ 64 := hqa.spl.le
      have hpok := closed_ok hql hbeg
      have hmB : B ≤ w.heap.size := by have := hm.blk.lt; have := hm.ge.1; omega
      have hclose := close_any 112 gi (s.at_ * 68) B csI q (lv s.at_) w fl hm.ins hqa (hm.own _ q hq) (hm.lvne hq).2 hmB (by rw [hql]; simp)
      have hltI : (s.at_ : Int) < (s.qs.length : Int) := by omega
      have hqsl : (s.qs.length : Int) ≤ 4 := by have := hok.len; have := hok.n4; omega
      have hat0 : (0 : Int) ≤ (s.at_ : Int) := by omega
      have e : paFin s s.at_ = (tellS 0 (paAll (s.setQ s.at_ ⟨[], q.ls ++ (if q.beg = [] then [] else [q.beg]), true⟩)).1, 0, (paAll (s.setQ s.at_ ⟨[], q.ls ++ (if q.beg = [] then [] else [q.beg]), true⟩)).2) := by unfold paFin; rw [if_neg ho, if_neg (by simp), hq]
      rw [e]
      unfold ClosePost at hclose
      have hok1 := hok.setQ s.at_ _ hpok
      have hfl' := hfl ho'
      subst hfl'
      have hrows : ∀ lv' cs' w1, QPost 112 gi (s.at_ * 68) csI B (lv s.at_) w ⟨[], q.ls ++ (if q.beg = [] then [] else [q.beg]), true⟩ false lv' cs' w1 →
          Calls Try.prog 158 #[.pointer (some ⟨g, 0, none⟩)] w1 fun e w' => ∃ v, e = .returned v ∧ MAns pasteM (PaInv g n B) w F (tellS 0 (paAll (s.setQ s.at_ ⟨[], q.ls ++ (if q.beg = [] then [] else [q.beg]), true⟩)).1, 0, (paAll (s.setQ s.at_ ⟨[], q.ls ++ (if q.beg = [] then [] else [q.beg]), true⟩)).2) (.returned (.tuple #[v, .int .i64 0])) w' := fun lv' cs' w1 p => by
        have hm1 := hm.queue hq p (fun _ => rfl)
        have hqF := PaMem.queue_F (g := g) (rv := rv) hqlt p
        rw [hok.len] at hqF
        have hB1 : B ≤ w1.heap.size := by have := p.chg.size; omega
        refine (rows_any g gi B n _ cs' rv (upd lv s.at_ lv') w1 hok1 hm1 (fun k => paF g gi n rv (upd lv s.at_ lv') k) (fun _ h => h) hB1).mono ?_
        intro e w' h
        exact rows_ans hok1 (fun k hk => by
          rcases hqF.2 k hk with h | h
          · exact .inl ((hFF k).2 h)
          · exact .inr h) (p.chg.mono (fun k hk _ => (hFF k).2 (hqF.1 k hk))) h
      clear hFF e hm hok hW hinv hqa hpok hq hok1
      generalize (⟨[], q.ls ++ (if q.beg = [] then [] else [q.beg]), true⟩ : PQ) = q1 at *
      replace hrows := Lib.hid hrows
      replace hclose := Lib.hid hclose
      clear hql hqe
      go_enter Try.func154, Try.ntmps154
      go_wp2_with (first
        | (go_at_call 124; go_in)
        | (go_at_call 157
           refine hclose.out.mono ?_
           intro e1 w1 ho1
           obtain ⟨lv1, cs1, rfl, p1⟩ := ho1
           have hr1 := hrows.out _ _ _ p1
           replace hr1 := Lib.hid hr1
           clear p1)
        | (go_at_call 158
           refine hr1.out.mono ?_
           intro e2 w2 ho2
           obtain ⟨v2, rfl, ha2⟩ := ho2
           replace ha2 := Lib.hid ha2))
      go_ret2
      exact ha2.out
    · have e : paFin s port = ([], 1, s) := by unfold paFin; rw [if_neg ho, if_pos hp]
      rw [e]
      have hp1 : (port == (s.at_ : Int)) = false := by simpa using hp
      have hp2 : (port != (s.at_ : Int)) = true := by simpa using hp
      clear hFF e hm hok hW hinv
      go_enter Try.func154, Try.ntmps154
      go_wp2
      go_ret2
      exact hfin.out 1 _ rfl
end
end Go.Proofs.Ytamhebjejgcbjaa
