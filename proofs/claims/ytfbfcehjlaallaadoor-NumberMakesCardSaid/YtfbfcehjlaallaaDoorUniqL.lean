/- The line of package uniq's machine. -/
import Derived.Test.YtfbfcehjlaallaaDoorUniq
import Derived.Lib.Hide
namespace Go.Proofs.YtfbfcehjlaallaaDoor
open Go Go.RowKit

theorem rd_one' {w : World} {T : TypeId} (x : Bs) {n : Nat} (hn : w.heap.size = n) : Rd (w.alloc (.cells #[strv x] T)) (fun j => j = n) 1 (some ⟨n, 0, none⟩) 1 ([x].map strv) := by
  subst hn; exact rd_one x

section
variable {g B : Nat} {T : TypeId}

def UEachPost (g : Nat) (T : TypeId) (cs : Array Value) (w : World) (r : Outs × UT) (e : Ending) (w' : World) : Prop :=
  ∃ v cs', e = .returned v ∧ Blk w' g T cs' ∧ UX r.2 cs' ∧ (∀ i, i < 71 → cs'[i]? = cs[i]?) ∧ Chg (fun j => j = g) w w' ∧ OutsAt w' (fun j => w.heap.size ≤ j) v r.1

set_option maxHeartbeats 400000 in
set_option maxRecDepth 100000 in
theorem line_any (hB : B ≤ g) (t : UT) (cs : Array Value) (l : Bs) (w : World) (hb : Blk w g T cs) (hx : UX t cs) (hl : l.length ≤ 64) (hE : TabOk B w) :
    Calls Tryd.prog 18 #[.pointer (some ⟨g, 0, none⟩), strv l] w (UEachPost g T cs w (uniqK.each t l)) := by
  have h71 : w.cell? ⟨g, 71, none⟩ = some (.bool t.counts) := (hb.cell _).trans hx.counts
  have h72 : w.cell? ⟨g, 72, none⟩ = some (strv t.last) := (hb.cell _).trans hx.last
  have h73 : w.cell? ⟨g, 73, none⟩ = some (.int .i64 t.n) := (hb.cell _).trans hx.n
  have hf : ∀ i, w.frozen? ⟨g, i, none⟩ = false := fun i => hb.frozen i
  have hgl := hb.lt
  by_cases h : 0 < t.n ∧ l = t.last
  · have e : uniqK.each t l = ([], { t with n := wrap64 (t.n + 1) }) := by unfold uniqK; dsimp only; rw [if_pos h]
    rw [e]
    have hw : -9223372036854775808 ≤ wrap64 (t.n + 1) ∧ wrap64 (t.n + 1) ≤ 9223372036854775807 := by unfold wrap64; omega
    have hpost : UEachPost g T cs w (([] : Outs), { t with n := wrap64 (t.n + 1) }) (.returned (.slice none 0 0)) (w.setCell ⟨g, 73, none⟩ (.int .i64 (wrap64 (t.n + 1)))) :=
      ⟨_, _, rfl, hb.set _ _, ux_n hx _ hw.1 hw.2, fun i hi => Array.getElem?_setIfInBounds_ne (by omega), (Chg.refl (fun j => j = g) w).setCell (p := ⟨g, 73, none⟩) (.inl rfl) _, OutsAt.nil _ _ _ _⟩
    obtain ⟨h1, h2⟩ := h
    rw [← h2] at h72
    clear hx hb e h2 hw
    go_enter Tryd.func18, Tryd.ntmps18
    go_wp2
    go_ret
    exact hpost
  · have hgr := group_any hB t cs w hb hx hE
    have hxx := hx
    have hb1 : Blk w g T cs := hb
    have e : uniqK.each t l = (if t.counts = true then uGroup t else tellS 0 [l], { t with last := l, n := 1 }) := by unfold uniqK; dsimp only; rw [if_neg h]
    rw [e]
    have hx' := ux_n hx 0 (by omega) (by omega)
    have hx1 := ux_n (ux_last hx' l hl) 1 (by omega) (by omega)
    have hpre : (0 < t.n ∧ (l == t.last) = false) ∨ ¬ 0 < t.n := by
      by_cases hn : 0 < t.n
      · exact .inl ⟨hn, by rw [beq_eq_false_iff_ne]; exact fun e => h ⟨hn, e⟩⟩
      · exact .inr hn
    have hd0 : ∀ v w2, Blk w2 g T (cs.setIfInBounds 73 (.int .i64 0)) → Chg (fun j => j = g) w w2 → ∀ w3, Chg (fun _ => False) ((w2.setCell ⟨g, 72, none⟩ (strv l)).setCell ⟨g, 73, none⟩ (.int .i64 1)) w3 → ∀ o, OutsAt w3 (fun j => w.heap.size ≤ j) v o → UEachPost g T cs w (o, { t with last := l, n := 1 }) (.returned v) w3 := by
      intro v w2 hb2 hc2 w3 hc3 o ho
      refine ⟨_, _, rfl, ((hb2.set _ _).set _ _).chg hc3 (fun h => h), hx1, fun i hi => ?_, ((hc2.setCell (p := ⟨g, 72, none⟩) (.inl rfl) _).setCell (p := ⟨g, 73, none⟩) (.inl rfl) _).trans (hc3.mono (fun _ h _ => h.elim)) (fun _ h _ => h), ho⟩
      rw [Array.getElem?_setIfInBounds_ne (by omega), Array.getElem?_setIfInBounds_ne (by omega), Array.getElem?_setIfInBounds_ne (by omega)]
    have hd := Lib.hid hd0
    have hs72 := hxx.last
    have hs71 := hxx.counts
    have hsz := ux_size hxx
    clear hd0
    by_cases hc : t.counts = true
    · rw [if_pos hc]
      rw [hc] at h71 hs71
      clear hx hb e h hx' hx1 hc
      rcases hpre with ⟨h1, hneq⟩ | h1
      all_goals
        go_enter Tryd.func18, Tryd.ntmps18
        go_wp2_with
          first
          | (go_at_call 19
             refine hgr.mono ?_
             rintro e2 w2 ⟨v2, rfl, hb2, hch2, ho2⟩
             have kf : ∀ i, w2.frozen? ⟨g, i, none⟩ = false := fun i => hb2.frozen i
             have k71 : w2.cell? ⟨g, 71, none⟩ = some (.bool true) := (hb2.cell _).trans (by rw [Array.getElem?_setIfInBounds_ne (by omega)]; exact hs71)
             have k72 : w2.cell? ⟨g, 72, none⟩ = some (strv t.last) := (hb2.cell _).trans (by rw [Array.getElem?_setIfInBounds_ne (by omega)]; exact hs72)
             have k73 : w2.cell? ⟨g, 73, none⟩ = some (.int .i64 0) := (hb2.cell _).trans (Array.getElem?_setIfInBounds_self_of_lt hsz))
          | fail
        go_ret
        refine hd.out _ w2 hb2 hch2 _ (Chg.refl _ _) _ ?_
        refine ho2.chg (((Chg.refl (fun j => j = g) w2).setCell (p := ⟨g, 72, none⟩) (.inl rfl) _).setCell (p := ⟨g, 73, none⟩) (.inl rfl) _) ?_
        intro k hk _ hkg
        omega
    · have hcf : t.counts = false := by simpa using hc
      rw [if_neg hc]
      rw [hcf] at h71 hs71
      clear hx hb e h hx' hx1 hc hcf
      rcases hpre with ⟨h1, hneq⟩ | h1
      all_goals
        go_enter Tryd.func18, Tryd.ntmps18
        go_wp2_with
          first
          | (go_at_call 19
             refine hgr.mono ?_
             rintro e2 w2 ⟨v2, rfl, hb2, hch2, ho2⟩
             have kf : ∀ i, w2.frozen? ⟨g, i, none⟩ = false := fun i => hb2.frozen i
             have k71 : w2.cell? ⟨g, 71, none⟩ = some (.bool false) := (hb2.cell _).trans (by rw [Array.getElem?_setIfInBounds_ne (by omega)]; exact hs71)
             have k72 : w2.cell? ⟨g, 72, none⟩ = some (strv t.last) := (hb2.cell _).trans (by rw [Array.getElem?_setIfInBounds_ne (by omega)]; exact hs72)
             have k73 : w2.cell? ⟨g, 73, none⟩ = some (.int .i64 0) := (hb2.cell _).trans (Array.getElem?_setIfInBounds_self_of_lt hsz))
          | (go_at_call 28
             refine (tell_any (fun j => j = w2.heap.size) 0 (some ⟨w2.heap.size, 0, none⟩) 1 [l] _ (rd_one' l (by simp [World.setCell])) (by simp) (by simp [joinS]; omega)).mono ?_
             rintro e3 w3 ⟨v3, rfl, ho3, hb3⟩)
          | fail
        go_ret
        refine hd.out _ w2 hb2 hch2 _ ?_ _ ?_
        · exact ((Chg.refl _ _).alloc _).trans (Chg.of_below (S := fun _ => False) hb3) (fun _ h _ => h)
        · have hs2 := hch2.size
          exact ho3.mono (fun j hj _ => by simp [World.setCell] at hj; omega)
end
end Go.Proofs.YtfbfcehjlaallaaDoor
