/- paste: rows. -/
import Derived.Test.YtamhebjejgcbjaaPasteM
import Derived.Test.YtamhebjejgcbjaaSJoin
import Derived.Deep.RegionHeld3
import Derived.Deep.DrawnRows
import Derived.BigQuiet
import Derived.Outline
import Derived.Deep.LoopGhost
namespace Go.Proofs.Ytamhebjejgcbjaa
open Go Go.RowKit

section
variable {g : Nat}
theorem b_over (ov : Bool) (w : World) (h2 : w.cell? ⟨g, 2, none⟩ = some (.bool ov)) :
    Calls Try.prog 162 #[.pointer (some ⟨g, 0, none⟩)] w fun e w' => e = .returned (.bool ov) ∧ w = w' := by
  go_enter Try.func162, Try.ntmps162
  go_wp2
  go_ret
  exact ⟨rfl, rfl⟩
theorem b_stop (ov : Bool) (w : World) (h2 : w.cell? ⟨g, 2, none⟩ = some (.bool ov)) (hf : w.frozen? ⟨g, 2, none⟩ = false) :
    Calls Try.prog 123 #[.pointer (some ⟨g, 0, none⟩)] w fun e w' => e = .returned (.tuple #[]) ∧ w' = w.setCell ⟨g, 2, none⟩ (.bool true) := by
  go_enter Try.func123, Try.ntmps123
  go_wp2
  go_end0
  exact ⟨rfl, rfl⟩
theorem b_turn (a k : Int) (w : World) (h0 : w.cell? ⟨g, 0, none⟩ = some (.int .i64 a)) (hf : w.frozen? ⟨g, 0, none⟩ = false) :
    Calls Try.prog 165 #[.pointer (some ⟨g, 0, none⟩), .int .i64 k] w fun e w' => e = .returned (.tuple #[]) ∧ w' = w.setCell ⟨g, 0, none⟩ (.int .i64 k) := by
  go_enter Try.func165, Try.ntmps165
  go_wp2
  go_end0
  exact ⟨rfl, rfl⟩
end

def RowsRel (g gi B n : Nat) (s0 : PaS) (w0 : World) (F0 : Nat → Prop) (m : Nat) (v3 : Value) (wr : World) : Prop :=
  ∃ s csI rv lv out, PaOk n s ∧ PaMem g gi B s csI rv lv wr ∧ paAll s0 = (out ++ (paAll s).1, (paAll s).2) ∧ paMu s ≤ m ∧ out.length + paMu s ≤ paMu s0 ∧ (∀ x ∈ out, x.length ≤ 1000) ∧ wr.ownsRow w0.heap.size 9 1 v3 out.length (strs out) ∧ Chg F0 w0 wr ∧
    (∀ k, paF g gi n rv lv k → F0 k ∨ w0.heap.size ≤ k) ∧ (∀ k, v3.ownBlock = some k → ¬ paF g gi n rv lv k)

def RowsPost (g gi B n : Nat) (s0 : PaS) (w0 : World) (F0 : Nat → Prop) (e : Ending) (w' : World) : Prop :=
  ∃ csI rv lv v, e = .returned v ∧ PaMem g gi B (paAll s0).2 csI rv lv w' ∧ Chg F0 w0 w' ∧ (∀ k, paF g gi n rv lv k → F0 k ∨ w0.heap.size ≤ k) ∧ OutsAt w' (fun k => w0.heap.size ≤ k) v (tellS 0 (paAll s0).1)

theorem rows_fin {g gi B n : Nat} {s0 : PaS} {w0 wr w2 : World} {F0 : Nat → Prop} {s' : PaS} {csI : Array Value} {rv : Value} {lv : Nat → Value} {out : List Bs} {v : Value} (hall : paAll s0 = (out, s')) (hm : PaMem g gi B s' csI rv lv wr)
    (hc : Chg F0 w0 wr) (hF : ∀ k, paF g gi n rv lv k → F0 k ∨ w0.heap.size ≤ k) (hb : Below wr.heap.size wr w2) (ho : OutsAt w2 (fun k => wr.heap.size ≤ k) v (tellS 0 out)) : RowsPost g gi B n s0 w0 F0 (.returned v) w2 := by
  have hcb : Chg (fun _ => False) wr w2 := Chg.of_below hb
  refine ⟨csI, rv, lv, v, rfl, ?_, hc.trans hcb (fun _ h _ => h.elim), hF, ?_⟩
  · rw [hall]; exact hm.keep hcb (fun _ _ h => h)
  · rw [hall]; exact ho.mono (fun k hk _ => Nat.le_trans hc.size hk)

theorem OwnT.cap {w : World} {B : Nat} {e : TypeId} {A : Option Addr} {n c : Nat} {xs : List Value} (h : OwnT w B e (.slice A n c) xs) : n ≤ c := by
  rcases h with ⟨h, _⟩ | ⟨g, off, cap, cur, h, _, _, hn, _⟩
  · cases h; exact Nat.le_refl _
  · cases h; exact hn

/-- The row has one more. -/
theorem PaMem.more_row {g gi B : Nat} {s : PaS} {csI : Array Value} {rv rv' : Value} {lv : Nat → Value} {w w3 : World} (h : PaMem g gi B s csI rv lv w) (x : Bs) (a : Bool) (hg : (w.alloc (.cells #[strv x] 9)).grownBy w3 rv.ownBlock)
    (hT : OwnT w3 B 9 rv' (strs s.row ++ [strv x])) (ho : rv'.ownBlock = rv.ownBlock ∨ rv'.ownBlock = some (w.alloc (.cells #[strv x] 9)).heap.size) :
    PaMem g gi B { s with row := s.row ++ [x], any := a } csI rv' lv ((w3.setCell ⟨g, 5, none⟩ rv').setCell ⟨g, 6, none⟩ (.bool a)) ∧ Chg (fun k => k = g ∨ rv.ownBlock = some k) w ((w3.setCell ⟨g, 5, none⟩ rv').setCell ⟨g, 6, none⟩ (.bool a)) ∧ ∀ k, rv'.ownBlock = some k → rv.ownBlock = some k ∨ w.heap.size ≤ k := by
  have hc3 : Chg (fun k => k = g ∨ rv.ownBlock = some k) w w3 := ((Chg.refl (fun k => k = g ∨ rv.ownBlock = some k) w).alloc _).grown hg (fun k e => .inl (.inr e))
  have hc : Chg (fun k => k = g ∨ rv.ownBlock = some k) w ((w3.setCell ⟨g, 5, none⟩ rv').setCell ⟨g, 6, none⟩ (.bool a)) := (hc3.setCell (p := ⟨g, 5, none⟩) (.inl (.inl rfl)) _).setCell (p := ⟨g, 6, none⟩) (.inl (.inl rfl)) _
  have hv : ∀ k, rv'.ownBlock = some k → rv.ownBlock = some k ∨ w.heap.size ≤ k := fun k hk => by
    rcases ho with h1 | h1
    · rw [h1] at hk; exact .inl hk
    · rw [h1] at hk; injection hk with hk; simp at hk; exact .inr (by omega)
  have hb3 : Blk w3 g 91 (paC s gi rv) := (h.blk.alloc _).grown hg (Ne.symm h.rvne.1)
  have hgl := h.blk.lt
  refine ⟨h.mach hc (((hb3.set 5 rv').set 6 (.bool a))) rfl (fun h => h) ?_ hv, hc, hv⟩
  have e : strs (s.row ++ [x]) = strs s.row ++ [strv x] := List.map_append
  show OwnT _ _ _ _ (strs (s.row ++ [x]))
  rw [e]
  refine (hT.chg (S := fun k => k = g) (((Chg.refl (fun k => k = g) w3).setCell (p := ⟨g, 5, none⟩) (.inl rfl) _).setCell (p := ⟨g, 6, none⟩) (.inl rfl) _) (fun k hk e => ?_))
  rcases hv k hk with h1 | h1
  · exact h.rvne.1 (by rw [h1, e])
  · omega

theorem rows_next {g gi B n : Nat} {s0 s s' : PaS} {w0 wr w' : World} {F0 : Nat → Prop} {csI' : Array Value} {rv rv' : Value} {lv lv' : Nat → Value} {out : List Bs} {v3 : Value} (hok : PaOk n s) (hall : paAll s0 = (out ++ (paAll s).1, (paAll s).2)) (hlen : out.length + paMu s ≤ paMu s0)
    (hxs : ∀ x ∈ out, x.length ≤ 1000) (hown : wr.ownsRow w0.heap.size 9 1 v3 out.length (strs out)) (hch : Chg F0 w0 wr) (hF : ∀ k, paF g gi n rv lv k → F0 k ∨ w0.heap.size ≤ k) (hdis : ∀ k, v3.ownBlock = some k → ¬ paF g gi n rv lv k)
    (hst : paStep s = ([], s', true)) (hm' : PaMem g gi B s' csI' rv' lv' w') (hc : Chg (paF g gi n rv lv) wr w') (hF' : ∀ k, paF g gi n rv' lv' k → paF g gi n rv lv k ∨ wr.heap.size ≤ k) : RowsRel g gi B n s0 w0 F0 (paMu s') v3 w' := by
  have hgo : (paStep s).2.2 = true := by rw [hst]
  have hmu := paStep_mu s hgo
  have hok' := (paStep_ok hok).1
  have hall' := paAll_go hgo
  rw [hst] at hmu hok' hall'
  dsimp only at hmu hok' hall'
  refine ⟨s', csI', rv', lv', out, hok', hm', ?_, Nat.le_refl _, by omega, hxs, ownsRow_chg hown hc hdis, hch.trans hc (fun k hk hlt => ?_), fun k hk => ?_, fun k hk hp => ?_⟩
  · rw [hall, hall', List.nil_append]
  · rcases hF k hk with h | h
    · exact h
    · omega
  · rcases hF' k hk with h | h
    · exact hF k h
    · have := hch.size; exact .inr (by omega)
  · rcases hF' k hp with h | h
    · exact hdis k hk h
    · have := (hown.lt k hk).2; omega

set_option maxHeartbeats 4000000 in
set_option maxRecDepth 1000000 in
theorem rows_any (g gi B n : Nat) (s0 : PaS) (csI0 : Array Value) (rv0 : Value) (lv0 : Nat → Value) (w0 : World) (hok0 : PaOk n s0) (hm0 : PaMem g gi B s0 csI0 rv0 lv0 w0) (F0 : Nat → Prop) (hF0 : ∀ k, paF g gi n rv0 lv0 k → F0 k) (hB : B ≤ w0.heap.size) :
    Calls Try.prog 158 #[.pointer (some ⟨g, 0, none⟩)] w0 (RowsPost g gi B n s0 w0 F0) := by
  obtain ⟨i0, hi0, hz0, hz1, hz2⟩ := info_parts info_string
  have hmu := paMu_le hok0
  go_enter Try.func158, Try.ntmps158
  go_wp2
  go_loopg [3] (paMu s0) (fun m v3 wr => RowsRel g gi B n s0 w0 F0 m v3 wr)
  case atStart => exact ⟨s0, csI0, rv0, lv0, [], hok0, hm0, by simp, Nat.le_refl _, by simp, (fun x hx => by cases hx), World.ownsRow_nil w0 _ _ _, Chg.refl _ _, (fun k hk => .inl (hF0 k hk)), fun k hk => by simp [Value.ownBlock] at hk⟩
  case round =>
    obtain ⟨s, csI, rv, lv, out, hok, hm, hall, hmm, hlen, hxs, hown, hch, hF, hdis⟩ := hrel
    obtain ⟨Ar, cr, hrv, hrdr⟩ := hm.row.rd
    have hrl : (strs s.row).length = s.row.length := List.length_map ..
    rw [hrl] at hrv hrdr
    subst hrv
    obtain ⟨A3, c3, rfl, hrd3⟩ := own_rd hown
    have hwsz := hch.size
    have k0 : wr.cell? ⟨g, 0, none⟩ = some (.int .i64 s.at_) := (hm.blk.cell 0).trans rfl
    have k2 : wr.cell? ⟨g, 2, none⟩ = some (.bool s.over) := (hm.blk.cell 2).trans rfl
    have k3 : wr.cell? ⟨g, 3, none⟩ = some (strv s.by_) := (hm.blk.cell 3).trans rfl
    have k4 : wr.cell? ⟨g, 4, none⟩ = some (.slice (some ⟨gi, 0, none⟩) s.qs.length s.qs.length) := (hm.blk.cell 4).trans rfl
    have k5 : wr.cell? ⟨g, 5, none⟩ = some (.slice Ar s.row.length cr) := (hm.blk.cell 5).trans rfl
    have k6 : wr.cell? ⟨g, 6, none⟩ = some (.bool s.any) := (hm.blk.cell 6).trans rfl
    have hfz : ∀ i, wr.frozen? ⟨g, i, none⟩ = false := fun i => hm.blk.frozen i
    have hol : out.length ≤ 2000 := by omega
    have hjl := joinS_le out 1000 hxs
    have hjl2 : (joinS out).length ≤ 1000000000 := by have : out.length * 1001 ≤ 2000 * 1001 := Nat.mul_le_mul_right _ hol; omega
    have htell : ∀ (W : World) (D : Nat → Prop), Rd W D 1 A3 out.length (strs out) → _ := fun W D hr => tell_any D 0 A3 c3 out W hr (by omega) hjl2
    replace htell := Lib.hid htell
    have hgF : ∀ W : World, Chg (fun k => k = g) wr W → Rd W (fun _ => True) 1 A3 out.length (strs out) := fun W hW => (own_rd (ownsRow_chg hown hW (fun k hk e => hdis k hk (.inl e)))).elim fun A' h => h.elim fun c' h => by
      obtain ⟨he, hr⟩ := h
      cases he
      exact hr.mono (fun _ _ _ => trivial)
    replace hgF := Lib.hid hgF
    have hrow4 : (s.row.length : Int) ≤ 4 := by have := hok.row; have := hok.n4; omega
    have hqsl : (s.qs.length : Int) ≤ 4 := by have := hok.len; have := hok.n4; omega
    by_cases hov : s.over = true
    · have hst : (paStep s).2.2 = false := by unfold paStep; rw [if_pos hov]
      have hpa : paAll s = ([], s) := by rw [paAll_stop hst]; unfold paStep; rw [if_pos hov]
      have hfin : paAll s0 = (out, s) := by rw [hall, hpa, List.append_nil]
      rw [hov] at k2
      have hr0 := hgF.out wr (Chg.refl _ _)
      clear hrd3 hown hrdr hall hpa hst hlen hxs hjl
      go_wp2_with (first
        | (go_at_call 162
           refine (b_over true _ k2).mono ?_
           rintro e1 w1 ⟨rfl, rfl⟩)
        | (go_at_call 125
           refine (htell.out _ _ hr0).mono ?_
           rintro e2 w2 ⟨v2, rfl, ho2, hb2⟩))
      go_ret
      exact rows_fin hfin hm hch hF hb2 ho2
    have hov' : s.over = false := by simpa using hov
    rw [hov'] at k2
    by_cases hrn : s.row.length = s.qs.length
    · have hrE : ((s.row.length : Int) == (s.qs.length : Int)) = true := by rw [beq_iff_eq]; omega
      by_cases hany : s.any = true
      · have hst : paStep s = ([joinBy s.by_ s.row], { s with row := [], any := false }, true) := by unfold paStep; rw [if_neg hov, if_pos hrn, if_pos hany]
        rw [hany] at k6
        have hcap := hm.row.cap
        have hok' := paStep_ok hok
        have hmus := paStep_mu s (by rw [hst])
        have hall' := paAll_go (s := s) (by rw [hst])
        rw [hst] at hok' hmus hall'
        dsimp only at hok' hmus hall'
        have hxl : (joinBy s.by_ s.row).length ≤ 1000 := hok'.2.1 _ (by simp)
        have hjo := fun (W : World) (hW : Chg (fun _ => False) wr W) => sjoin_any _ Ar cr s.row s.by_ W (hrdr.chg hW (fun _ _ _ h => h)) hcap (by omega) (by omega)
        generalize joinBy s.by_ s.row = jx at *
        replace hjo := Lib.hid hjo
        have hv3 : ∀ k, (Value.slice A3 out.length c3).ownBlock = some k → k ≠ g := fun k hk e => hdis k hk (.inl e)
        have hS : ∀ W, Chg (fun k => (Value.slice A3 out.length c3).ownBlock = some k) wr W → W.cell? ⟨g, 5, none⟩ = some (.slice Ar s.row.length cr) ∧ W.cell? ⟨g, 3, none⟩ = some (strv s.by_) ∧ Chg (fun k => (Value.slice A3 out.length c3).ownBlock = some k) wr W := fun W hW => by
          have hbW := hm.blk.chg hW (fun h => hv3 g h rfl)
          exact ⟨(hbW.cell 5).trans rfl, (hbW.cell 3).trans rfl, hW⟩
        have c0 := Chg.refl (fun k => (Value.slice A3 out.length c3).ownBlock = some k) wr
        have hS0 := hS wr c0
        have hownW : ∀ W, Chg (fun _ => False) wr W → (W.alloc (.cells #[strv jx] 9)).ownsRow w0.heap.size 9 1 (.slice A3 out.length c3) out.length (strs out) := fun W hW => (ownsRow_chg hown hW (fun _ _ h => h)).alloc _
        have hfin : ∀ (w2 : World) (v2 : Value), Chg (fun k => (Value.slice A3 out.length c3).ownBlock = some k) wr w2 → w2.ownsRow w0.heap.size 9 1 v2 (out.length + 1) (strs out ++ [strv jx]) → (∀ k, v2.ownBlock = some k → (Value.slice A3 out.length c3).ownBlock = some k ∨ wr.heap.size ≤ k) →
            RowsRel g gi B n s0 w0 F0 (paMu { s with row := [], any := false }) v2 ((w2.setCell ⟨g, 5, none⟩ (.slice none 0 0)).setCell ⟨g, 6, none⟩ (.bool false)) := fun w2 v2 hc2 ho2 hv2 => by
          have hm2 := hm.keep hc2 (fun k hk hs => hdis k hs (by rw [← hok.len]; exact hk))
          have hcg : Chg (fun k => k = g) w2 ((w2.setCell ⟨g, 5, none⟩ (.slice none 0 0)).setCell ⟨g, 6, none⟩ (.bool false)) := ((Chg.refl (fun k => k = g) w2).setCell (p := ⟨g, 5, none⟩) (.inl rfl) _).setCell (p := ⟨g, 6, none⟩) (.inl rfl) _
          have hv2g : ∀ k, v2.ownBlock = some k → k ≠ g := fun k hk e => by
            rcases hv2 k hk with h | h
            · exact hv3 k h e
            · have := hm.blk.lt; omega
          refine ⟨{ s with row := [], any := false }, csI, .slice none 0 0, lv, out ++ [jx], hok'.1, hm2.mach (hcg.mono (fun k hk _ => .inl hk)) ((hm2.blk.set 5 _).set 6 _) rfl (fun h => h) (OwnT.nil _ _ _) (fun k hk => by simp [Value.ownBlock] at hk), ?_, Nat.le_refl _, ?_, ?_, ?_, ?_, ?_, ?_⟩
          · rw [hall, hall', List.append_assoc]
          · simp; omega
          · intro x hx
            rcases List.mem_append.1 hx with hx | hx
            · exact hxs x hx
            · simp only [List.mem_singleton] at hx; subst hx; exact hxl
          · have e : strs (out ++ [jx]) = strs out ++ [strv jx] := List.map_append
            rw [e, List.length_append, List.length_singleton]
            exact ownsRow_chg ho2 hcg hv2g
          · refine (hch.trans hc2 (fun k hk hlt => ?_)).trans hcg (fun k hk hlt => ?_)
            · have := (hown.lt k hk).1; omega
            · rcases hF k (.inl hk) with h | h
              · exact h
              · omega
          · intro k hk
            rcases hk with hk | hk | hk | hk
            · exact hF k (.inl hk)
            · exact hF k (.inr (.inl hk))
            · simp [Value.ownBlock] at hk
            · exact hF k (.inr (.inr (.inr hk)))
          · intro k hk hp
            have hp' : paF g gi n (.slice Ar s.row.length cr) lv k := by
              rcases hp with hp | hp | hp | hp
              · exact .inl hp
              · exact .inr (.inl hp)
              · simp [Value.ownBlock] at hp
              · exact .inr (.inr (.inr hp))
            rcases hv2 k hk with h | h
            · exact hdis k h hp'
            · have := hm.inside k (by rw [hok.len]; exact hp'); omega
        have hfW : ∀ W, Chg (fun k => (Value.slice A3 out.length c3).ownBlock = some k) wr W → ∀ i, W.frozen? ⟨g, i, none⟩ = false := fun W hW i => (hm.blk.chg hW (fun h => hv3 g h rfl)).frozen i
        have hcW : ∀ W, Chg (fun k => (Value.slice A3 out.length c3).ownBlock = some k) wr W → W.cell? ⟨g, 6, none⟩ = some (.bool true) := fun W hW => ((hm.blk.chg hW (fun h => hv3 g h rfl)).cell 6).trans (by unfold paC; rw [hany]; rfl)
        replace hS := Lib.hid hS
        replace hownW := Lib.hid hownW
        replace hfin := Lib.hid hfin
        replace hfW := Lib.hid hfW
        replace hcW := Lib.hid hcW
        replace hrn := Lib.hid hrn
        clear hrd3 hown hrdr hall hxs hjl hok' hall' hv3
        go_wp2_with (first
          | (go_at_call 162
             refine (b_over false _ k2).mono ?_
             rintro e1 w1 ⟨rfl, rfl⟩))
        go_region_held3 (fun W => W.cell? ⟨g, 5, none⟩ = some (.slice Ar s.row.length cr) ∧ W.cell? ⟨g, 3, none⟩ = some (strv s.by_) ∧ Chg (fun k => (Value.slice A3 out.length c3).ownBlock = some k) wr W)
          (first
            | with_reducible exact hS0
            | with_reducible exact hS.out _ c0.drew
            | with_reducible exact hS.out _ dX
            | with_reducible exact hS.out _ (dX.alloc _)
            | with_reducible exact hS.out _ dZ)
          (first
            | (go_at_call 163
               refine (hjo.out _ (Chg.refl _ _).drew).mono ?_
               intro e3 w3 ho3
               obtain ⟨rfl, hb3⟩ := ho3
               have dX0 : Chg (fun _ => False) wr w3 := (Chg.refl (fun _ => False) wr).drew.trans (Chg.of_below (S := fun _ => False) hb3) (fun _ h _ => h)
               have dX : Chg (fun k => (Value.slice A3 out.length c3).ownBlock = some k) wr w3 := dX0.mono (fun _ h _ => h.elim))
            | (refine step_append_rd _ (by rfl) (.tmp 34) (.tmp 44) 47 (by rfl) w0.heap.size 9 i0 _ 1 16 Try.underlying47 hi0 hz0 hz1 hz2 (by rfl) (by omega) (.slice A3 out.length c3) out.length (strs out) (by rfl) (by exact hownW.out w3 dX0) (fun _ => True) (some ⟨w3.heap.size, 0, none⟩) 1 1 [strv jx] (by rfl) (by exact rd_row1 w3 9 (strv jx) rfl) (by simp [Value.oneCell', strv]) (by simp [maxLen]; omega) (by omega) (by have := dX0.size; simp; omega) ?_
               intro v4 w4 hown4 hg4 ho4
               have dZ : Chg (fun k => (Value.slice A3 out.length c3).ownBlock = some k) wr w4 := (dX.alloc _).grown hg4 (fun k e => .inl e)
               have hv4 : ∀ k, v4.ownBlock = some k → (Value.slice A3 out.length c3).ownBlock = some k ∨ wr.heap.size ≤ k := fun k hk => by
                 rcases ho4 with h | h
                 · rw [h] at hk; exact .inl hk
                 · rw [h] at hk; injection hk with hk; have := dX0.size; simp at hk; exact .inr (by omega))
            | fail)
        have f5 : w4.frozen? ⟨g, 5, none⟩ = false := hfW.out w4 dZ 5
        have f6 : w4.frozen? ⟨g, 6, none⟩ = false := hfW.out w4 dZ 6
        have m5 : w4.cell? ⟨g, 5, none⟩ = some (.slice Ar s.row.length cr) := (hS.out w4 dZ).1
        have m6 : w4.cell? ⟨g, 6, none⟩ = some (.bool true) := hcW.out w4 dZ
        go_wp2
        go_roundg (paMu (paStep s).2.1)
        case measure => rw [hst]; dsimp only; omega
        case rel =>
          rw [hst]
          exact hfin.out w4 v4 dZ hown4 hv4
      · have hst : (paStep s).2.2 = false := by unfold paStep; rw [if_neg hov, if_pos hrn, if_neg hany]
        have hpa : paAll s = ([], { s with over := true }) := by rw [paAll_stop hst]; unfold paStep; rw [if_neg hov, if_pos hrn, if_neg hany]
        have hfin : paAll s0 = (out, { s with over := true }) := by rw [hall, hpa, List.append_nil]
        have hany' : s.any = false := by simpa using hany
        rw [hany'] at k6
        have hcg : Chg (fun k => k = g) wr (wr.setCell ⟨g, 2, none⟩ (.bool true)) := (Chg.refl (fun k => k = g) wr).setCell (p := ⟨g, 2, none⟩) (.inl rfl) _
        have hm2 : PaMem g gi B { s with over := true } csI (.slice Ar s.row.length cr) lv (wr.setCell ⟨g, 2, none⟩ (.bool true)) :=
          hm.mach (hcg.mono (fun k hk _ => .inl hk)) (hm.blk.set 2 _) rfl (fun h => by cases h) (hm.row.chg hcg (fun k hk e => hm.rvne.1 (by rw [hk, e]))) (fun k hk => .inl hk)
        have hch2 := hch.trans hcg (fun k hk _ => by
          have := hF k (.inl hk)
          rcases this with h | h
          · exact h
          · omega)
        have hr0 := hgF.out _ hcg
        clear hrd3 hown hrdr hall hpa hst hlen hxs hjl
        go_wp2_with (first
          | (go_at_call 162
             refine (b_over false _ k2).mono ?_
             rintro e1 w1 ⟨rfl, rfl⟩)
          | (go_at_call 123
             refine (b_stop false _ k2 (hfz 2)).mono ?_
             rintro e1 w1 ⟨rfl, rfl⟩)
          | (go_at_call 125
             refine (htell.out _ _ hr0).mono ?_
             rintro e2 w2 ⟨v2, rfl, ho2, hb2⟩))
        go_ret
        exact rows_fin hfin hm2 hch2 hF hb2 ho2
    · have hlt : s.row.length < s.qs.length := by have := hok.row; have := hok.len; omega
      have hrE : ((s.row.length : Int) == (s.qs.length : Int)) = false := by rw [beq_eq_false_iff_ne]; omega
      have hltI : (s.row.length : Int) < (s.qs.length : Int) := by omega
      obtain ⟨q, hq⟩ := hm.get hlt
      obtain ⟨fl, hqa, hfl⟩ := hm.q _ q hq
      have hown2 := hm.own _ q hq
      have hqo := hok.qs q (List.mem_of_getElem? hq)
      cases hl : q.ls with
      | cons x r =>
        have hq' : s.qs[s.row.length]? = some q := hq
        have hst : paStep s = ([], { s with qs := s.qs.set s.row.length { q with ls := r }, row := s.row ++ [x], any := true }, true) := by unfold paStep; rw [if_neg hov, if_neg hrn, hq]; dsimp only; rw [hl]
        have hnext := fun (s' : PaS) (csI' : Array Value) (rv' : Value) (lv' : Nat → Value) (w' : World) h1 h2 h3 h4 => rows_next (B := B) (s' := s') (csI' := csI') (rv' := rv') (lv' := lv') (w' := w') hok hall hlen hxs hown hch hF hdis h1 h2 h3 h4
        replace hnext := Lib.hid hnext
        have hnx := next_some 112 gi (s.row.length * 68) B csI q (lv s.row.length) wr fl x r hm.ins hqa hown2 (hm.lvne hq).2 hl (by have := hqo.few; omega)
        have hmm2 := fun (fl' : Bool) (lv' : Value) (csI' : Array Value) (w' : World) (p : QPost 112 gi (s.row.length * 68) csI B (lv s.row.length) wr ⟨q.beg, r, q.ended⟩ fl' lv' csI' w') (ho : s.over = false → fl' = false) => hm.queue hq p ho
        have hFF := fun (fl' : Bool) (lv' : Value) (csI' : Array Value) (w' : World) (p : QPost 112 gi (s.row.length * 68) csI B (lv s.row.length) wr ⟨q.beg, r, q.ended⟩ fl' lv' csI' w') => PaMem.queue_F (g := g) (rv := .slice Ar s.row.length cr) hlt p
        rw [hok.len] at hFF
        replace hnx := Lib.hid hnx
        replace hmm2 := Lib.hid hmm2
        replace hFF := Lib.hid hFF
        replace hq' := Lib.hid hq'
        clear hrd3 hown hrdr hall hxs hjl hqa hown2
        cases hany : s.any
        all_goals
          rw [hany] at k6
          go_wp2_with (first
            | (go_at_call 162
               refine (b_over false _ k2).mono ?_
               rintro e1 w1 ⟨rfl, rfl⟩)
            | (go_at_call 164
               refine hnx.out.mono ?_
               intro e2 w2 ho2
               obtain ⟨lv2, cs2, rfl, p2⟩ := ho2
               have hm2 := hmm2.out _ _ _ _ p2 hfl
               have hc2 := p2.chg
               have hF2 := hFF.out _ _ _ _ p2
               replace p2 := Lib.hid p2
               have hb2 := hm2.blk
               have l5 : w2.cell? ⟨g, 5, none⟩ = some (.slice Ar s.row.length cr) := (hb2.cell 5).trans rfl
               have hb2a := hb2.alloc (.cells #[strv x] 9)
               have hT2 := hm2.row.chg ((Chg.refl (fun _ => False) w2).alloc (.cells #[strv x] 9)) (fun _ _ h => h)
               have hBw : B ≤ w2.heap.size := by have := hc2.size; omega)
            | (at_builtin
               refine wpList_append_T _ rfl (.tmp 78) (.tmp 80) 47 rfl B 9 i0 _ 16 Try.underlying47 hi0 hz0 hz1 hz2 rfl (.slice Ar s.row.length cr) (strs s.row) rfl hT2 _ (some ⟨w2.heap.size, 0, none⟩) 1 1 [strv x] rfl (rd_row1 w2 9 (strv x) rfl) (by simp [Value.oneCell', strv]) (by simp [maxLen]; omega) (by simp; omega) (by simp; omega) ?_
               intro v3 w3 hT3 hg3 ho3
               obtain ⟨A4, c4, rfl, _⟩ := hT3.rd
               rw [show (strs s.row ++ [strv x]).length = s.row.length + 1 by simp] at hT3 ho3 ⊢
               have hb3 := hb2a.grown hg3 (Ne.symm hm2.rvne.1)
               have f5 : w3.frozen? ⟨g, 5, none⟩ = false := hb3.frozen 5
               have f6 : w3.frozen? ⟨g, 6, none⟩ = false := hb3.frozen 6
               have m5 : w3.cell? ⟨g, 5, none⟩ = some (.slice Ar s.row.length cr) := (hb3.cell 5).trans rfl
               have m6 : w3.cell? ⟨g, 6, none⟩ = some (.bool s.any) := (hb3.cell 6).trans rfl
               rw [hany] at m6))
          have hmr := hm2.more_row x true hg3 hT3 ho3
          go_roundg (paMu (paStep s).2.1)
          case measure => have := paStep_mu s (by rw [hst]); omega
          case rel =>
            rw [hst]
            refine hnext.out _ _ _ _ _ hst hmr.1 ((hc2.mono (fun k hk _ => hF2.1 k hk)).trans hmr.2.1 (fun k hk _ => ?_)) (fun k hk => ?_)
            · rcases hk with hk | hk
              · exact .inl hk
              · exact .inr (.inr (.inl hk))
            · rcases hk with hk | hk | hk | hk
              · exact .inl (.inl hk)
              · exact .inl (.inr (.inl hk))
              · rcases hmr.2.2 k hk with h1 | h1
                · exact .inl (.inr (.inr (.inl h1)))
                · exact .inr (by have := hc2.size; omega)
              · exact hF2.2 k (.inr (.inr (.inr hk)))
      | nil =>
        have hnx := fun (W : World) (hW : Chg (fun _ => False) wr W) => next_none 112 gi (s.row.length * 68) B csI q (lv s.row.length) W fl (hm.ins.chg hW (fun h => h)) hqa (hown2.chg hW (fun _ _ h => h)) hl
        replace hnx := Lib.hid hnx
        by_cases he : q.ended = true
        · have hst : paStep s = ([], { s with row := s.row ++ [[]] }, true) := by unfold paStep; rw [if_neg hov, if_neg hrn, hq]; dsimp only; rw [hl]; dsimp only; rw [if_pos he]
          have hnext := fun (s' : PaS) (csI' : Array Value) (rv' : Value) (lv' : Nat → Value) (w' : World) h1 h2 h3 h4 => rows_next (B := B) (s' := s') (csI' := csI') (rv' := rv') (lv' := lv') (w' := w') hok hall hlen hxs hown hch hF hdis h1 h2 h3 h4
          replace hnext := Lib.hid hnext
          have hmm2 : ∀ W, Chg (fun _ => False) wr W → PaMem g gi B s csI (.slice Ar s.row.length cr) lv W := fun W hW => hm.keep hW (fun _ _ h => h)
          replace hmm2 := Lib.hid hmm2
          have hlq := hok.len
          clear hrd3 hown hrdr hall hxs hjl hqa hown2
          cases hany : s.any
          all_goals
            rw [hany] at k6
            go_wp2_with (first
              | (go_at_call 162
                 refine (b_over false _ k2).mono ?_
                 rintro e1 w1 ⟨rfl, rfl⟩)
              | (go_at_call 164
                 refine (hnx.out _ (Chg.refl _ _)).mono ?_
                 intro e2 w2 ho2
                 obtain ⟨rfl, hc2⟩ := ho2
                 rw [he]
                 have hm2 := hmm2.out w2 hc2
                 have hb2 := hm2.blk
                 have l5 : w2.cell? ⟨g, 5, none⟩ = some (.slice Ar s.row.length cr) := (hb2.cell 5).trans rfl
                 have hb2a := hb2.alloc (.cells #[strv ([] : Bs)] 9)
                 have hT2 := hm2.row.chg ((Chg.refl (fun _ => False) w2).alloc (.cells #[strv ([] : Bs)] 9)) (fun _ _ h => h)
                 have hBw : B ≤ w2.heap.size := by have := hc2.size; omega)
              | (at_builtin
                 refine wpList_append_T _ rfl (.tmp 78) (.tmp 80) 47 rfl B 9 i0 _ 16 Try.underlying47 hi0 hz0 hz1 hz2 rfl (.slice Ar s.row.length cr) (strs s.row) rfl hT2 _ (some ⟨w2.heap.size, 0, none⟩) 1 1 [strv ([] : Bs)] rfl (rd_row1 w2 9 (strv ([] : Bs)) rfl) (by simp [Value.oneCell', strv]) (by simp [maxLen]; omega) (by simp; omega) (by simp; omega) ?_
                 intro v3 w3 hT3 hg3 ho3
                 obtain ⟨A4, c4, rfl, _⟩ := hT3.rd
                 rw [show (strs s.row ++ [strv ([] : Bs)]).length = s.row.length + 1 by simp] at hT3 ho3 ⊢
                 have hb3 := hb2a.grown hg3 (Ne.symm hm2.rvne.1)
                 have f5 : w3.frozen? ⟨g, 5, none⟩ = false := hb3.frozen 5
                 have f6 : w3.frozen? ⟨g, 6, none⟩ = false := hb3.frozen 6
                 have m5 : w3.cell? ⟨g, 5, none⟩ = some (.slice Ar s.row.length cr) := (hb3.cell 5).trans rfl
                 have m6 : w3.cell? ⟨g, 6, none⟩ = some (.bool s.any) := (hb3.cell 6).trans rfl
                 rw [hany] at m6))
            have hmr := hm2.more_row [] s.any hg3 hT3 ho3
            rw [hany] at hmr hst
            go_roundg (paMu (paStep s).2.1)
            case measure => have := paStep_mu s (by rw [hst]); omega
            case rel =>
              rw [hst]
              refine hnext.out _ _ _ lv _ hst hmr.1 ((hc2.mono (fun _ h _ => h.elim)).trans hmr.2.1 (fun k hk _ => ?_)) (fun k hk => ?_)
              · rcases hk with hk | hk
                · exact .inl hk
                · exact .inr (.inr (.inl hk))
              · rcases hk with hk | hk | hk | hk
                · exact .inl (.inl hk)
                · exact .inl (.inr (.inl hk))
                · rcases hmr.2.2 k hk with h1 | h1
                  · exact .inl (.inr (.inr (.inl h1)))
                  · exact .inr (by have := hc2.size; omega)
                · exact .inl (.inr (.inr (.inr hk)))
        · have he' : q.ended = false := by simpa using he
          have hst : (paStep s).2.2 = false := by unfold paStep; rw [if_neg hov, if_neg hrn, hq]; dsimp only; rw [hl]; dsimp only; rw [if_neg he]
          have hpa : paAll s = ([], { s with at_ := s.row.length }) := by rw [paAll_stop hst]; unfold paStep; rw [if_neg hov, if_neg hrn, hq]; dsimp only; rw [hl]; dsimp only; rw [if_neg he]
          have hfin : paAll s0 = (out, { s with at_ := s.row.length }) := by rw [hall, hpa, List.append_nil]
          have hmm2 : ∀ W, Chg (fun _ => False) wr W → Chg (fun k => k = g) wr (W.setCell ⟨g, 0, none⟩ (.int .i64 (s.row.length : Nat))) ∧ PaMem g gi B { s with at_ := s.row.length } csI (.slice Ar s.row.length cr) lv (W.setCell ⟨g, 0, none⟩ (.int .i64 (s.row.length : Nat))) := fun W hW => by
            have hcg : Chg (fun k => k = g) wr (W.setCell ⟨g, 0, none⟩ (.int .i64 (s.row.length : Nat))) := Chg.setCell (S := fun k => k = g) (hW.mono (fun _ h _ => h.elim)) (p := ⟨g, 0, none⟩) (.inl rfl) _
            exact ⟨hcg, hm.mach (hcg.mono (fun k hk _ => .inl hk)) ((hm.blk.chg hW (fun h => h)).set 0 _) rfl (fun h => h) (hm.row.chg hcg (fun k hk e => hm.rvne.1 (by rw [hk, e]))) (fun k hk => .inl hk)⟩
          have hch2 : ∀ W, Chg (fun k => k = g) wr W → Chg F0 w0 W := fun W hW => hch.trans hW (fun k hk _ => by
            have := hF k (.inl hk)
            rcases this with h | h
            · exact h
            · omega)
          have hk0 : ∀ W, Chg (fun _ => False) wr W → W.cell? ⟨g, 0, none⟩ = some (.int .i64 s.at_) ∧ W.frozen? ⟨g, 0, none⟩ = false := fun W hW => ⟨((hm.blk.chg hW (fun h => h)).cell 0).trans rfl, (hm.blk.chg hW (fun h => h)).frozen 0⟩
          replace hmm2 := Lib.hid hmm2
          replace hk0 := Lib.hid hk0
          clear hrd3 hown hrdr hall hpa hst hlen hxs hjl hqa hown2
          go_wp2_with (first
            | (go_at_call 162
               refine (b_over false _ k2).mono ?_
               rintro e1 w1 ⟨rfl, rfl⟩)
            | (go_at_call 164
               refine (hnx.out _ (Chg.refl _ _)).mono ?_
               intro e2 w2 ho2
               obtain ⟨rfl, hc2⟩ := ho2
               rw [he'])
            | (go_at_call 165
               refine (b_turn s.at_ _ _ (hk0.out _ hc2).1 (hk0.out _ hc2).2).mono ?_
               rintro e3 w3 ⟨rfl, rfl⟩)
            | (go_at_call 125
               refine (htell.out _ _ (hgF.out _ (hmm2.out _ hc2).1)).mono ?_
               rintro e4 w4 ⟨v4, rfl, ho4, hb4⟩))
          go_ret
          exact rows_fin hfin (hmm2.out _ hc2).2 (hch2 _ (hmm2.out _ hc2).1) hF hb4 ho4
end Go.Proofs.Ytamhebjejgcbjaa
