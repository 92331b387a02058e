/- join: reading a group. -/
import Derived.Test.YtkgmbomfkdkofaaJoinM
import Derived.Test.YtkgmbomfkdkofaaJoinR
import Derived.Test.YtkgmbomfkdkofaaSCut
import Derived.Test.YtkgmbomfkdkofaaBase
import Derived.Deep.RegionHeld3
import Derived.Deep.DrawnRows
import Derived.BigQuiet
import Derived.Outline
import Derived.Deep.LoopGhost
namespace Go.Proofs.Ytkgmbomfkdkofaa
open Go Go.RowKit

section
variable (T : TypeId) (g o B : Nat) (cs : Array Value) (q : PQ) (lv : Value) (w : World)
theorem peek_none (fl : Bool) (hb : Blk w g T cs) (hq : QAt cs o q fl lv) (hown : OwnT w B 9 lv (strs q.ls)) (h0 : q.ls = []) :
    Calls Try.prog 145 #[.pointer (some ⟨g, o, none⟩)] w fun e w' => e = .returned (.tuple #[strv [], .bool false, .bool q.ended]) ∧ Chg (fun _ => False) w w' := by
  have h66 : w.cell? ⟨g, o + 66, none⟩ = some lv := (hb.cell _).trans hq.lines
  have h67 : w.cell? ⟨g, o + 67, none⟩ = some (.bool q.ended) := (hb.cell _).trans hq.ended
  rw [h0] at hown
  obtain ⟨A, c, rfl, _⟩ := hown.rd
  clear hb hq hown
  go_enter Try.func145, Try.ntmps145
  go_wp2
  go_quiet (fail)
  go_wp2
  go_ret3
  exact ⟨rfl, (Chg.refl _ _).drewN _⟩
theorem peek_some (fl : Bool) (x : Bs) (r : List Bs) (hb : Blk w g T cs) (hq : QAt cs o q fl lv) (hown : OwnT w B 9 lv (strs q.ls)) (h0 : q.ls = x :: r) (hll : q.ls.length ≤ 100000) :
    Calls Try.prog 145 #[.pointer (some ⟨g, o, none⟩)] w fun e w' => e = .returned (.tuple #[strv x, .bool true, .bool false]) ∧ Chg (fun _ => False) w w' := by
  have h66 : w.cell? ⟨g, o + 66, none⟩ = some lv := (hb.cell _).trans hq.lines
  rw [h0] at hown hll
  simp only [List.length_cons] at hll
  obtain ⟨g2, off, cap, hv, hx, hb2, hl2, hcap, htl⟩ := OwnT.head hown
  subst hv
  have hrl : (List.map strv r).length = r.length := List.length_map ..
  rw [hrl] at hcap h66
  clear hb hq hown htl
  go_enter Try.func145, Try.ntmps145
  go_wp2
  go_ret3
  exact ⟨rfl, Chg.refl _ _⟩
end

/-- Where reading a group stands. -/
def grpS (s : JoS) (k : Nat) (q : List Bs) (key : Bs) (ls : List Bs) : JoS := { s with a := { s.a with q := upd s.a.q k q, key := upd s.a.key k key, ls := upd s.a.ls k ls } }
theorem grpS_next {s : JoS} {k : Nat} {q key ls} (r : List Bs) (b : Bs) (hb : b = s.beg k) (e : Bool) (he : e = s.a.en k) :
    ({ (grpS s k q key ls) with a := { (grpS s k q key ls).a with q := upd (grpS s k q key ls).a.q k r, en := upd (grpS s k q key ls).a.en k e }, beg := upd (grpS s k q key ls).beg k b } : JoS) = grpS s k r key ls := by
  subst hb he
  unfold grpS
  dsimp only
  rw [upd_upd]
  have e1 : upd s.a.en k (s.a.en k) = s.a.en := by funext j; unfold upd; split <;> simp_all
  have e2 : upd s.beg k (s.beg k) = s.beg := by funext j; unfold upd; split <;> simp_all
  rw [e1, e2]
theorem grpS_key {s : JoS} {k : Nat} {q key ls} (x : Bs) : ({ (grpS s k q key ls) with a := { (grpS s k q key ls).a with key := upd (grpS s k q key ls).a.key k x } } : JoS) = grpS s k q x ls := by
  unfold grpS; dsimp only; rw [upd_upd]
theorem grpS_ls {s : JoS} {k : Nat} {q key ls} (x : List Bs) : ({ (grpS s k q key ls) with a := { (grpS s k q key ls).a with ls := upd (grpS s k q key ls).a.ls k x } } : JoS) = grpS s k q key x := by
  unfold grpS; dsimp only; rw [upd_upd]

def GRel (g B k : Nat) (s : JoS) (fl : Nat → Bool) (w0 : World) (F0 : Nat → Prop) (G : GR) (m : Nat) (wr : World) : Prop :=
  ∃ q key ls cs V, jgo s.by_ s.most (s.a.en k) key ls q = G ∧ q.length = m ∧ JMem g B (grpS s k q key ls) fl cs V wr ∧ ls.length ≤ s.most ∧ (∀ l ∈ q, l.length ≤ 64) ∧ (∀ l ∈ ls, l.length ≤ 64) ∧ key.length ≤ 64 ∧ Chg F0 w0 wr ∧ ∀ x, jF g V x → F0 x ∨ w0.heap.size ≤ x

def GrpPost (g B k : Nat) (s : JoS) (fl : Nat → Bool) (w0 : World) (F0 : Nat → Prop) (G : GR) (e : Ending) (w' : World) : Prop :=
  ∃ cs V, e = .returned (.tuple #[.int .i64 G.what, .int .i64 G.err]) ∧ JMem g B (grpS s k G.rest G.key G.ls) fl cs V w' ∧ Chg F0 w0 w' ∧ ∀ x, jF g V x → F0 x ∨ w0.heap.size ≤ x

theorem run_lt (a b : Bs) (W : World) : (Op.stringOp .lss ⟨a.toArray⟩ ⟨b.toArray⟩).run Try.prog W = .ok (.bool (ltB a b)) W := by
  simp [Op.stringOp, ltB, Lib.toList_data]
theorem run_gt (a b : Bs) (W : World) : (Op.stringOp .gtr ⟨a.toArray⟩ ⟨b.toArray⟩).run Try.prog W = .ok (.bool (!leB a b)) W := by
  simp [Op.stringOp, ltB, leB, Lib.toList_data]
theorem run_le (a b : Bs) (W : World) : (Op.stringOp .leq ⟨a.toArray⟩ ⟨b.toArray⟩).run Try.prog W = .ok (.bool (leB a b)) W := by
  simp [Op.stringOp, ltB, leB, Lib.toList_data]
theorem run_eq (a b : Bs) (W : World) : (Op.stringOp .eql ⟨a.toArray⟩ ⟨b.toArray⟩).run Try.prog W = .ok (.bool (a == b)) W := by
  simp [Op.stringOp, Lib.toList_data]
end Go.Proofs.Ytkgmbomfkdkofaa
namespace Go.Proofs.Ytkgmbomfkdkofaa
open Go Go.RowKit

theorem grpS_self (s : JoS) (k : Nat) : grpS s k (s.a.q k) (s.a.key k) (s.a.ls k) = s := by
  have e : ∀ {α : Type} (f : Nat → α), upd f k (f k) = f := fun f => by funext j; unfold upd; split <;> simp_all
  unfold grpS
  rw [e, e, e]

section
variable {g B k : Nat} {s : JoS} {fl : Nat → Bool} {cs : Array Value} {V : Nat → Value} {q : List Bs} {key : Bs} {ls : List Bs}

theorem next_call {W : World} {x : Bs} {r : List Bs} (hm : JMem g B (grpS s k (x :: r) key ls) fl cs V W) (hk : k < 2) (hr : r.length ≤ 10000) :
    Calls Try.prog 146 #[.pointer (some ⟨g, 5 + k * 70, none⟩)] W fun e w' => e = .returned (.tuple #[strv x, .bool true, .bool false]) ∧ ∃ cs' V', JMem g B (grpS s k r key ls) fl cs' V' w' ∧ Chg (jF g V) W w' ∧ ∀ y, jF g V' y → jF g V y ∨ W.heap.size ≤ y := by
  have hq := hm.q k hk
  have ho := hm.own k hk
  have e1 : (grpS s k (x :: r) key ls).a.q k = x :: r := upd_same _ _ _
  rw [e1] at hq ho
  refine (next_some 84 g (5 + k * 70) B cs ⟨(grpS s k (x :: r) key ls).beg k, x :: r, (grpS s k (x :: r) key ls).a.en k⟩ (V k) W (fl k) x r hm.blk hq ho (hm.vne (by omega)) rfl (by simp only [List.length_cons]; omega)).mono ?_
  rintro e w' ⟨lv', cs', rfl, p⟩
  have h1 := hm.queue hk p
  have h2 := JMem.queue_F hk p
  have e2 : upd fl k (fl k) = fl := by funext j; unfold upd; split <;> simp_all
  rw [e2] at h1
  have e3 := grpS_next (s := s) (k := k) (q := x :: r) (key := key) (ls := ls) r (s.beg k) rfl (s.a.en k) rfl
  exact ⟨rfl, cs', _, (by rw [← e3]; exact h1), h2.1, h2.2⟩

theorem key_store {W : World} (hm : JMem g B (grpS s k q key ls) fl cs V W) (hk : k < 2) (x : Bs) : JMem g B (grpS s k q x ls) fl (cs.setIfInBounds (5 + k * 70 + 68) (strv x)) V (W.setCell ⟨g, 5 + k * 70 + 68, none⟩ (strv x)) ∧ Chg (fun k => k = g) W (W.setCell ⟨g, 5 + k * 70 + 68, none⟩ (strv x)) := by
  have h := hm.set_key k hk x
  have e3 := grpS_key (s := s) (k := k) (q := q) (key := key) (ls := ls) x
  exact ⟨(by rw [← e3]; exact h.1), h.2⟩

theorem app_store {W w3 : World} {x : Bs} {v3 : Value} (hm : JMem g B (grpS s k q key ls) fl cs V W) (hk : k < 2) (hg : (W.alloc (.cells #[strv x] 9)).grownBy w3 (V (2 + k)).ownBlock) (hT : OwnT w3 B 9 v3 (strs ls ++ [strv x]))
    (ho : v3.ownBlock = (V (2 + k)).ownBlock ∨ v3.ownBlock = some (W.alloc (.cells #[strv x] 9)).heap.size) :
    JMem g B (grpS s k q key (ls ++ [x])) fl (cs.setIfInBounds (5 + k * 70 + 69) v3) (upd V (2 + k) v3) (w3.setCell ⟨g, 5 + k * 70 + 69, none⟩ v3) ∧ Chg (jF g V) W (w3.setCell ⟨g, 5 + k * 70 + 69, none⟩ v3) ∧ ∀ y, jF g (upd V (2 + k) v3) y → jF g V y ∨ W.heap.size ≤ y := by
  have e : strs (ls ++ [x]) = strs ls ++ [strv x] := List.map_append
  have h := hm.group hk (ls ++ [x]) (((Chg.refl (fun y => (V (2 + k)).ownBlock = some y) W).alloc _).grown hg (fun y e => .inl e)) (by rw [e]; exact hT) (fun y hy => by
    rcases ho with h | h
    · rw [h] at hy; exact .inl hy
    · rw [h] at hy; injection hy with hy; simp at hy; exact .inr (by omega))
  have e3 := grpS_ls (s := s) (k := k) (q := q) (key := key) (ls := ls) (ls ++ [x])
  exact ⟨(by rw [← e3]; exact h.1), h.2⟩
end

theorem grel_step {g B k : Nat} {s : JoS} {fl : Nat → Bool} {w0 wr w' : World} {F0 : Nat → Prop} {G : GR} {r : List Bs} {key : Bs} {ls : List Bs} {cs : Array Value} {V V0 : Nat → Value} (hG : jgo s.by_ s.most (s.a.en k) key ls r = G) (hm : JMem g B (grpS s k r key ls) fl cs V w') (h1 : ls.length ≤ s.most) (h2 : ∀ l ∈ r, l.length ≤ 64) (h3 : ∀ l ∈ ls, l.length ≤ 64) (h4 : key.length ≤ 64)
    (hc0 : Chg F0 w0 wr) (hF0 : ∀ x, jF g V0 x → F0 x ∨ w0.heap.size ≤ x) (hc : Chg (jF g V0) wr w') (hF : ∀ x, jF g V x → jF g V0 x ∨ wr.heap.size ≤ x) : GRel g B k s fl w0 F0 G r.length w' :=
  ⟨r, key, ls, cs, V, hG, rfl, hm, h1, h2, h3, h4, hc0.trans hc (fun x hx hlt => by
    rcases hF0 x hx with h | h
    · exact h
    · omega), fun x hx => by
    rcases hF x hx with h | h
    · exact hF0 x h
    · have := hc0.size; exact .inr (by omega)⟩

theorem grp_end {g B k : Nat} {s : JoS} {fl : Nat → Bool} {w0 wr w' : World} {F0 : Nat → Prop} {G : GR} {key : Bs} {q ls : List Bs} {cs : Array Value} {V : Nat → Value} {wh : Nat} {er : Int} (hG : (⟨q, key, ls, wh, er⟩ : GR) = G) (hm : JMem g B (grpS s k q key ls) fl cs V wr) (hc0 : Chg F0 w0 wr) (hF0 : ∀ x, jF g V x → F0 x ∨ w0.heap.size ≤ x) (hc : Chg (fun _ => False) wr w') :
    GrpPost g B k s fl w0 F0 G (.returned (.tuple #[.int .i64 wh, .int .i64 er])) w' := by
  subst hG
  exact ⟨cs, V, rfl, hm.keep hc (fun _ _ h => h), hc0.trans hc (fun _ h _ => h.elim), hF0⟩
end Go.Proofs.Ytkgmbomfkdkofaa
namespace Go.Proofs.Ytkgmbomfkdkofaa
open Go Go.RowKit

set_option maxHeartbeats 4000000 in
set_option maxRecDepth 1000000 in
theorem group_any (g B k : Nat) (s : JoS) (fl : Nat → Bool) (cs0 : Array Value) (V0 : Nat → Value) (w0 : World) (hk : k < 2) (hN : 1 ≤ s.most) (hN2 : s.most ≤ 10000) (hm0 : JMem g B s fl cs0 V0 w0) (hf : (s.a.ls k).length ≤ s.most) (hq0 : (s.a.q k).length ≤ 10000)
    (h1 : ∀ l ∈ s.a.q k, l.length ≤ 64) (h2 : ∀ l ∈ s.a.ls k, l.length ≤ 64) (h3 : (s.a.key k).length ≤ 64) (F0 : Nat → Prop) (hF0 : ∀ x, jF g V0 x → F0 x) (hB : B ≤ w0.heap.size) :
    Calls Try.prog 140 #[.pointer (some ⟨g, 0, none⟩), .pointer (some ⟨g, 5 + k * 70, none⟩)] w0 (GrpPost g B k s fl w0 F0 (jgo s.by_ s.most (s.a.en k) (s.a.key k) (s.a.ls k) (s.a.q k))) := by
  obtain ⟨i0, hi0, hz0, hz1, hz2⟩ := info_parts info_string
  generalize hG0 : jgo s.by_ s.most (s.a.en k) (s.a.key k) (s.a.ls k) (s.a.q k) = G at *
  replace hG0 := Lib.hid hG0
  go_enter Try.func140, Try.ntmps140
  go_wp2
  go_loopg [] (s.a.q k).length (fun m wr => m ≤ 10000 ∧ GRel g B k s fl w0 F0 G m wr)
  case atStart => exact ⟨hq0, s.a.q k, s.a.key k, s.a.ls k, cs0, V0, hG0.out, rfl, by rw [grpS_self]; exact hm0, hf, h1, h2, h3, Chg.refl _ _, fun x hx => .inl (hF0 x hx)⟩
  case round =>
    obtain ⟨hmle, q, key, ls, cs, V, hG, hmq, hm, hfew, hs1, hs2, hs3, hch, hFF⟩ := hrel
    have hBw : B ≤ wr.heap.size := by have := hch.size; omega
    have hqq := hm.q k hk
    have hown := hm.own k hk
    have egq : (grpS s k q key ls).a.q k = q := upd_same _ _ _
    have egl : (grpS s k q key ls).a.ls k = ls := upd_same _ _ _
    have egk : (grpS s k q key ls).a.key k = key := upd_same _ _ _
    rw [egq] at hqq hown
    have hgow := hm.gown k hk
    rw [egl] at hgow
    obtain ⟨A, c, hVg, hrd⟩ := hgow.rd
    have hll : (strs ls).length = ls.length := List.length_map ..
    rw [hll] at hVg
    have hkey : ∀ W, Chg (fun _ => False) wr W → W.cell? ⟨g, 5 + k * 70 + 68, none⟩ = some (strv key) ∧ W.cell? ⟨g, 5 + k * 70 + 69, none⟩ = some (.slice A ls.length c) ∧ W.cell? ⟨g, 3, none⟩ = some (strv [s.by_]) ∧ W.cell? ⟨g, 4, none⟩ = some (.int .i64 s.most) := fun W hW => by
      have hb := hm.blk.chg hW (fun h => h)
      refine ⟨(hb.cell _).trans ?_, (hb.cell _).trans ?_, (hb.cell _).trans hm.c3, (hb.cell _).trans hm.c4⟩
      · rw [hm.key k hk, egk]
      · rw [hm.grp k hk, hVg]
    have hlsI : (ls.length : Int) ≤ 10000 := by omega
    have hmsI : (s.most : Int) ≤ 10000 := by omega
    clear hrd hll
    replace hkey := Lib.hid hkey
    cases q with
    | nil =>
      have hpk := peek_none 84 g (5 + k * 70) B cs ⟨(grpS s k [] key ls).beg k, [], (grpS s k [] key ls).a.en k⟩ (V k) wr (fl k) hm.blk hqq hown rfl
      rw [jgo] at hG
      have een : (grpS s k [] key ls).a.en k = s.a.en k := rfl
      rw [een] at hpk
      have hend := fun (wh : Nat) (er : Int) (w' : World) (h : (⟨[], key, ls, wh, er⟩ : GR) = G) (hc : Chg (fun _ => False) wr w') => grp_end h hm hch hFF hc
      replace hend := Lib.hid hend
      clear hm hqq hown hgow hch hFF hVg egq egl egk een
      generalize s.a.en k = en at *
      replace hG := Lib.hid hG
      cases en with
      | false =>
        go_wp2_with (first
          | (go_at_call 145
             refine hpk.mono ?_
             rintro e1 w1 ⟨rfl, hc1⟩))
        go_ret2
        exact hend.out 1 0 _ hG.out hc1
      | true =>
        by_cases hls : ls = []
        · have hz : ((ls.length : Int) == 0) = true := by rw [hls]; rfl
          have hG2 : (⟨[], key, ls, 2, 0⟩ : GR) = G := by rw [← hG.out, if_pos rfl, if_pos hls]
          replace hG2 := Lib.hid hG2
          replace hls := Lib.hid hls
          go_wp2_with (first
            | (go_at_call 145
               refine hpk.mono ?_
               rintro e1 w1 ⟨rfl, hc1⟩
               obtain ⟨y1, y2, y3, y4⟩ := hkey.out w1 hc1))
          go_ret2
          exact hend.out 2 0 _ hG2.out hc1
        · have hz : ((ls.length : Int) == 0) = false := by
            rw [beq_eq_false_iff_ne]
            have := List.length_pos_iff.2 hls
            omega
          have hG2 : (⟨[], key, ls, 0, 0⟩ : GR) = G := by rw [← hG.out, if_pos rfl, if_neg hls]
          replace hG2 := Lib.hid hG2
          replace hls := Lib.hid hls
          go_wp2_with (first
            | (go_at_call 145
               refine hpk.mono ?_
               rintro e1 w1 ⟨rfl, hc1⟩
               obtain ⟨y1, y2, y3, y4⟩ := hkey.out w1 hc1))
          go_ret2
          exact hend.out 0 0 _ hG2.out hc1
    | cons x r =>
      simp only [List.length_cons] at hmq
      have hpk := peek_some 84 g (5 + k * 70) B cs ⟨(grpS s k (x :: r) key ls).beg k, x :: r, (grpS s k (x :: r) key ls).a.en k⟩ (V k) wr (fl k) x r hm.blk hqq hown rfl (by simp only [List.length_cons]; omega)
      have hx64 := hs1 x (by simp)
      have hr64 : ∀ l ∈ r, l.length ≤ 64 := fun l hl => hs1 l (by simp [hl])
      have hcut := fun W => scut_any x s.by_ W (by omega)
      have hk64 := (cutBy_len s.by_ x).1
      rw [jgo] at hG
      have hend := fun (wh : Nat) (er : Int) (w' : World) (h : (⟨x :: r, key, ls, wh, er⟩ : GR) = G) (hc : Chg (fun _ => False) wr w') => grp_end h hm hch hFF hc
      have hkeep := fun (W : World) (hW : Chg (fun _ => False) wr W) => hm.keep hW (fun _ _ h => h)
      have hstep := fun (key' : Bs) (ls' : List Bs) (cs' : Array Value) (V' : Nat → Value) (w' : World) (hg : jgo s.by_ s.most (s.a.en k) key' ls' r = G) (hm' : JMem g B (grpS s k r key' ls') fl cs' V' w') (a1 : ls'.length ≤ s.most) (a2 : ∀ l ∈ ls', l.length ≤ 64) (a3 : key'.length ≤ 64) (hc : Chg (jF g V) wr w') (hF : ∀ y, jF g V' y → jF g V y ∨ wr.heap.size ≤ y) =>
        grel_step hg hm' a1 hr64 a2 a3 hch hFF hc hF
      replace hend := Lib.hid hend
      replace hkeep := Lib.hid hkeep
      replace hstep := Lib.hid hstep
      replace hpk := Lib.hid hpk
      clear hm hqq hown hgow hch hFF egq egl egk
      replace hVg := Lib.hid hVg
      generalize hkk : keyS s.by_ x = kx at *
      generalize restS s.by_ x = rx at *
      generalize hasS s.by_ x = hx at *
      replace hkk := Lib.hid hkk
      replace hcut := Lib.hid hcut
      replace hG := Lib.hid hG
      by_cases hls : ls = []
      · skip
        have hz : ((ls.length : Int) == 0) = true := by rw [hls]; rfl
        have hG2 : jgo s.by_ s.most (s.a.en k) kx (ls ++ [x]) r = G := by rw [hls, List.nil_append, ← hG.out, if_pos hls]
        replace hG2 := Lib.hid hG2
        replace hls := Lib.hid hls
        clear hG
        go_wp2_with (first
          | (go_at_call 145
             refine hpk.out.mono ?_
             rintro e1 w1 ⟨rfl, hc1⟩
             obtain ⟨y1, y2, y3, y4⟩ := hkey.out w1 hc1)
          | (go_at_call 144
             refine (hcut.out w1).mono ?_
             rintro e2 w2 ⟨rfl, n2, rfl⟩
             have hc2 := hc1.drewN n2
             have hm2 := hkeep.out _ hc2
             have f68 : (w1.drewN n2).frozen? ⟨g, 5 + k * 70 + 68, none⟩ = false := hm2.blk.frozen _
             obtain ⟨z1, z2, z3, z4⟩ := hkey.out _ hc2
             have hk5 := key_store hm2 hk kx
             have hm5 := hk5.1
             have hcW : Chg (jF g V) wr ((w1.drewN n2).setCell ⟨g, 5 + k * 70 + 68, none⟩ (strv kx)) := (hc2.mono (fun _ h _ => h.elim)).trans hk5.2 (fun y hy _ => .inl hy)
             have hs5 : B ≤ ((w1.drewN n2).setCell ⟨g, 5 + k * 70 + 68, none⟩ (strv kx)).heap.size := Nat.le_trans hBw hcW.size
             have hT5 : OwnT (((w1.drewN n2).setCell ⟨g, 5 + k * 70 + 68, none⟩ (strv kx)).alloc (.cells #[strv x] 9)) B 9 (.slice A ls.length c) (strs ls) := by
               have h1 := hm5.gown k hk
               rw [hVg.out, show (grpS s k (x :: r) kx ls).a.ls k = ls from upd_same _ _ _] at h1
               exact h1.chg ((Chg.refl (fun _ => False) _).alloc _) (fun _ _ h => h)
             have l69 : ((w1.drewN n2).setCell ⟨g, 5 + k * 70 + 68, none⟩ (strv kx)).cell? ⟨g, 5 + k * 70 + 69, none⟩ = some (.slice A ls.length c) := (hm5.blk.cell _).trans ((hm5.grp k hk).trans (by rw [hVg.out]))
             clear hk5 hm2)
          | (at_builtin
             refine wpList_append_T _ rfl (.tmp 91) (.tmp 93) 51 rfl B 9 i0 _ 16 Try.underlying51 hi0 hz0 hz1 hz2 rfl (.slice A ls.length c) (strs ls) rfl hT5 _ (some ⟨w1.heap.size, 0, none⟩) 1 1 [strv x] rfl (rd_row1 ((w1.drewN n2).setCell ⟨g, 5 + k * 70 + 68, none⟩ (strv kx)) 9 (strv x) (by simp [World.setCell])) (by simp [Value.oneCell', strv]) (by simp [maxLen]; omega) (by simp; omega) (Nat.le_trans hs5 (by simp)) ?_
             intro v3 w3 hT3 hg3 ho3
             obtain ⟨A3, c3, rfl, _⟩ := hT3.rd
             rw [show (strs ls ++ [strv x]).length = ls.length + 1 by simp] at hT3 ho3 ⊢
             have hmr := app_store (x := x) hm5 hk (by rw [hVg.out]; exact hg3) hT3 (by rw [hVg.out]; exact ho3)
             have hb3 := (hm5.blk.alloc (.cells #[strv x] 9)).grown hg3 (by have := hm5.vne (show 2 + k < 4 by omega); rw [hVg.out] at this; exact Ne.symm this)
             have f69 : w3.frozen? ⟨g, 5 + k * 70 + 69, none⟩ = false := hb3.frozen _
             have m69 : w3.cell? ⟨g, 5 + k * 70 + 69, none⟩ = some (.slice A ls.length c) := (hb3.cell _).trans ((hm5.grp k hk).trans (by rw [hVg.out]))
             replace hmr := Lib.hid hmr)
          | (go_at_call 146
             refine (next_call hmr.out.1 hk (by omega)).mono ?_
             rintro e4 w4 ⟨rfl, cs4, V4, hm4, hc4, hF4⟩))
        go_roundg r.length
        case measure => omega
        case rel =>
          refine ⟨by omega, hstep.out kx (ls ++ [x]) cs4 V4 w4 hG2.out hm4 ?_ ?_ ?_ ?_ ?_⟩
          · rw [hls.out]; simpa using hN
          · intro l hl
            rcases List.mem_append.1 hl with h | h
            · exact hs2 l h
            · simp at h; subst h; exact hx64
          · exact Nat.le_trans hk64 hx64
          · refine (hcW.trans hmr.out.2.1 (fun y hy _ => hy)).trans hc4 (fun y hy hlt => ?_)
            rcases hmr.out.2.2 y hy with h | h
            · exact h
            · have := hcW.size; omega
          · intro y hy
            rcases hF4 y hy with h | h
            · rcases hmr.out.2.2 y h with h | h
              · exact .inl h
              · have := hcW.size; exact .inr (by omega)
            · have := hcW.size; have := hmr.out.2.1.size; exact .inr (by omega)
      · have hz : ((ls.length : Int) == 0) = false := by
          rw [beq_eq_false_iff_ne]
          have := List.length_pos_iff.2 hls
          omega
        by_cases hlt : ltB kx key = true
        · have hG2 : (⟨x :: r, key, ls, 0, 22⟩ : GR) = G := by rw [← hG.out, if_neg hls, if_pos hlt]
          have b1 : Op.bytesLess kx key = true := hlt
          replace hG2 := Lib.hid hG2
          replace hls := Lib.hid hls
          replace hlt := Lib.hid hlt
          clear hG
          go_wp2_with (first
            | (go_at_call 145
               refine hpk.out.mono ?_
               rintro e1 w1 ⟨rfl, hc1⟩
               obtain ⟨y1, y2, y3, y4⟩ := hkey.out w1 hc1)
            | (go_at_call 144
               refine (hcut.out w1).mono ?_
               rintro e2 w2 ⟨rfl, n2, rfl⟩))
          go_ret2
          exact hend.out 0 22 _ hG2.out (hc1.drewN _)
        · have b1 : Op.bytesLess kx key = false := by simpa using hlt
          by_cases hle : leB kx key = false
          · have hG2 : (⟨x :: r, key, ls, 0, 0⟩ : GR) = G := by rw [← hG.out, if_neg hls, if_neg hlt, if_pos hle]
            have b2 : (kx == key) = false := by
              unfold leB at hle
              simp only [Bool.or_eq_false_iff] at hle
              exact hle.2
            replace hG2 := Lib.hid hG2
            replace hls := Lib.hid hls
            replace hlt := Lib.hid hlt
            replace hle := Lib.hid hle
            clear hG
            go_wp2_with (first
              | (go_at_call 145
                 refine hpk.out.mono ?_
                 rintro e1 w1 ⟨rfl, hc1⟩
                 obtain ⟨y1, y2, y3, y4⟩ := hkey.out w1 hc1)
              | (go_at_call 144
                 refine (hcut.out w1).mono ?_
                 rintro e2 w2 ⟨rfl, n2, rfl⟩))
            go_ret2
            exact hend.out 0 0 _ hG2.out (hc1.drewN _)
          · have b2 : (kx == key) = true := by
              unfold leB at hle
              have h3 : ltB kx key = false := by simpa using hlt
              rw [h3] at hle
              simpa using hle
            by_cases hnm : ls.length = s.most
            · have hnI : ((ls.length : Int) == (s.most : Int)) = true := by rw [beq_iff_eq]; omega
              have hG2 : (⟨x :: r, key, ls, 0, 21⟩ : GR) = G := by rw [← hG.out, if_neg hls, if_neg hlt, if_neg hle, if_pos hnm]
              replace hG2 := Lib.hid hG2
              replace hls := Lib.hid hls
              replace hlt := Lib.hid hlt
              replace hle := Lib.hid hle
              replace hnm := Lib.hid hnm
              clear hG
              go_wp2_with (first
                | (go_at_call 145
                   refine hpk.out.mono ?_
                   rintro e1 w1 ⟨rfl, hc1⟩
                   obtain ⟨y1, y2, y3, y4⟩ := hkey.out w1 hc1)
                | (go_at_call 144
                   refine (hcut.out w1).mono ?_
                   rintro e2 w2 ⟨rfl, n2, rfl⟩
                   have hc2 := hc1.drewN n2
                   obtain ⟨z1, z2, z3, z4⟩ := hkey.out _ hc2))
              go_quiet (fail)
              go_wp2
              go_ret2
              exact hend.out 0 21 _ hG2.out ((hc1.drewN _).drewN _)
            · skip
              have hnI : ((ls.length : Int) == (s.most : Int)) = false := by rw [beq_eq_false_iff_ne]; omega
              have hG2 : jgo s.by_ s.most (s.a.en k) key (ls ++ [x]) r = G := by rw [← hG.out, if_neg hls, if_neg hlt, if_neg hle, if_neg hnm]
              replace hG2 := Lib.hid hG2
              replace hls := Lib.hid hls
              replace hlt := Lib.hid hlt
              replace hle := Lib.hid hle
              replace hnm := Lib.hid hnm
              clear hG
              go_wp2_with (first
                | (go_at_call 145
                   refine hpk.out.mono ?_
                   rintro e1 w1 ⟨rfl, hc1⟩
                   obtain ⟨y1, y2, y3, y4⟩ := hkey.out w1 hc1)
                | (go_at_call 144
                   refine (hcut.out w1).mono ?_
                   rintro e2 w2 ⟨rfl, n2, rfl⟩
                   have hc2 := hc1.drewN n2
                   obtain ⟨z1, z2, z3, z4⟩ := hkey.out _ hc2))
              go_quiet (fail)
              have hc5 := hc2.drewN nq
              generalize (w1.drewN n2).drewN nq = w5 at *
              have hm5 := hkeep.out _ hc5
              have hcW : Chg (jF g V) wr w5 := hc5.mono (fun _ h _ => h.elim)
              have hs5 : B ≤ w5.heap.size := Nat.le_trans hBw hcW.size
              have hT5 : OwnT (w5.alloc (.cells #[strv x] 9)) B 9 (.slice A ls.length c) (strs ls) := by
                have h1 := hm5.gown k hk
                rw [hVg.out, show (grpS s k (x :: r) key ls).a.ls k = ls from upd_same _ _ _] at h1
                exact h1.chg ((Chg.refl (fun _ => False) _).alloc _) (fun _ _ h => h)
              have l69 : w5.cell? ⟨g, 5 + k * 70 + 69, none⟩ = some (.slice A ls.length c) := (hm5.blk.cell _).trans ((hm5.grp k hk).trans (by rw [hVg.out]))
              go_wp2_with (first
                | (at_builtin
                   refine wpList_append_T _ rfl (.tmp 91) (.tmp 93) 51 rfl B 9 i0 _ 16 Try.underlying51 hi0 hz0 hz1 hz2 rfl (.slice A ls.length c) (strs ls) rfl hT5 _ (some ⟨(w5).heap.size, 0, none⟩) 1 1 [strv x] rfl (rd_row1 (w5) 9 (strv x) rfl) (by simp [Value.oneCell', strv]) (by simp [maxLen]; omega) (by simp; omega) (Nat.le_trans hs5 (by simp)) ?_
                   intro v3 w3 hT3 hg3 ho3
                   obtain ⟨A3, c3, rfl, _⟩ := hT3.rd
                   rw [show (strs ls ++ [strv x]).length = ls.length + 1 by simp] at hT3 ho3 ⊢
                   have hmr := app_store (x := x) hm5 hk (by rw [hVg.out]; exact hg3) hT3 (by rw [hVg.out]; exact ho3)
                   have hb3 := (hm5.blk.alloc (.cells #[strv x] 9)).grown hg3 (by have := hm5.vne (show 2 + k < 4 by omega); rw [hVg.out] at this; exact Ne.symm this)
                   have f69 : w3.frozen? ⟨g, 5 + k * 70 + 69, none⟩ = false := hb3.frozen _
                   have m69 : w3.cell? ⟨g, 5 + k * 70 + 69, none⟩ = some (.slice A ls.length c) := (hb3.cell _).trans ((hm5.grp k hk).trans (by rw [hVg.out]))
                   replace hmr := Lib.hid hmr)
                | (go_at_call 146
                   refine (next_call hmr.out.1 hk (by omega)).mono ?_
                   rintro e4 w4 ⟨rfl, cs4, V4, hm4, hc4, hF4⟩))
              go_roundg r.length
              case measure => omega
              case rel =>
                refine ⟨by omega, hstep.out key (ls ++ [x]) cs4 V4 w4 hG2.out hm4 ?_ ?_ ?_ ?_ ?_⟩
                · have := hnm.out; simp; omega
                · intro l hl
                  rcases List.mem_append.1 hl with h | h
                  · exact hs2 l h
                  · simp at h; subst h; exact hx64
                · exact hs3
                · refine (hcW.trans hmr.out.2.1 (fun y hy _ => hy)).trans hc4 (fun y hy hlt => ?_)
                  rcases hmr.out.2.2 y hy with h | h
                  · exact h
                  · have := hcW.size; omega
                · intro y hy
                  rcases hF4 y hy with h | h
                  · rcases hmr.out.2.2 y h with h | h
                    · exact .inl h
                    · have := hcW.size; exact .inr (by omega)
                  · have := hcW.size; have := hmr.out.2.1.size; exact .inr (by omega)
end Go.Proofs.Ytkgmbomfkdkofaa
