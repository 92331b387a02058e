/- penstocklaw13: told. -/
import Derived.Test.YtamhebjejgcbjaaPasteAwake
import Derived.Test.YtamhebjejgcbjaaBss
import Derived.Deep.RegionHeld3
import Derived.Deep.DrawnRows
import Derived.BigQuiet
import Derived.Outline
import Derived.BigRegion
import Derived.Deep.RegionWith
namespace Go.Proofs.Ytamhebjejgcbjaa.Paste
open Go Go.RowKit

theorem drive_ready_n {M : Mach} {E : World → Prop} {B : Nat} {v : Value} {s : M.σ} {F : Nat → Prop} {w : World} (h : Ready M E B v s F w) (ins : List Strm) (cuts : List Int) (den : Den) (bound : Int) (hd : DEnd M den bound (drive M s ins cuts)) (n : Nat) (hn : ins.length = n)
    (A C : Option Addr) (ca cc : Nat) (D : Nat → Prop) (hins : StrmsAt w D (.slice A n ca) ins) (hcuts : Rd w D 1 C cuts.length (i64s cuts)) (hD : ∀ k, D k → ¬ F k) (hcl : cuts.length ≤ 100000) (hbl : ∀ x ∈ ins, x.bs.length ≤ 1000000) :
    Calls Try.prog 28 #[v, .slice A n ca, .slice C cuts.length cc] w (DrivenPost M E B v den bound F w) := by
  subst hn
  exact drive_ready h ins cuts den bound hd A C ca cc D hins hcuts hD hcl hbl

def ToldPost (w : World) (dn : Den) (e : Ending) (w' : World) : Prop :=
  ∃ (held : Int) (taken : Nat → Nat), e = .returned (.tuple #[.agg (gotC dn.outs dn.need dn.err held taken false), .bool true]) ∧ Chg (fun _ => False) w w'

set_option maxHeartbeats 4000000 in
set_option maxRecDepth 100000 in
theorem told_any (D : Nat → Prop) (p : Prm) (hp : p.Fine) (l : List Bs) (hI : fitI p (l.map endS)) (hl : ∀ b ∈ l, b.length ≤ 10000) (hd0 : (den p (l.map endS)).need = -1 ∧ (den p (l.map endS)).err = 0) (cuts : List Int) (hcl : cuts.length ≤ 100000) (v : Value) (A C : Option Addr) (ci cc : Nat) (w : World)
    (hv : PAt w D v p) (hl4 : l.length ≤ 100) (hins : BssAt w D (.slice A l.length ci) l) (hcuts : Rd w D 1 C cuts.length (i64s cuts)) (B : Nat) (hB : B ≤ w.heap.size) (hE : E B w) :
    Calls Try.prog 30 #[v, .slice C cuts.length cc, .slice A l.length ci] w (ToldPost w (den p (l.map endS))) := by
  obtain ⟨i0, hi0, iz0, iz1, iz2⟩ := info_parts info_strm
  have hvv := fun (W : World) (hW : Chg (fun _ => False) w W) => hv.chg hW (fun _ _ _ h => h)
  have hEE : ∀ W, Chg (fun _ => False) w W → E B W := fun W hW => E_on (hW.below hB (fun _ h => h.elim)) hE
  have hcp := fun (W : World) (hW : Chg (fun _ => False) w W) => copy_params_any D p hp _ W (hvv W hW)
  have hnew := fun (W : World) (hW : Chg (fun _ => False) w W) (u : Value) (D : Nat → Prop) (hu : PAt W D u p) => new_any D p hI.1 u W hu B (Nat.le_trans hB hW.size) (hEE W hW)
  have hdv := drive_ok p (l.map endS) hI (fun s hs => by obtain ⟨b, hb, rfl⟩ := List.mem_map.1 hs; exact hl b hb) cuts
  have hc2 := fun (W : World) (hW : Chg (fun _ => False) w W) => (hcuts.mono (D' := fun k => k < w.heap.size) (fun k _ hk => hk)).chg hW (fun _ _ _ h => h)
  obtain ⟨A1, c1, B1, d1, rfl, _, _⟩ := hv
  have hst : Blk (w.alloc (.cells #[.int .i64 p.kind, .int .i64 p.n, .slice A1 p.a.length c1, .slice B1 p.b.length d1] 24)) w.heap.size 24 #[.int .i64 p.kind, .int .i64 p.n, .slice A1 p.a.length c1, .slice B1 p.b.length d1] := Blk.new _ _ _
  obtain ⟨A', ci', its, hvs, hli, hri, hbi⟩ := hins
  cases hvs
  have hil : its.length = l.length := by rw [hli]; simp
  have hnil := nil_no
  replace hcp := Lib.hid hcp
  replace hnew := Lib.hid hnew
  replace hdv := Lib.hid hdv
  replace hc2 := Lib.hid hc2
  replace hd0 := Lib.hid hd0
  replace hI := Lib.hid hI
  replace hcl := Lib.hid hcl
  replace hli := Lib.hid hli
  replace hil := Lib.hid hil
  have hl10 := Lib.hid hl
  clear hEE hvv hl
  go_enter Try.func30, Try.ntmps30
  go_wp2
  go_loopw [9, 8] (fun i v wr => ∃ k : Nat, k ≤ l.length ∧ i = .int .i64 k ∧ Chg (fun _ => False) w wr ∧ Blk wr w.heap.size 24 #[.int .i64 p.kind, .int .i64 p.n, .slice A1 p.a.length c1, .slice B1 p.b.length d1] ∧
      Blk wr (w.heap.size + 1) 42 (gotC (fun _ => []) 0 0 0 (fun _ => 0) false) ∧ wr.ownsRow w.heap.size 58 5 v k ((its.take k).flatMap fun t => strmC (endS t.1, t.2))) (fun i _ _ => l.length - (intOf i).toNat)
  case atStart => exact ⟨0, by omega, rfl, ((Chg.refl _ _).alloc _).alloc _, hst.alloc _, blk_new' _ _ (by simp), by simpa using World.ownsRow_nil _ _ _ _⟩
  case round =>
    obtain ⟨k, hk, rfl, hch, hb, hbR, hown⟩ := hrel
    clear hst
    by_cases hlt : k < l.length
    · have hlt' : (k : Int) < (l.length : Int) := by omega
      have hk0 : (0 : Int) ≤ (k : Int) := by omega
      obtain ⟨g2, o2, u, rfl, hg2, hD2, hu, hcell⟩ := hri.at_ hlt
      have hki : k < its.length := by have := hil.out; omega
      rw [List.getElem?_map, List.getElem?_eq_getElem hki] at hu
      simp only [Option.map_some, Option.some.injEq] at hu
      obtain ⟨⟨A2, c2, hv2, hr2⟩, hcap⟩ := hbi _ (List.getElem_mem hki)
      have hft := flat_take_succ (fun t : Bs × Value => strmC (endS t.1, t.2)) its k hki
      rw [← hu, hv2] at hcell
      generalize its[k] = t at *
      have hcell' : wr.cell? ⟨g2, o2 + k, none⟩ = some (.slice A2 t.1.length c2) := (hch.cell (p := ⟨g2, o2 + k, none⟩) hg2 (fun h => h)).trans hcell
      have hs2 := hch.size
      replace hft := Lib.hid hft
      replace hv2 := Lib.hid hv2
      clear hcell hu hbi hr2
      go_wp2_with (first
        | (at_builtin
           refine wpList_append_own_at _ rfl (.tmp 19) (.tmp 25) 36 rfl w.heap.size 58 i0 _ 5 56 Try.underlying36 hi0 iz0 iz1 iz2 rfl (by omega) u8 k ((its.take k).flatMap fun t => strmC (endS t.1, t.2)) rfl (hown.alloc _) ⟨wr.heap.size, 0, none⟩ 1 1 [.slice A2 t.1.length c2, .bool true, .int .i64 0, .int .i64 0, .int .i64 0] rfl rfl (World.news_of_block (cs := #[.slice A2 t.1.length c2, .bool true, .int .i64 0, .int .i64 0, .int .i64 0]) (t := 58) (fr := (0, 0)) (heap_alloc_new wr _)) (by simp [Value.oneCell']) (by simp only [maxLen]; omega) (by omega) (by simp; omega) ?_
           intro v2 w2 hown2 hg2' hv2' hat2))
      go_roundw
      case rel =>
        have hug : ∀ j, u8.ownBlock = some j → w.heap.size ≤ j ∧ j < wr.heap.size := fun j e => ⟨(hown.lt j e).1, (hown.lt j e).2⟩
        have hc1 : Chg (fun _ => False) wr (wr.alloc (.cells #[.slice A2 t.1.length c2, .bool true, .int .i64 0, .int .i64 0, .int .i64 0] 58)) := (Chg.refl _ _).alloc _
        have hc2' : Chg (fun j => u8.ownBlock = some j) (wr.alloc (.cells #[.slice A2 t.1.length c2, .bool true, .int .i64 0, .int .i64 0, .int .i64 0] 58)) w2 := (Chg.refl _ _).grown hg2' (fun j e => .inl e)
        refine ⟨k + 1, by omega, by go_num, (hch.trans hc1 (fun _ h _ => h)).trans hc2' (fun y hy hlt => by have := (hug y hy).1; omega), (hb.chg hc1 (fun h => h)).chg hc2' (fun e => own_not' hb hown e), (hbR.chg hc1 (fun h => h)).chg hc2' (fun e => own_not2 hbR hown e), ?_⟩
        rw [hft.out]
        simp only [strmC, endS, hv2.out]
        exact hown2
      case measure => simp [intOf]; omega
    · have hlt' : ¬ (k : Int) < (l.length : Int) := by omega
      have hkn : k = l.length := by omega
      subst hkn
      rw [List.take_of_length_le (by have := hil.out; omega)] at hown
      have hsz2 := hch.size
      have hblt := hbR.lt
      obtain ⟨A9, c9, rfl, hrd⟩ := own_rd hown
      have hlm : (l.map endS).length = l.length := by simp
      have hstr : ∀ W, Chg (fun _ => False) wr W → StrmsAt W (fun k => k < wr.heap.size) (.slice A9 (l.map endS).length c9) (l.map endS) := fun W hW =>
        ⟨A9, c9, its.map (fun t => (endS t.1, t.2)), rfl, by rw [hli.out]; simp, by rw [hlm, List.flatMap_map]; exact (hrd.mono (D' := fun k => k < wr.heap.size) (fun k _ h => h)).chg hW (fun _ _ _ h => h), fun t ht => by
          obtain ⟨t0, ht0, rfl⟩ := List.mem_map.1 ht
          exact ⟨(((hbi t0 ht0).1.mono (D' := fun k => k < wr.heap.size) (fun k _ h => by omega)).chg hch (fun _ _ _ h => h)).chg hW (fun _ _ _ h => h), (hbi t0 ht0).2⟩⟩
      rw [hlm] at hstr
      replace hlm := Lib.hid hlm
      have p0 : wr.cell? ⟨w.heap.size, 0, none⟩ = some (.int .i64 p.kind) := (hb.cell 0).trans rfl
      have p1 : wr.cell? ⟨w.heap.size, 1, none⟩ = some (.int .i64 p.n) := (hb.cell 1).trans rfl
      have p2 : wr.cell? ⟨w.heap.size, 2, none⟩ = some (.slice A1 p.a.length c1) := (hb.cell 2).trans rfl
      have p3 : wr.cell? ⟨w.heap.size, 3, none⟩ = some (.slice B1 p.b.length d1) := (hb.cell 3).trans rfl
      replace hstr := Lib.hid hstr
      replace hbi := Lib.hid hbi
      clear hown hrd
      have tn := Lib.hid trivial
      go_wp2_with (first
        | (go_at_call 21
           refine (hcp.out wr hch).mono ?_
           intro e3 w3 hc3
           obtain ⟨v3, rfl, hp3, hb3⟩ := hc3
           have k3 : Chg (fun _ => False) wr w3 := Chg.of_below hb3)
        | (go_at_call 27
           refine (hnew.out w3 (hch.trans k3 (fun _ h _ => h)) _ _ hp3).mono ?_
           rintro e4 w4 ⟨m1, F1, rfl, hr1, hF1, hc4⟩
           have k4 : Chg (fun _ => False) wr w4 := k3.trans hc4 (fun _ h _ => h)
           have hF1w : ∀ k, F1 k → wr.heap.size ≤ k := fun k hk => by have := hF1 k hk; have := k3.size; omega)
        | (go_at_call 28
           refine (drive_ready_n hr1 (l.map endS) cuts _ _ hdv.out l.length hlm.out A9 C c9 cc (fun k => k < wr.heap.size) ?_ ((hc2.out w4 (hch.trans k4 (fun _ h _ => h))).mono (fun k hk _ => by have : k < w.heap.size := hk; show k < wr.heap.size; omega)) ?_ hcl.out ?_).mono ?_
           rotate_left 3
           rintro e5 w5 ⟨dd1, F3, rfl, hh1, hh01, hc5, hr3, hF3⟩
           have k5 : Chg (fun _ => False) wr w5 := k4.trans hc5 (fun k hk hlt => by have := hF1w k hk; omega)
           clear hh1 hh01 hr3 hF3)
        | (refine wpList_store_got rfl (.tmp 12) (.tmp 43) rfl w5.heap.size _ _ _ _ _ _ rfl rfl _ (Blk.new w5 _ _) rfl ?_
           intro w6 hG6 hc6
           have k56 : Chg (fun _ => False) w5 w6 := ((Chg.refl _ _).alloc _).trans hc6 (fun k hk hlt => by omega)
           have k6 : Chg (fun _ => False) wr w6 := k5.trans k56 (fun _ h _ => h)
           have hR6 := hbR.chg k6 (fun h => h)
           have hne : ¬ w.heap.size + 1 = w5.heap.size := by have := k5.size; omega
           have hne' : ¬ w5.heap.size = w.heap.size + 1 := by omega
           have g0 : w6.cell? ⟨w5.heap.size, 0, none⟩ = some (strv ((den p (l.map endS)).outs 0)) := (hG6.cell 0).trans (rfl)
           have g1 : w6.cell? ⟨w5.heap.size, 1, none⟩ = some (strv ((den p (l.map endS)).outs 1)) := (hG6.cell 1).trans (rfl)
           have g2 : w6.cell? ⟨w5.heap.size, 2, none⟩ = some (strv ((den p (l.map endS)).outs 2)) := (hG6.cell 2).trans (rfl)
           have g3 : w6.cell? ⟨w5.heap.size, 3, none⟩ = some (strv ((den p (l.map endS)).outs 3)) := (hG6.cell 3).trans (rfl)
           have g4 : w6.cell? ⟨w5.heap.size, 4, none⟩ = some (.int .i64 (-1)) := (hG6.cell 4).trans (by rw [← hd0.out.1]; rfl)
           have g5 : w6.cell? ⟨w5.heap.size, 5, none⟩ = some (.int .i64 0) := (hG6.cell 5).trans (by rw [← hd0.out.2]; rfl)
           have g6 : w6.cell? ⟨w5.heap.size, 6, none⟩ = some (.int .i64 dd1.held) := (hG6.cell 6).trans (rfl)
           have g7 : w6.cell? ⟨w5.heap.size, 7, none⟩ = some (.int .i64 (dd1.taken 0)) := (hG6.cell 7).trans (rfl)
           have g8 : w6.cell? ⟨w5.heap.size, 8, none⟩ = some (.int .i64 (dd1.taken 1)) := (hG6.cell 8).trans (rfl)
           have g9 : w6.cell? ⟨w5.heap.size, 9, none⟩ = some (.int .i64 (dd1.taken 2)) := (hG6.cell 9).trans (rfl)
           have g10 : w6.cell? ⟨w5.heap.size, 10, none⟩ = some (.int .i64 (dd1.taken 3)) := (hG6.cell 10).trans (rfl)
           have g11 : w6.cell? ⟨w5.heap.size, 11, none⟩ = some (.bool false) := (hG6.cell 11).trans (rfl)
           have z0 : w6.cell? ⟨w.heap.size + 1, 0, none⟩ = some (strv []) := (hR6.cell 0).trans rfl
           have z1 : w6.cell? ⟨w.heap.size + 1, 1, none⟩ = some (strv []) := (hR6.cell 1).trans rfl
           have z2 : w6.cell? ⟨w.heap.size + 1, 2, none⟩ = some (strv []) := (hR6.cell 2).trans rfl
           have z3 : w6.cell? ⟨w.heap.size + 1, 3, none⟩ = some (strv []) := (hR6.cell 3).trans rfl
           have z4 : w6.cell? ⟨w.heap.size + 1, 4, none⟩ = some (.int .i64 0) := (hR6.cell 4).trans rfl
           have z5 : w6.cell? ⟨w.heap.size + 1, 5, none⟩ = some (.int .i64 0) := (hR6.cell 5).trans rfl
           have z6 : w6.cell? ⟨w.heap.size + 1, 6, none⟩ = some (.int .i64 0) := (hR6.cell 6).trans rfl
           have z7 : w6.cell? ⟨w.heap.size + 1, 7, none⟩ = some (.int .i64 ((0 : Nat) : Int)) := (hR6.cell 7).trans rfl
           have z8 : w6.cell? ⟨w.heap.size + 1, 8, none⟩ = some (.int .i64 ((0 : Nat) : Int)) := (hR6.cell 8).trans rfl
           have z9 : w6.cell? ⟨w.heap.size + 1, 9, none⟩ = some (.int .i64 ((0 : Nat) : Int)) := (hR6.cell 9).trans rfl
           have z10 : w6.cell? ⟨w.heap.size + 1, 10, none⟩ = some (.int .i64 ((0 : Nat) : Int)) := (hR6.cell 10).trans rfl
           have z11 : w6.cell? ⟨w.heap.size + 1, 11, none⟩ = some (.bool false) := (hR6.cell 11).trans rfl
           have zf : ∀ i, w6.frozen? ⟨w.heap.size + 1, i, none⟩ = false := fun i => hR6.frozen i))
      · clear hbR hb hb3
        go_region
        go_wp2
        have hb12 := Blk_eq' (((((((((((((hR6.set 0 (strv ((den p (l.map endS)).outs 0))).set 1 (strv ((den p (l.map endS)).outs 1))).set 2 (strv ((den p (l.map endS)).outs 2))).set 3 (strv ((den p (l.map endS)).outs 3))).set 4 (.int .i64 (-1))).set 5 (.int .i64 0)).set 6 (.int .i64 dd1.held)).set 7 (.int .i64 (dd1.taken 0))).set 8 (.int .i64 (dd1.taken 1))).set 9 (.int .i64 (dd1.taken 2))).set 10 (.int .i64 (dd1.taken 3))).set 11 (.bool false)).drew) (got_set12 _ _ _ _ _ _ _ _ _ _ _ _ _ _ _ _ _ _)
        refine bodyPost_ret (results_cell_tmp_row rfl _ _ (w.heap.size + 1) _ _ _ _ rfl hb12 Try.underlying42 rfl info_got) rfl ?_
        refine ⟨dd1.held, dd1.taken, ?_, ?_⟩
        · rw [hd0.out.1, hd0.out.2]
          rfl
        · exact ((hch.trans k6 (fun _ h _ => h)).trans (S' := fun k => k = w.heap.size + 1) ((((((((((((((Chg.refl (fun k => k = w.heap.size + 1) w6).setCell (p := ⟨w.heap.size + 1, 0, none⟩) (.inl rfl) _).setCell (p := ⟨w.heap.size + 1, 1, none⟩) (.inl rfl) _).setCell (p := ⟨w.heap.size + 1, 2, none⟩) (.inl rfl) _).setCell (p := ⟨w.heap.size + 1, 3, none⟩) (.inl rfl) _).setCell (p := ⟨w.heap.size + 1, 4, none⟩) (.inl rfl) _).setCell (p := ⟨w.heap.size + 1, 5, none⟩) (.inl rfl) _).setCell (p := ⟨w.heap.size + 1, 6, none⟩) (.inl rfl) _).setCell (p := ⟨w.heap.size + 1, 7, none⟩) (.inl rfl) _).setCell (p := ⟨w.heap.size + 1, 8, none⟩) (.inl rfl) _).setCell (p := ⟨w.heap.size + 1, 9, none⟩) (.inl rfl) _).setCell (p := ⟨w.heap.size + 1, 10, none⟩) (.inl rfl) _).setCell (p := ⟨w.heap.size + 1, 11, none⟩) (.inl rfl) _)) (fun k hk hlt => by omega)).drew
      · exact (hstr.out w4 k4)
      · exact fun k hk hF => by have := hF1w k hF; omega
      · exact fun x hx => by obtain ⟨b, hb, rfl⟩ := List.mem_map.1 hx; have := hl10.out b hb; show b.length ≤ _; omega
end Go.Proofs.Ytamhebjejgcbjaa.Paste
