/- count: its machine, driven where awake's run comes by; New. -/
import Derived.Test.YtkgmbomfkdkofaaCountF
import Derived.Test.YtkgmbomfkdkofaaDriveJ
import Derived.Test.YtkgmbomfkdkofaaChk2
import Derived.Test.YtkgmbomfkdkofaaSame
import Derived.Test.YtkgmbomfkdkofaaLit
import Derived.Lib.SmallJoins
import Derived.Laws.EntriesVeiled
namespace Go.Proofs.Ytkgmbomfkdkofaa.Count
open Go Go.RowKit

abbrev kind : Int := 9
def E (_ : Nat) (_ : World) : Prop := True
def fitP (p : Prm) : Prop := refCheck p = 0 ∧ p.kind = kind
theorem E_on {B : Nat} {w w' : World} (_ : Below B w w') (_ : E B w) : E B w' := trivial
def fitI (p : Prm) (ins : List Strm) : Prop := fitP p ∧ (ins.length : Int) = (refArity p).1

section
variable {g B : Nat}
theorem cn_mach : MachOkJ Try.prog countM cnF cnE (fun _ => False) B 67 (.pointer (some ⟨g, 0, none⟩)) (fun _ => True) (CnInv g B) 95 93 92 91 94
      (.pointer (some ⟨g, 0, none⟩)) (.pointer (some ⟨g, 0, none⟩)) (.pointer (some ⟨g, 0, none⟩)) (.pointer (some ⟨g, 0, none⟩)) (.pointer (some ⟨g, 0, none⟩)) where
  env _ _ _ _ := trivial
  keep s F w w' S h hc hS := ⟨h.1, h.2.1, h.2.2.chg hc (hS g ((h.1 g).2 rfl))⟩
  inside s F w h := by
    obtain ⟨hF, hB, hb⟩ := h
    have := hb.lt
    exact ⟨by omega, fun j hj => by have := (hF j).1 hj; omega⟩
  mN := ⟨fun w => by kernel_rfl, fun args w => by kernel_rfl⟩
  mH := ⟨fun w => by kernel_rfl, fun args w => by kernel_rfl⟩
  mF := ⟨fun w => by kernel_rfl, fun args w => by kernel_rfl⟩
  mE := ⟨fun w => by kernel_rfl, fun args w => by kernel_rfl⟩
  mM := ⟨fun w => by kernel_rfl, fun args w => by kernel_rfl⟩
  need s F w h _ := by
    obtain ⟨h0, h1, h2, _⟩ := cn_cells h.2.2
    exact (base_need s.over w h0 h1 h2).mono (by rintro e w' ⟨rfl, rfl⟩; exact ⟨rfl, Chg.refl _ _⟩)
  held s F w _ _ := (base_held w).mono (by rintro e w' ⟨rfl, rfl⟩; exact ⟨rfl, Chg.refl _ _⟩)
  feed s F w port A c bs ha h _ hr _ := cn_feed s F w port A c bs ha h hr
  fin s F w port ha h _ := cn_end s F w port ha h
  more s F w ha _ _ := ha.elim
  small s F w _ := by
    refine ⟨fun port bs _ => ⟨by show ([] : Outs).length ≤ _; simp, by show (([] : Outs).map fun o => o.2.length).sum ≤ _; simp⟩, fun port => ⟨?_, ?_⟩, ⟨by show ([] : Outs).length ≤ _; simp, by show (([] : Outs).map fun o => o.2.length).sum ≤ _; simp⟩⟩
    · show (tellS 0 [dig1 s.lines ++ [32] ++ dig1 s.all]).length ≤ _
      simp [tellS]
    · show ((tellS 0 [dig1 s.lines ++ [32] ++ dig1 s.all]).map fun o => o.2.length).sum ≤ _
      simp [tellS, joinS, dig1]
end

/-! ## The run of awake -/
def awB : Bs := [97, 10, 98, 99]
def awO : Bs := [49, 32, 52, 10]
def awIns : List Strm := [⟨awB, true, 0, 0, 0⟩]
theorem aw_run : (drive countM ⟨false, 0, 0⟩ awIns [2]).outs 0 = awO ∧ (drive countM ⟨false, 0, 0⟩ awIns [2]).need = -1 ∧ (drive countM ⟨false, 0, 0⟩ awIns [2]).err = 0 ∧ (drive countM ⟨false, 0, 0⟩ awIns [2]).bad = false := by
  refine ⟨?_, ?_, ?_, ?_⟩ <;> kernel_rfl

def J (d : DS countM.σ) : Prop := (d.need = 0 ∧ d.st = (⟨false, 0, 0⟩ : CS) ∧ d.taken 0 = 0) ∨ (d.need = 0 ∧ d.st = (⟨false, 1, 3⟩ : CS) ∧ d.taken 0 = 3) ∨ (d.need = 0 ∧ d.st = (⟨false, 1, 4⟩ : CS) ∧ d.taken 0 = 4) ∨ d.need = -1
theorem cut3 (n : Nat) : cutN [2] n = 3 := by
  unfold cutN
  rw [if_neg (by simp)]
  simp [Nat.mod_one]
theorem J_feed (n : Nat) (d : DS countM.σ) (hn : d.need = 0) (ht : d.taken 0 < 4) {q : Nat} (hto : min 4 (d.taken 0 + 3) = q) :
    dstep countM awIns [2] n d = ((({ d with taken := upd d.taken 0 q } : DS countM.σ).put (countM.feed d.st d.need ((awB.take q).drop (d.taken 0)))).look countM, true) := by
  rw [dstep_at countM awIns [2] n d (by omega) (by omega) (by rw [hn]; simp [awIns]) (k := 0) (by rw [hn]; rfl) (by simp [awIns]), cut3]
  have e : (awIns[0]'(by simp [awIns])).bs = awB := rfl
  rw [e, show awB.length = 4 from rfl, if_pos ht, hto]
theorem J_step (n : Nat) (d : DS countM.σ) (h : J d) (hne : d.need ≠ -1) : J (dstep countM awIns [2] n d).1 := by
  rcases h with ⟨hn, hs, ht⟩ | ⟨hn, hs, ht⟩ | ⟨hn, hs, ht⟩ | hn
  · rw [J_feed n d hn (by omega) (q := 3) (by omega), ht, hs]
    exact .inr (.inl ⟨rfl, rfl, rfl⟩)
  · rw [J_feed n d hn (by omega) (q := 4) (by omega), ht, hs]
    exact .inr (.inr (.inl ⟨rfl, rfl, rfl⟩))
  · rw [dstep_at countM awIns [2] n d (by omega) (by omega) (by rw [hn]; simp [awIns]) (k := 0) (by rw [hn]; rfl) (by simp [awIns])]
    have e : (awIns[0]'(by simp [awIns])).bs = awB := rfl
    rw [e, show awB.length = 4 from rfl, if_neg (by omega)]
    split
    · exact .inr (.inr (.inr rfl))
    · exact .inr (.inr (.inl ⟨hn, hs, ht⟩))
  · exact absurd hn hne
theorem J_more (d : DS countM.σ) (h : J d) (hn : d.need = -2) : False := by
  rcases h with h | h | h | h
  · have := h.1; omega
  · have := h.1; omega
  · have := h.1; omega
  · omega
theorem J_F (n : Nat) (d : DS countM.σ) (h : J d) (k : Nat) (hk : k < awIns.length) (hn : d.need = (k : Int)) (hlt : d.taken k < (awIns[k]'hk).bs.length) :
    cnF d.st (k : Int) (((awIns[k]'hk).bs.take (min (awIns[k]'hk).bs.length (d.taken k + cutN [2] n))).drop (d.taken k)) := by
  have hk1 : k < 1 := hk
  obtain rfl : k = 0 := by omega
  have e : (awIns[0]'hk).bs = awB := rfl
  rw [e] at hlt ⊢
  rw [show awB.length = 4 from rfl] at hlt ⊢
  rw [cut3]
  rcases h with ⟨_, hs, ht⟩ | ⟨_, hs, ht⟩ | ⟨_, hs, ht⟩ | h
  · rw [ht, hs]; exact ⟨rfl, .inl ⟨rfl, rfl⟩⟩
  · rw [ht, hs]; exact ⟨rfl, .inr ⟨rfl, rfl⟩⟩
  · omega
  · omega
theorem J_E (d : DS countM.σ) (h : J d) (k : Nat) (hk : k < awIns.length) (hn : d.need = (k : Int)) (hlt : ¬ d.taken k < (awIns[k]'hk).bs.length) : cnE d.st (k : Int) := by
  have hk1 : k < 1 := hk
  obtain rfl : k = 0 := by omega
  have e : (awIns[0]'hk).bs = awB := rfl
  rw [e, show awB.length = 4 from rfl] at hlt
  rcases h with ⟨_, hs, ht⟩ | ⟨_, hs, ht⟩ | ⟨_, hs, ht⟩ | h
  · omega
  · omega
  · exact ⟨rfl, hs⟩
  · omega

/-- What New gives. -/
def NewPostC (B : Nat) (w : World) (e : Ending) (w' : World) : Prop :=
  ∃ (g : Nat) (F : Nat → Prop), e = .returned (.tuple #[.iface 67 (.pointer (some ⟨g, 0, none⟩)), .int .i64 0]) ∧ CnInv g B ⟨false, 0, 0⟩ F w' ∧ (∀ k, F k → w.heap.size ≤ k) ∧ Chg (fun _ => False) w w'

set_option maxHeartbeats 1000000 in
set_option maxRecDepth 100000 in
theorem new_any (D : Nat → Prop) (p : Prm) (h : fitP p) (v : Value) (w : World) (hv : PAt w D v p) (B : Nat) (hB : B ≤ w.heap.size) (_ : E B w) :
    Calls Try.prog 12 #[v] w (NewPostC B w) := by
  have hck := fun (W : World) (hW : Chg (fun _ => False) w W) => fcheck_ok D p h.1 (by have : p.kind = 9 := h.2; omega) v W (hv.chg hW (fun _ _ _ h => h))
  rw [show p.kind = 9 from h.2] at hck
  replace hck := Lib.hid hck
  obtain ⟨A, ca, Bb, cb, rfl, _, _⟩ := hv
  rw [show p.kind = 9 from h.2] at hck ⊢
  go_enter Try.func12, Try.ntmps12
  go_wp2_with (first
    | (go_at_call 28
       refine (hck.out _ ((Chg.refl _ _).alloc _)).mono ?_
       rintro e1 w1 ⟨rfl, hc1⟩))
  go_ret2
  have hs : w.heap.size + 1 ≤ w1.heap.size := by have := hc1.size; simp at this; exact this
  have hcc : Chg (fun _ => False) w w1 := ((Chg.refl _ _).alloc _).trans hc1 (fun _ h _ => h)
  refine ⟨w1.heap.size, fun j => j = w1.heap.size, rfl, ⟨fun j => Iff.rfl, by omega, ?_⟩, fun k hk => by omega, ?_⟩
  · exact Blk.new _ _ _
  · exact hcc.alloc _

theorem aw_fit : fitP ⟨9, 0, [], []⟩ := ⟨by decide, rfl⟩
theorem nil_no (a : Addr) (w : World) : (binOp .eql 31 (.iface 67 (.pointer (some a))) .nilIface).run Try.prog w = .ok (.bool false) w := by kernel_rfl

set_option maxHeartbeats 1000000 in
set_option maxRecDepth 100000 in
theorem awake_any (B : Nat) (w : World) (hB : B ≤ w.heap.size) (hE : E B w) : Calls Try.prog 9 #[] w (TruePost w) := by
  have hnew := new_any (fun _ => True) ⟨9, 0, [], []⟩ aw_fit _ w (prm_lit w 9 0) B hB hE
  have hnil := nil_no
  have hcv := fun (W : World) (C : Array Value) (n c g : Nat) (hg : g = W.heap.size) => Go.Joins.run_convert_bytes_const_at (P := Try.prog) W 22 5 C n c g hg Try.underlying22 Try.underlying5
  obtain ⟨d1, d2, d3, d4⟩ := aw_run
  obtain ⟨d, hd⟩ : ∃ d, d = drive countM ⟨false, 0, 0⟩ awIns [2] := ⟨_, rfl⟩
  rw [← hd] at d1 d2 d3 d4
  have hdr := fun (g : Nat) (F : Nat → Prop) (W : World) (A C : Option Addr) (ca cc : Nat) (D : Nat → Prop) (hinv : CnInv g B ⟨false, 0, 0⟩ F W) (hins : StrmsAt W D (.slice A awIns.length ca) awIns) (hcuts : Rd W D 1 C [(2 : Int)].length (i64s [2])) (hD : ∀ k, D k → ¬ F k) =>
    drive_anyJ (cn_mach (g := g) (B := B)) ⟨false, 0, 0⟩ F awIns [2] A C ca cc D W hinv trivial hins hcuts hD (by decide) (by decide) J (.inl ⟨rfl, rfl, rfl⟩) (fun n d h _ hne => J_step n d h hne) (fun d h hn => J_more d h hn) (fun n d h k hk hn hlt => J_F n d h k hk hn hlt) (fun d h k hk hn hlt _ _ => J_E d h k hk hn hlt)
  unfold DrivePost at hdr
  rw [← hd] at hdr
  replace hdr := Lib.hid hdr
  replace hd := Lib.hid hd
  replace d1 := Lib.hid d1
  replace d2 := Lib.hid d2
  replace d3 := Lib.hid d3
  replace d4 := Lib.hid d4
  go_enter Try.func9, Try.ntmps9
  go_wp2_with (first
    | (go_at_call 12
       refine hnew.mono ?_
       rintro e1 w1 ⟨g, F, rfl, hr1, hF1, hc1⟩)
    | (go_at_call 18
       refine (hdr.out g F _ _ _ _ _ (fun k => w1.heap.size ≤ k) ?_ ?_ ?_ ?_).mono ?_
       rotate_left 4
       rintro e2 w2 ⟨rfl, hc2, _, F', hi', hF2⟩
       unfold GotVal)
    | (refine wpList_store_got rfl (.tmp 3) (.tmp 21) rfl w2.heap.size _ _ _ _ _ _ rfl rfl _ (Blk.new w2 _ _) rfl ?_
       intro w3 hG3 hc3
       have g0 : w3.cell? ⟨w2.heap.size, 0, none⟩ = some (strv awO) := (hG3.cell 0).trans (by rw [← d1.out]; rfl)
       have g4 : w3.cell? ⟨w2.heap.size, 4, none⟩ = some (.int .i64 (-1)) := (hG3.cell 4).trans (by rw [← d2.out]; rfl)
       have g5 : w3.cell? ⟨w2.heap.size, 5, none⟩ = some (.int .i64 0) := (hG3.cell 5).trans (by rw [← d3.out]; rfl)
       have g11 : w3.cell? ⟨w2.heap.size, 11, none⟩ = some (.bool false) := (hG3.cell 11).trans (by rw [← d4.out]; rfl)
       unfold awO at g0))
  · go_ret
    refine ⟨rfl, ?_⟩
    have k2 : Chg F w1 w2 := (((Chg.refl F w1).alloc _).alloc _).alloc _ |>.trans hc2 (fun _ h _ => h)
    have k3 : Chg F w1 w3 := (k2.alloc _).trans hc3 (fun k hk hlt => by have := k2.size; omega)
    exact hc1.trans k3 (fun k hk hlt => by have := hF1 k hk; omega)
  · exact ⟨hr1.1, hr1.2.1, ((hr1.2.2.alloc _).alloc _).alloc _⟩
  · exact ((strms_new (fun k => w1.heap.size ≤ k) [(⟨awB, true, 0, 0, 0⟩, .slice (some ⟨w1.heap.size, 0, none⟩) awB.length awB.length)] rfl (by simp) (by show w1.heap.size ≤ _; omega) (by
      intro t ht
      simp at ht
      subst ht
      exact ⟨⟨_, _, rfl, bs_new _ awB rfl rfl (Nat.le_refl _)⟩, capOk_slice (Nat.le_refl _)⟩)).chg ((Chg.refl (fun _ => False) _).alloc _) (fun _ _ _ h => h))
  · exact is_new _ [2] rfl (by simp) (by show w1.heap.size ≤ _; omega)
  · exact fun k hk hF => by
      have h1 := (hr1.1 k).1 hF
      have h2 := hr1.2.2.lt
      have h3 : w1.heap.size ≤ k := hk
      omega
end Go.Proofs.Ytkgmbomfkdkofaa.Count
