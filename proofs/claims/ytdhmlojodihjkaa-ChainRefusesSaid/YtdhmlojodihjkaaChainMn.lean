/- penstockref12's Means: what the document says of chain. -/
import Derived.Test.YtdhmlojodihjkaaChainK
import Derived.Test.YtdhmlojodihjkaaRef4B
import Derived.Test.YtdhmlojodihjkaaSame
import Derived.Test.YtdhmlojodihjkaaCat
namespace Go.Proofs.Ytdhmlojodihjkaa.Chain
open Go Go.RowKit

def means (_ : Int) (ins : List Strm) : List Strm := chainMeans ins
theorem same_ok (p : Prm) (ins : List Strm) (_ : fitI p ins) (_ : ∀ s ∈ ins, s.bs.length ≤ 10000) : SameOk (den p.n ins) ins (means p.n ins) := chain_same ins
theorem means_len (p : Prm) (ins : List Strm) (_ : fitI p ins) : (means p.n ins).length ≤ 100 := by
  have key : ∀ (r : List Strm) (b : Bs), (chainMeansGo r b).length = 1 := by
    intro r
    induction r with
    | nil => intro b; rfl
    | cons s r ih =>
      intro b
      rw [chainMeansGo]
      split
      · exact ih _
      · rfl
  show (chainMeansGo ins []).length ≤ 100
  rw [key]; omega

theorem out_of {w w0 : World} {l : List Strm} {e : Ending} {w' : World} (h : OutPost w0 l e w') (hs : w.heap.size ≤ w0.heap.size) (hc : Chg (fun _ => False) w w0) : OutPost w l e w' := by
  obtain ⟨v, rfl, h1, h2⟩ := h
  exact ⟨v, rfl, h1.mono (fun k hk _ => by omega), (hc.below (Nat.le_refl _) (fun _ h => h.elim)).trans (h2.mono hs)⟩

set_option maxHeartbeats 1000000 in
set_option maxRecDepth 100000 in
theorem means_any (D : Nat → Prop) (p : Prm) (ins : List Strm) (hf : fitI p ins) (hl : ∀ s ∈ ins, s.bs.length ≤ 10000) (v : Value) (A : Option Addr) (ci : Nat) (w : World)
    (hv : PAt w D v p) (hins : StrmsAt w D (.slice A ins.length ci) ins) :
    Calls Try.prog 26 #[v, .slice A ins.length ci] w (OutPost w (means p.n ins)) := by
  have hn : p.n = ins.length := by have h := hf.2; rw [(fit_n hf.1).2.2.1] at h; exact h.symm
  have hle : ins.length ≤ 4 := by have h := (fit_n hf.1).2.1; omega
  obtain ⟨A1, ca, B1, cb, rfl, _, _⟩ := hv
  have hst : Blk (w.alloc (.cells #[.int .i64 p.kind, .int .i64 p.n, .slice A1 p.a.length ca, .slice B1 p.b.length cb] 24)) w.heap.size 24 #[.int .i64 p.kind, .int .i64 p.n, .slice A1 p.a.length ca, .slice B1 p.b.length cb] := Blk.new _ _ _
  have hch : Chg (fun _ => False) w (w.alloc (.cells #[.int .i64 p.kind, .int .i64 p.n, .slice A1 p.a.length ca, .slice B1 p.b.length cb] 24)) := (Chg.refl _ _).alloc _
  have hins' := hins.chg hch (fun _ _ _ h => h)
  have p1 : (w.alloc (.cells #[.int .i64 p.kind, .int .i64 p.n, .slice A1 p.a.length ca, .slice B1 p.b.length cb] 24)).cell? ⟨w.heap.size, 1, none⟩ = some (.int .i64 ins.length) := (hst.cell 1).trans (by rw [← hn]; rfl)
  have hm : means p.n ins = chainMeansGo ins [] := rfl
  rw [hm]
  clear hm hins hf hst
  replace hn := Lib.hid hn
  go_enter Try.func26, Try.ntmps26
  go_wp2
  generalize w.alloc (.cells #[.int .i64 p.kind, .int .i64 p.n, .slice A1 p.a.length ca, .slice B1 p.b.length cb] 24) = w0 at *
  have hsz := hch.size
  go_loop [6, 5] (fun i s => ∃ (k : Nat) (b : Bs), k ≤ ins.length ∧ i = .int .i64 k ∧ s = strv b ∧ Hid (chainMeansGo (ins.drop k) b = chainMeansGo ins []) ∧ b.length ≤ k * 10000) (fun i _ => ins.length - (intOf i).toNat)
  case atStart => exact ⟨0, [], by omega, rfl, rfl, Lib.hid rfl, by simp⟩
  case round =>
    obtain ⟨k, b, hk, rfl, rfl, hgo, hb⟩ := hrel
    by_cases hlt : k < ins.length
    · obtain ⟨z0, g2, o2, A2, c2, rfl, hg2, z1, q0, q1, q2, q3, q4, hr2, z2⟩ := hins'.at_ hlt
      have hcv := conv_rd w0 D A2 ins[k].bs c2 hr2
      have hbk := hl _ (List.getElem_mem hlt)
      have hcat := fun W => run_cat2 b ins[k].bs (by omega) (by omega) W
      have hd := List.drop_eq_getElem_cons hlt
      have hgo := hgo.out
      rw [hd, chainMeansGo] at hgo
      have hlt' : (k : Int) < (ins.length : Int) := by omega
      have hk0 : (0 : Int) ≤ (k : Int) := by omega
      generalize ins[k] = s at *
      clear z0 z1 z2 hd
      by_cases he : s.ended = true
      · rw [if_pos he] at hgo
        rw [he] at q1
        replace hgo := Lib.hid hgo
        clear he
        go_wp2
        go_round
        case rel => exact ⟨k + 1, b ++ s.bs, by omega, by go_num, rfl, hgo, by simp; omega⟩
        case measure => simp [intOf]; omega
      · rw [if_neg he] at hgo
        have he' : s.ended = false := by simpa using he
        rw [he'] at q1
        replace hgo := Lib.hid hgo
        clear he he'
        go_wp2_with (first
          | (go_at_call 45
             refine (out_any (b ++ s.bs) false s.code s.stage s.id _).mono ?_
             intro e1 w1 ho1
             obtain ⟨v1, rfl, h1, h2⟩ := ho1))
        go_ret
        rw [← hgo.out]
        exact out_of ⟨_, rfl, h1, h2⟩ (by omega) hch
    · have hlt' : ¬ (k : Int) < (ins.length : Int) := by omega
      have hgo := hgo.out
      rw [List.drop_of_length_le (by omega), chainMeansGo] at hgo
      replace hgo := Lib.hid hgo
      go_wp2_with (first
        | (go_at_call 45
           refine (out_any b true 0 0 0 _).mono ?_
           intro e1 w1 ho1
           obtain ⟨v1, rfl, h1, h2⟩ := ho1))
      go_ret
      rw [← hgo.out]
      exact out_of ⟨_, rfl, h1, h2⟩ (by omega) hch
end Go.Proofs.Ytdhmlojodihjkaa.Chain
