/- paste: what the document says of it, and that more input makes more of it. -/
import Derived.Test.YtkgmbomfkdkofaaPasteL
namespace Go.Proofs.Ytkgmbomfkdkofaa

/-- What the document says of paste. -/
def pasteMeans (by_ : Bs) (ins : List Strm) : List Strm :=
  if (pasteGo by_ ins).2.2.2 = true then refOut (joinS (pasteGo by_ ins).1) true 0 0 0
  else refOut (joinS (pasteGo by_ ins).1) false (refLines (sAt ins (pasteGo by_ ins).2.2.1)).code (refLines (sAt ins (pasteGo by_ ins).2.2.1)).stage (refLines (sAt ins (pasteGo by_ ins).2.2.1)).id

theorem pasteGo_dec (by_ : Bs) (ins : List Strm) : (pasteGo by_ ins).2.2.2 = false → (pasteGo by_ ins).2.2.1 < ins.length ∧ (insT ins (pasteGo by_ ins).2.2.1).length ≤ (pasteGo by_ ins).2.1 ∧ insE ins (pasteGo by_ ins).2.2.1 = false :=
  (pgo_dec by_ ins.length (insT ins) (insE ins) _ (insT_le ins) _ 0 0 (by omega) (enough_FU _ _ 0 0) (fun i j hi _ => by omega) (fun j hj => by omega)).2.2.2.1

theorem outs_means (b : Bs) (c st id : Int) (all : Bool) : ∀ i : Nat, i < 4 → outs0 b i = (((refOut b all c st id)[i]?).map Strm.bs).getD [] := fun i _ => by
  unfold refOut outs0
  by_cases h0 : i = 0
  · subst h0; cases all <;> rfl
  · obtain ⟨j, rfl⟩ : ∃ j, i = j + 1 := ⟨i - 1, by omega⟩
    cases all <;> rfl

theorem goDen_fail {ins : List Strm} {rows : List Bs} {r k : Nat} (h : failedS (sAt ins k) = true) : goDen ins (rows, r, k, false) = ⟨outs0 (joinS rows), -1, 20⟩ := by unfold goDen; simp [h]
theorem goDen_wait {ins : List Strm} {rows : List Bs} {r k : Nat} (h : failedS (sAt ins k) = false) : goDen ins (rows, r, k, false) = ⟨outs0 (joinS rows), k, 0⟩ := by unfold goDen; simp [h]
theorem goDen_outs (ins : List Strm) (x : List Bs × Nat × Nat × Bool) : (goDen ins x).outs = outs0 (joinS x.1) := rfl

theorem paste_same (by_ : Bs) (ins : List Strm) : SameOk (pasteDen by_ ins) ins (pasteMeans by_ ins) := by
  have hd := pasteGo_dec by_ ins
  unfold pasteDen pasteMeans
  generalize pasteGo by_ ins = x at *
  obtain ⟨rows, r, k, ov⟩ := x
  dsimp only at *
  cases ov with
  | true =>
    rw [if_pos rfl]
    refine ⟨fun i hi => outs_means _ _ _ _ _ i hi, fun w hw => ?_⟩
    simp only [refOut, if_true, List.mem_singleton] at hw
    subst hw
    exact .inl ⟨rfl, rfl, rfl⟩
  | false =>
    obtain ⟨hk, _, hE⟩ := hd rfl
    rw [if_neg (by decide)]
    refine ⟨fun i hi => outs_means _ _ _ _ _ i hi, fun w hw => ?_⟩
    unfold refOut at hw
    rw [if_neg (by decide)] at hw
    simp only [List.mem_singleton] at hw
    subst hw
    cases hf : failedS (sAt ins k) with
    | true =>
      have hf' : (cutS [] (sAt ins k).bs).2.2 = true := hf
      have hc : (refLines (sAt ins k)).code = 20 := by unfold refLines; rw [if_pos hf']
      rw [goDen_fail hf]
      exact .inr (.inl ⟨rfl, rfl, hc.symm, (by show (20 : Int) ≠ 0; decide)⟩)
    | false =>
      have he : (sAt ins k).ended = false := by
        cases he : (sAt ins k).ended with
        | false => rfl
        | true =>
          have := (rd_ended (s := sAt ins k) hf he).2.1
          unfold insE at hE
          rw [this] at hE
          cases hE
      have hc : refLines (sAt ins k) = ⟨(cutS [] (sAt ins k).bs).1, false, (sAt ins k).code, (sAt ins k).stage, (sAt ins k).id⟩ := by
        unfold refLines
        rw [if_neg (by show ¬ failedS (sAt ins k) = true; rw [hf]; decide), if_neg (by rw [he]; decide)]
      rw [goDen_wait hf]
      refine .inr (.inr ⟨rfl, rfl, k, rfl, hk, ?_, ?_, ?_⟩)
      · rw [hc, sAt_get hk]
      · rw [hc, sAt_get hk]
      · rw [hc, sAt_get hk]

theorem sAt_grow {a b : List Strm} (hl : a.length = b.length) (hg : ∀ p ∈ a.zip b, Grow p.1 p.2) (j : Nat) (hj : j < a.length) : Grow (sAt a j) (sAt b j) := by
  rw [sAt_get hj, sAt_get (by omega)]
  refine hg (a[j], b[j]'(by omega)) ?_
  rw [List.mem_iff_getElem]
  exact ⟨j, by simp; omega, by simp⟩

theorem paste_grow (by_ : Bs) (a b : List Strm) (hl : a.length = b.length) (hg : ∀ p ∈ a.zip b, Grow p.1 p.2) : GrowOk (pasteDen by_ a) (pasteDen by_ b) := by
  have hx : Ext a.length (insT a) (insT b) (insE a) (insE b) := fun j hj => rd_grow (sAt_grow hl hg j hj)
  have h1 := pgo_ext by_ a.length hx _ _ (insT_le a) (by rw [hl]; exact insT_le b) (FU (bytesOf a) a.length) (FU (bytesOf b) a.length) 0 0 (by omega) (fun j hj => by omega) (enough_FU _ _ 0 0) (enough_FU _ _ 0 0)
  have hd := pasteGo_dec by_ a
  have hb : pasteGo by_ b = pgo by_ a.length (insT b) (insE b) (FU (bytesOf b) a.length) 0 0 := by unfold pasteGo; rw [hl]
  have ha : pgo by_ a.length (insT a) (insE a) (FU (bytesOf a) a.length) 0 0 = pasteGo by_ a := rfl
  rw [ha, ← hb] at h1
  unfold pasteDen
  generalize pasteGo by_ a = x at *
  obtain ⟨rows, r, k, ov⟩ := x
  dsimp only at *
  cases ov with
  | true =>
    rw [if_pos rfl] at h1
    rw [h1]
    exact ⟨fun i _ => ⟨List.prefix_refl _, fun _ => rfl⟩, fun _ => ⟨rfl, rfl⟩⟩
  | false =>
    rw [if_neg (by decide)] at h1
    obtain ⟨hk, hT, hE⟩ := hd rfl
    cases hf : failedS (sAt a k) with
    | true =>
      have hgk := sAt_grow hl hg k hk
      have hfb : failedS (sAt b k) = true ∧ rdT (sAt b k) = rdT (sAt a k) ∧ rdE (sAt b k) = false := by
        have hf' : (cutS [] (sAt a k).bs).2.2 = true := hf
        cases he : (sAt a k).ended with
        | true => rw [hgk.1 he]; exact ⟨hf, rfl, (rd_fail hf').2⟩
        | false =>
          obtain ⟨m, hm⟩ := hgk.2
          have hc := cutS_append (sAt a k).bs [] m
          rw [hm, if_pos hf'] at hc
          have h2 : (cutS [] (sAt b k).bs).2.2 = true := by rw [hc]; exact hf'
          refine ⟨h2, ?_, (rd_fail h2).2⟩
          rw [(rd_fail h2).1, (rd_fail hf').1, hc]
      have hst := pgo_stop by_ a.length (insT b) (insE b) (bytesOf b) r k hk (by show (rdT (sAt b k)).length ≤ r; rw [hfb.2.1]; exact hT) hfb.2.2
      unfold FU at hst
      rw [hst] at h1
      dsimp only at h1
      rw [List.append_nil] at h1
      rw [h1, goDen_fail hf, goDen_fail hfb.1]
      exact ⟨fun i _ => ⟨List.prefix_refl _, fun _ => rfl⟩, fun _ => ⟨rfl, rfl⟩⟩
    | false =>
      have hneed : (goDen a (rows, r, k, false)).need = k := by
        rw [goDen_wait hf]
      refine ⟨fun i _ => ⟨?_, fun h => ?_⟩, fun h => ?_⟩
      · rw [h1]
        show outs0 (joinS rows) i <+: outs0 (joinS (rows ++ _)) i
        rw [joinS_append]
        unfold outs0
        split
        · exact List.prefix_append _ _
        · exact List.prefix_refl _
      · rw [hneed] at h; omega
      · rw [hneed] at h; omega
end Go.Proofs.Ytkgmbomfkdkofaa
