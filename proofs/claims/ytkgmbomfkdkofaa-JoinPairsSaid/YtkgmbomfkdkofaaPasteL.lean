/- paste: Drive comes to what comes of its inputs. -/
import Derived.Test.YtkgmbomfkdkofaaPasteR
namespace Go.Proofs.Ytkgmbomfkdkofaa

theorem PaMid.dec {by_ : Bs} {ins : List Strm} {d : DS PaS} {r k : Nat} {out : List Bs} (h : PaMid by_ ins d r k out) :
    k < ins.length ∧ (pT ins d.taken d.told k).length = r ∧ pE ins d.taken d.told k = false ∧ (∀ j, j < k → r < (pT ins d.taken d.told j).length ∨ pE ins d.taken d.told j = true) := by
  have h1 := pgo_dec by_ ins.length (pT ins d.taken d.told) (pE ins d.taken d.told) _ (pT_le ins d.taken d.told) _ 0 0 (by omega) (enough_FU _ _ 0 0) (fun i j hi _ => by omega) (fun j hj => by omega)
  rw [h.go] at h1
  dsimp only at h1
  obtain ⟨_, h2, h3, h4, _⟩ := h1
  obtain ⟨hk, hl, he⟩ := h4 rfl
  refine ⟨hk, Nat.le_antisymm hl ?_, he, h3⟩
  rcases Nat.lt_or_ge (pT ins d.taken d.told k).length r with hc | hc
  · rcases h2 _ k hc hk with h5 | h5
    · omega
    · rw [he] at h5; cases h5
  · exact hc

/-- From any place on, with more lines. -/
theorem PaMid.ext {by_ : Bs} {ins : List Strm} {d : DS PaS} {r k : Nat} {out : List Bs} (h : PaMid by_ ins d r k out) {T' : Nat → List Bs} {E' : Nat → Bool} (hx : Ext ins.length (pT ins d.taken d.told) T' (pE ins d.taken d.told) E') (hM : ∀ j, j < ins.length → (T' j).length ≤ bytesOf ins) :
    pgo by_ ins.length T' E' (FU (bytesOf ins) ins.length) 0 0 = (out ++ (pgo by_ ins.length T' E' (FU (bytesOf ins) ins.length) r k).1, (pgo by_ ins.length T' E' (FU (bytesOf ins) ins.length) r k).2) := by
  have h1 := pgo_ext by_ ins.length hx _ _ (pT_le ins d.taken d.told) hM (FU (bytesOf ins) ins.length) (FU (bytesOf ins) ins.length) 0 0 (by omega) (fun j hj => by omega) (enough_FU _ _ 0 0) (enough_FU _ _ 0 0)
  rw [h.go, if_neg (by simp)] at h1
  exact h1

def workOf (ins : List Strm) (d : DS PaS) : Nat := sumR ins.length fun j => ((sAt ins j).bs.length - d.taken j) + (if d.told j = true then 0 else 1)

/-- A round that hands over a piece, or the end. -/
theorem pa_round (by_ : Bs) (hby : by_.length ≤ 1) (ins : List Strm) (h4 : ins.length ≤ 4) (d : DS PaS) (r k : Nat) (out : List Bs) (h : PaMid by_ ins d r k out) (tk : Nat → Nat) (td : Nat → Bool) (b : Bs) (new : List Bs) (e : Bool)
    (hle : ∀ j, j < ins.length → tk j ≤ (sAt ins j).bs.length) (htd : ∀ j, j < ins.length → td j = true → (sAt ins j).ended = true ∧ tk j = (sAt ins j).bs.length)
    (hnf : ∀ j, j < ins.length → (cutS [] ((sAt ins j).bs.take (tk j))).2.2 = false) (hT : pT ins tk td = upd (pT ins d.taken d.told) k (pT ins d.taken d.told k ++ new)) (hE : pE ins tk td = upd (pE ins d.taken d.told) k e) (hB : pB ins tk td = upd (pB ins d.taken d.told) k b)
    (hg : Grow (prt (sAt ins k) (d.taken k) (d.told k)) (prt (sAt ins k) (tk k) (td k))) (hb : b.length + lens new ≤ 96 ∧ new.length ≤ 32) :
    ∃ rows r' k' ov, (paAll (d.st.setQ k ⟨b, new, e⟩)).1 = rows ∧ OkOuts (tellS 0 rows) ∧
      (let s' := (paAll (d.st.setQ k ⟨b, new, e⟩)).2
       ∀ d' : DS PaS, d'.st = s' → d'.outs = outs0 (joinS (out ++ rows)) → d'.need = pasteM.need s' → d'.err = 0 → d'.bad = false → d'.held = max d.held (pasteM.held s') → d'.taken = tk → d'.told = td →
         (ov = false ∧ PaMid by_ ins d' r' k' (out ++ rows)) ∨ DEnd pasteM (pasteDen by_ ins) ((ins.length * 96 : Nat) : Int) d' ∧ d'.need = -1) := by
  obtain ⟨hk, hr, he, hdec⟩ := h.dec
  have hs1 := h.at_.more hk b new e hr
  have hux : ∀ j, j ≠ k → pT ins tk td j = pT ins d.taken d.told j ∧ pE ins tk td j = pE ins d.taken d.told j ∧ pB ins tk td j = pB ins d.taken d.told j := fun j hj => by
    rw [hT, hE, hB]; unfold upd; simp [hj]
  rw [← hT, ← hE, ← hB] at hs1
  have hbk : pB ins tk td k = b ∧ pT ins tk td k = pT ins d.taken d.told k ++ new := by rw [hT, hB]; unfold upd; simp
  have hbnd : ∀ j, j < ins.length → (pB ins tk td j).length + lens ((pT ins tk td j).drop r) ≤ 96 ∧ ((pT ins tk td j).drop r).length ≤ 32 := fun j hj => by
    by_cases hjk : j = k
    · subst hjk
      rw [hbk.1, hbk.2, List.drop_append, hr, Nat.sub_self, List.drop_eq_nil_of_le (by omega)]
      exact hb
    · rw [(hux j hjk).1, (hux j hjk).2.2]; exact h.bnd j hj
  have hx : Ext ins.length (pT ins d.taken d.told) (pT ins tk td) (pE ins d.taken d.told) (pE ins tk td) := fun j hj => by
    by_cases hjk : j = k
    · subst hjk; exact rd_grow hg
    · rw [(hux j hjk).1, (hux j hjk).2.1]; exact ⟨List.prefix_refl _, fun h => ⟨rfl, h⟩⟩
  obtain ⟨rows, r', k', ov, e1, e2, e3, e4, e5, e6, e7⟩ := pa_rows by_ hby ins h4 _ _ _ (pT_le ins tk td) r k hk _ hs1 hbnd
  have hgo := h.ext hx (pT_le ins tk td)
  rw [e1] at hgo
  dsimp only at hgo
  refine ⟨rows, r', k', ov, e2, e5, ?_⟩
  intro s' d' a1 a2 a3 a4 a5 a6 a7 a8
  have hheld : d'.held ≤ ((ins.length * 96 : Nat) : Int) := by rw [a6]; have := h.held; exact Int.max_le.2 ⟨this, e6⟩
  cases ov with
  | false =>
    refine .inl ⟨rfl, ?_⟩
    have hnd : d'.need = (k' : Int) := by
      rw [a3]
      show (if s'.over = true then (-1 : Int) else s'.at_) = _
      rw [e3.over, if_neg (by decide), e4 rfl]
    refine ⟨?_, ?_, ?_, ?_, ?_, ?_, a2, hnd, a4, a5, hheld, ?_⟩
    · rw [a7]; exact hle
    · rw [a7, a8]; exact htd
    · rw [a7]; exact hnf
    · rw [a7, a8]; exact hgo
    · rw [a1, a7, a8]; exact e3
    · rw [a1]; exact e4 rfl
    · rw [a7, a8]; exact e7
  | true =>
    refine .inr ?_
    have hfull := pgo_ext by_ ins.length (pT_ext ins tk td) _ _ (pT_le ins tk td) (insT_le ins) (FU (bytesOf ins) ins.length) (FU (bytesOf ins) ins.length) 0 0 (by omega) (fun j hj => by omega) (enough_FU _ _ 0 0) (enough_FU _ _ 0 0)
    rw [hgo] at hfull
    rw [if_pos rfl] at hfull
    have hden : pasteDen by_ ins = ⟨outs0 (joinS (out ++ rows)), -1, 0⟩ := by
      unfold pasteDen pasteGo
      rw [hfull]
      rfl
    have hnd : d'.need = -1 := by
      rw [a3]
      show (if s'.over = true then (-1 : Int) else s'.at_) = _
      rw [e3.over]; rfl
    refine ⟨⟨?_, ?_, ?_, a5, hheld, ?_⟩, hnd⟩
    · rw [hden, a2]
    · rw [hden, hnd]
    · rw [hden, a4]
    · rw [a1]; show (0 : Int) ≤ ((_ : Nat) : Int); omega

theorem paste_loop (by_ : Bs) (hby : by_.length ≤ 1) (ins : List Strm) (h4 : ins.length ≤ 4) (cuts : List Int) : ∀ (f n : Nat) (d : DS PaS) (r k : Nat) (out : List Bs), PaMid by_ ins d r k out → workOf ins d + 1 ≤ f →
    DEnd pasteM (pasteDen by_ ins) ((ins.length * 96 : Nat) : Int) (dloop pasteM ins cuts f n d) := by
  intro f
  induction f with
  | zero => intro n d r k out h hf; omega
  | succ f ih =>
    intro n d r k out h hf
    obtain ⟨hk, hr, he, hdec⟩ := h.dec
    have hne : d.need ≠ -1 := by rw [h.need]; omega
    have hst0 := dstep_in pasteM ins cuts n d h.need hk (by omega)
    have hs : ins[k] = sAt ins k := (sAt_get hk).symm
    rw [hs] at hst0
    have hcut := cutN_bd cuts n
    have hnfk := h.nf k hk
    have htdk : d.told k = false := by
      cases ht : d.told k with
      | false => rfl
      | true =>
        obtain ⟨h1, h2⟩ := h.told k hk ht
        rw [h2, List.take_length] at hnfk
        unfold pE at he
        rw [ht] at he
        have := (rd_ended (s := sAt ins k) hnfk h1).2.1
        rw [show prt (sAt ins k) (d.taken k) true = sAt ins k from rfl, this] at he
        cases he
    have hpk : prt (sAt ins k) (d.taken k) (d.told k) = ⟨(sAt ins k).bs.take (d.taken k), false, (sAt ins k).code, (sAt ins k).stage, (sAt ins k).id⟩ := by rw [htdk]; rfl
    have hop : rdT (prt (sAt ins k) (d.taken k) (d.told k)) = (cutS [] ((sAt ins k).bs.take (d.taken k))).1 ∧ rdE (prt (sAt ins k) (d.taken k) (d.told k)) = false ∧ rdB (prt (sAt ins k) (d.taken k) (d.told k)) = (cutS [] ((sAt ins k).bs.take (d.taken k))).2.1 := by
      rw [hpk]
      exact rd_open (s := ⟨(sAt ins k).bs.take (d.taken k), false, (sAt ins k).code, (sAt ins k).stage, (sAt ins k).id⟩) hnfk rfl
    have hq := h.at_.q k hk
    rw [if_neg (by omega), List.drop_eq_nil_of_le (by omega), he] at hq
    have hBk : pB ins d.taken d.told k = (cutS [] ((sAt ins k).bs.take (d.taken k))).2.1 := hop.2.2
    have hTk : pT ins d.taken d.told k = (cutS [] ((sAt ins k).bs.take (d.taken k))).1 := hop.1
    rw [hBk] at hq
    replace hq : d.st.qs[d.st.at_]? = some ⟨(cutS [] ((sAt ins k).bs.take (d.taken k))).2.1, [], false⟩ := by rw [h.sat]; exact hq
    have hov : ¬ d.st.over = true := by rw [h.at_.over]; decide
    have hbl := (cutS_len ((sAt ins k).bs.take (d.taken k)) [] (by simp)).1
    have hwork : ∀ (tk : Nat → Nat) (td : Nat → Bool), (∀ j, j ≠ k → tk j = d.taken j ∧ td j = d.told j) → ((sAt ins k).bs.length - tk k) + (if td k = true then 0 else 1) < ((sAt ins k).bs.length - d.taken k) + (if d.told k = true then 0 else 1) →
        ∀ d' : DS PaS, d'.taken = tk → d'.told = td → workOf ins d' + 1 ≤ f := fun tk td h1 h2 d' a b => by
      have := sumR_lt ins.length k (fun j => ((sAt ins j).bs.length - tk j) + (if td j = true then 0 else 1)) (fun j => ((sAt ins j).bs.length - d.taken j) + (if d.told j = true then 0 else 1)) hk (fun j _ hj => by rw [(h1 j hj).1, (h1 j hj).2]; exact Nat.le_refl _) h2
      unfold workOf at hf ⊢
      rw [a, b]
      omega
    by_cases hb : d.taken k < (sAt ins k).bs.length
    · rw [if_pos hb] at hst0
      have hch : (((sAt ins k).bs.take (min (sAt ins k).bs.length (d.taken k + cutN cuts n))).drop (d.taken k)).length = min (sAt ins k).bs.length (d.taken k + cutN cuts n) - d.taken k := by simp
      have hsp := take_split (sAt ins k).bs (d.taken k) (min (sAt ins k).bs.length (d.taken k + cutN cuts n)) (by omega)
      have hto1 : d.taken k < min (sAt ins k).bs.length (d.taken k + cutN cuts n) := by omega
      have hto2 : min (sAt ins k).bs.length (d.taken k + cutN cuts n) ≤ (sAt ins k).bs.length := by omega
      have hto3 : min (sAt ins k).bs.length (d.taken k + cutN cuts n) ≤ d.taken k + 32 := by omega
      generalize min (sAt ins k).bs.length (d.taken k + cutN cuts n) = to at *
      generalize hcc : ((sAt ins k).bs.take to).drop (d.taken k) = ch at *
      have hca := cutS_append ((sAt ins k).bs.take (d.taken k)) [] ch
      rw [← hsp, if_neg (by rw [hnfk]; decide)] at hca
      have hsum := cutS_sum ch (cutS [] ((sAt ins k).bs.take (d.taken k))).2.1
      have hcnt := cutS_count ch (cutS [] ((sAt ins k).bs.take (d.taken k))).2.1
      have hsat : (k : Int) = d.st.at_ := by rw [h.sat]
      cases hf2 : (cutS (cutS [] ((sAt ins k).bs.take (d.taken k))).2.1 ch).2.2 with
      | true =>
        have hnone := cutS_fail_none ch _ (by omega) hf2
        have hfeed : pasteM.feed d.st (k : Int) ch = ([], 20, ((d.st.setQ k ⟨(cutS (cutS [] ((sAt ins k).bs.take (d.taken k))).2.1 ch).2.1, (cutS (cutS [] ((sAt ins k).bs.take (d.taken k))).2.1 ch).1, false⟩).stop)) := by
          show paFeed d.st (k : Int) ch = _
          unfold paFeed
          rw [if_neg hov, if_neg (by rw [hsat]; simp), if_neg (by omega), hq]
          dsimp only
          rw [if_pos hf2, ← h.sat]
          rfl
        rw [hfeed] at hst0
        rw [dloop_go h.err hne hst0, DS.put_ok (σ := pasteM.σ) _ _ ⟨by simp, fun o ho => by cases ho⟩]
        rw [dloop_end (M := pasteM) (.inr rfl)]
        have hbeg := cutS_failed ch _ hf2
        rw [hnone, hbeg]
        have hmore := h.at_.more hk [] [] false hr
        have hheld := pa_held (ov := true) (s := ((d.st.setQ k ⟨[], [], false⟩).stop)) (B := upd (pB ins d.taken d.told) k []) (T := upd (pT ins d.taken d.told) k (pT ins d.taken d.told k ++ [])) ⟨hmore.by_, hmore.len, hmore.q, hmore.row, hmore.any, rfl⟩ (by omega) 96 (fun j hj => by
          have := h.bnd j hj
          unfold upd
          by_cases hjk : j = k
          · subst hjk; simp [List.drop_eq_nil_of_le (Nat.le_of_eq hr), lens]
          · simp only [if_neg hjk]; exact this.1)
        have hfull : (cutS [] (sAt ins k).bs).2.2 = true ∧ (cutS [] (sAt ins k).bs).1 = (cutS [] ((sAt ins k).bs.take (d.taken k))).1 := by
          have h2 := cutS_append ((sAt ins k).bs.take to) [] ((sAt ins k).bs.drop to)
          rw [List.take_append_drop, if_pos (by rw [hca]; exact hf2)] at h2
          rw [h2, hca, hnone]
          exact ⟨hf2, by simp⟩
        have hrf := rd_fail hfull.1
        have hgo := h.ext (pT_ext ins d.taken d.told) (insT_le ins)
        rw [pgo_stop by_ ins.length (insT ins) (insE ins) _ r k hk (by
          show (rdT (sAt ins k)).length ≤ r
          rw [hrf.1, hfull.2, ← hTk, hr]; exact Nat.le_refl _) hrf.2] at hgo
        dsimp only at hgo
        rw [List.append_nil] at hgo
        have hden : pasteDen by_ ins = ⟨outs0 (joinS out), -1, 20⟩ := by
          unfold pasteDen pasteGo
          rw [hgo]
          unfold goDen failedS
          dsimp only
          rw [if_neg (by decide), if_pos hfull.1, if_neg (by decide), if_pos hfull.1]
        refine ⟨?_, ?_, ?_, h.bad, ?_, ?_⟩
        · rw [hden]
          show collect d.outs [] = _
          rw [collect_nil, h.outs]
        · rw [hden]; rfl
        · rw [hden]; rfl
        · exact Int.max_le.2 ⟨h.held, Int.ofNat_le.2 hheld⟩
        · show (0 : Int) ≤ ((_ : Nat) : Int); omega
      | false =>
        have hfeed : pasteM.feed d.st (k : Int) ch = (tellS 0 (paAll (d.st.setQ k ⟨(cutS (cutS [] ((sAt ins k).bs.take (d.taken k))).2.1 ch).2.1, (cutS (cutS [] ((sAt ins k).bs.take (d.taken k))).2.1 ch).1, false⟩)).1, 0,
            (paAll (d.st.setQ k ⟨(cutS (cutS [] ((sAt ins k).bs.take (d.taken k))).2.1 ch).2.1, (cutS (cutS [] ((sAt ins k).bs.take (d.taken k))).2.1 ch).1, false⟩)).2) := by
          show paFeed d.st (k : Int) ch = _
          unfold paFeed
          rw [if_neg hov, if_neg (by rw [hsat]; simp), if_neg (by omega), hq]
          dsimp only
          rw [if_neg (by rw [hf2]; decide), ← h.sat]
          rfl
        rw [hfeed] at hst0
        have hnfto : (cutS [] ((sAt ins k).bs.take to)).2.2 = false := by rw [hca]; exact hf2
        have hprt : prt (sAt ins k) (upd d.taken k to k) (d.told k) = ⟨(sAt ins k).bs.take to, false, (sAt ins k).code, (sAt ins k).stage, (sAt ins k).id⟩ := by rw [htdk]; unfold upd; rw [if_pos rfl]; rfl
        have hop2 : rdT (prt (sAt ins k) (upd d.taken k to k) (d.told k)) = (cutS [] ((sAt ins k).bs.take to)).1 ∧ rdE (prt (sAt ins k) (upd d.taken k to k) (d.told k)) = false ∧ rdB (prt (sAt ins k) (upd d.taken k to k) (d.told k)) = (cutS [] ((sAt ins k).bs.take to)).2.1 := by
          rw [hprt]
          exact rd_open (s := ⟨(sAt ins k).bs.take to, false, (sAt ins k).code, (sAt ins k).stage, (sAt ins k).id⟩) hnfto rfl
        rw [hca] at hop2
        have hot : ∀ j, j ≠ k → upd d.taken k to j = d.taken j := fun j hj => by unfold upd; rw [if_neg hj]
        obtain ⟨rows, r', k', ov, e1, e2, e3⟩ := pa_round by_ hby ins h4 d r k out h (upd d.taken k to) d.told (cutS (cutS [] ((sAt ins k).bs.take (d.taken k))).2.1 ch).2.1 (cutS (cutS [] ((sAt ins k).bs.take (d.taken k))).2.1 ch).1 false
          (fun j hj => by by_cases hjk : j = k
                          · subst hjk; unfold upd; rw [if_pos rfl]; exact hto2
                          · rw [hot j hjk]; exact h.le j hj)
          (fun j hj ht => by have hjk : j ≠ k := fun e => by rw [e, htdk] at ht; cases ht
                             rw [hot j hjk]; exact h.told j hj ht)
          (fun j hj => by by_cases hjk : j = k
                          · subst hjk; unfold upd; rw [if_pos rfl]; exact hnfto
                          · rw [hot j hjk]; exact h.nf j hj)
          (by funext j
              by_cases hjk : j = k
              · subst hjk
                show _ = (if j = j then pT ins d.taken d.told j ++ _ else _)
                rw [if_pos rfl, hTk]; exact hop2.1
              · unfold pT; rw [hot j hjk]; unfold upd; rw [if_neg hjk])
          (by funext j
              by_cases hjk : j = k
              · subst hjk
                show _ = (if j = j then false else _)
                rw [if_pos rfl]; exact hop2.2.1
              · unfold pE; rw [hot j hjk]; unfold upd; rw [if_neg hjk])
          (by funext j
              by_cases hjk : j = k
              · subst hjk
                show _ = (if j = j then _ else _)
                rw [if_pos rfl]; exact hop2.2.2
              · unfold pB; rw [hot j hjk]; unfold upd; rw [if_neg hjk])
          (by have : upd d.taken k to k = to := by unfold upd; rw [if_pos rfl]
              rw [this, htdk]; exact prt_more _ (by omega) false)
          ⟨by unfold lens; omega, by omega⟩
        rw [e1] at hst0
        rw [dloop_go h.err hne hst0, DS.put_ok (σ := pasteM.σ) _ _ e2]
        rcases e3 ⟨_, collect d.outs (tellS 0 rows), _, 0, _, upd d.taken k to, d.bad, d.told⟩ rfl (by dsimp only; rw [h.outs, collect_tell, joinS_append]) rfl rfl h.bad rfl rfl rfl with ⟨_, hm⟩ | ⟨hend, hneed⟩
        · refine ih _ _ r' k' _ hm (hwork (upd d.taken k to) d.told (fun j hj => ⟨hot j hj, rfl⟩) ?_ _ rfl rfl)
          have : upd d.taken k to k = to := by unfold upd; rw [if_pos rfl]
          rw [this]
          omega
        · have hz := dloop_end (M := pasteM) (ins := ins) (cuts := cuts) (f := f) (n := n + 1) (.inr hneed)
          rw [← hz] at hend
          exact hend
    · have htk : d.taken k = (sAt ins k).bs.length := by have := h.le k hk; omega
      have hall : (sAt ins k).bs.take (d.taken k) = (sAt ins k).bs := by rw [htk, List.take_length]
      rw [if_neg hb] at hst0
      rw [hall] at hnfk hBk hTk hq hbl
      cases hend : (sAt ins k).ended with
      | false =>
        rw [if_neg (by rw [hend]; simp)] at hst0
        rw [dloop_stop h.err hne hst0]
        have hop3 := rd_open hnfk hend
        have hgo := h.ext (pT_ext ins d.taken d.told) (insT_le ins)
        rw [pgo_stop by_ ins.length (insT ins) (insE ins) _ r k hk (by
          show (rdT (sAt ins k)).length ≤ r
          rw [hop3.1, ← hTk, hr]; exact Nat.le_refl _) hop3.2.1] at hgo
        dsimp only at hgo
        rw [List.append_nil] at hgo
        have hden : pasteDen by_ ins = ⟨outs0 (joinS out), k, 0⟩ := by
          unfold pasteDen pasteGo
          rw [hgo]
          unfold goDen failedS
          dsimp only
          rw [if_neg (by decide), if_neg (by rw [hnfk]; decide), if_neg (by decide), if_neg (by rw [hnfk]; decide)]
        exact ⟨by rw [hden]; exact h.outs, by rw [hden]; exact h.need, by rw [hden]; exact h.err, h.bad, h.held, by show (0 : Int) ≤ ((_ : Nat) : Int); omega⟩
      | true =>
        rw [if_pos ⟨hend, htdk⟩] at hst0
        have hfin : pasteM.fin d.st (k : Int) = (tellS 0 (paAll (d.st.setQ k ⟨[], (if (cutS [] (sAt ins k).bs).2.1 = [] then [] else [(cutS [] (sAt ins k).bs).2.1]), true⟩)).1, 0,
            (paAll (d.st.setQ k ⟨[], (if (cutS [] (sAt ins k).bs).2.1 = [] then [] else [(cutS [] (sAt ins k).bs).2.1]), true⟩)).2) := by
          show paFin d.st (k : Int) = _
          unfold paFin
          rw [if_neg hov, if_neg (by rw [h.sat]; simp), hq, ← h.sat]
          rfl
        rw [hfin] at hst0
        have hed := rd_ended hnfk hend
        have hot : ∀ j, j ≠ k → upd d.told k true j = d.told j := fun j hj => by unfold upd; rw [if_neg hj]
        have hprt : ∀ t, prt (sAt ins k) t (upd d.told k true k) = sAt ins k := fun t => by unfold upd; rw [if_pos rfl]; rfl
        obtain ⟨rows, r', k', ov, e1, e2, e3⟩ := pa_round by_ hby ins h4 d r k out h d.taken (upd d.told k true) [] (if (cutS [] (sAt ins k).bs).2.1 = [] then [] else [(cutS [] (sAt ins k).bs).2.1]) true
          h.le
          (fun j hj ht => by by_cases hjk : j = k
                             · subst hjk; exact ⟨hend, htk⟩
                             · rw [hot j hjk] at ht; exact h.told j hj ht)
          h.nf
          (by funext j
              by_cases hjk : j = k
              · subst hjk
                show rdT (prt (sAt ins j) (d.taken j) (upd d.told j true j)) = (if j = j then pT ins d.taken d.told j ++ _ else _)
                rw [hprt, if_pos rfl, hTk]; exact hed.1
              · unfold pT; rw [hot j hjk]; unfold upd; rw [if_neg hjk])
          (by funext j
              by_cases hjk : j = k
              · subst hjk
                show rdE (prt (sAt ins j) (d.taken j) (upd d.told j true j)) = (if j = j then true else _)
                rw [hprt, if_pos rfl]; exact hed.2.1
              · unfold pE; rw [hot j hjk]; unfold upd; rw [if_neg hjk])
          (by funext j
              by_cases hjk : j = k
              · subst hjk
                show rdB (prt (sAt ins j) (d.taken j) (upd d.told j true j)) = (if j = j then [] else _)
                rw [hprt, if_pos rfl]; exact hed.2.2
              · unfold pB; rw [hot j hjk]; unfold upd; rw [if_neg hjk])
          (by rw [hprt]; exact prt_grow _ _ _)
          (by split
              · simp [lens]
              · simp [lens]; omega)
        rw [e1] at hst0
        rw [dloop_go h.err hne hst0, DS.put_ok (σ := pasteM.σ) _ _ e2]
        rcases e3 ⟨_, collect d.outs (tellS 0 rows), _, 0, _, d.taken, d.bad, upd d.told k true⟩ rfl (by dsimp only; rw [h.outs, collect_tell, joinS_append]) rfl rfl h.bad rfl rfl rfl with ⟨_, hm⟩ | ⟨hend, hneed⟩
        · refine ih _ _ r' k' _ hm (hwork d.taken (upd d.told k true) (fun j hj => ⟨rfl, hot j hj⟩) ?_ _ rfl rfl)
          have : upd d.told k true k = true := by unfold upd; rw [if_pos rfl]
          rw [this, htdk]
          simp
        · have hz := dloop_end (M := pasteM) (ins := ins) (cuts := cuts) (f := f) (n := n + 1) (.inr hneed)
          rw [← hz] at hend
          exact hend

def paste0 (by_ : Bs) (n : Nat) : PaS := ⟨by_, 0, false, List.replicate n ⟨[], [], false⟩, [], false⟩

theorem paste_drive (by_ : Bs) (hby : by_.length ≤ 1) (ins : List Strm) (h1 : 1 ≤ ins.length) (h4 : ins.length ≤ 4) (hl : ∀ s ∈ ins, s.bs.length ≤ 10000) (cuts : List Int) :
    DEnd pasteM (pasteDen by_ ins) ((ins.length * 96 : Nat) : Int) (drive pasteM (paste0 by_ ins.length) ins cuts) := by
  have hT : ∀ j, pT ins (fun _ => 0) (fun _ => false) j = [] ∧ pE ins (fun _ => 0) (fun _ => false) j = false ∧ pB ins (fun _ => 0) (fun _ => false) j = [] := fun j => by
    have := rd_open (s := prt (sAt ins j) 0 false) (by simp [prt, cutS]) rfl
    exact ⟨this.1.trans (by simp [prt, cutS]), this.2.1, this.2.2.trans (by simp [prt, cutS])⟩
  refine paste_loop by_ hby ins h4 cuts 100000 0 (dinit pasteM (paste0 by_ ins.length)) 0 0 [] ⟨(fun j _ => Nat.zero_le _), (fun j _ h => by cases h), (fun j _ => by show (cutS [] (List.take 0 _)).2.2 = false; rfl), ?_, ⟨rfl, by simp [paste0, dinit], (fun j hj => ?_), rfl, rfl, rfl⟩, rfl, ?_, rfl, rfl, rfl, ?_, (fun j hj => ?_)⟩ ?_
  · exact pgo_stop by_ ins.length _ _ _ 0 0 (by omega) (by show (pT ins (fun _ => 0) (fun _ => false) 0).length ≤ 0; rw [(hT 0).1]; exact Nat.le_refl _) (hT 0).2.1
  · show (List.replicate ins.length (⟨[], [], false⟩ : PQ))[j]? = some ⟨pB ins (fun _ => 0) (fun _ => false) j, (pT ins (fun _ => 0) (fun _ => false) j).drop _, pE ins (fun _ => 0) (fun _ => false) j⟩
    rw [(hT j).1, (hT j).2.1, (hT j).2.2, List.getElem?_replicate, if_pos hj, List.drop_nil]
  · funext j
    show ([] : Bs) = outs0 (joinS []) j
    unfold outs0 joinS
    simp
  · show (0 : Int) ≤ _
    omega
  · show (pB ins (fun _ => 0) (fun _ => false) j).length + lens ((pT ins (fun _ => 0) (fun _ => false) j).drop 0) ≤ 96 ∧ _
    have e : pT ins (dinit pasteM (paste0 by_ ins.length)).taken (dinit pasteM (paste0 by_ ins.length)).told j = [] := (hT j).1
    rw [(hT j).1, (hT j).2.2, e]
    simp [lens]
  · have : workOf ins (dinit pasteM (paste0 by_ ins.length)) ≤ ins.length * 10001 := by
      unfold workOf
      rw [← sumR_const]
      refine sumR_le _ _ _ fun j hj => ?_
      have := hl _ (List.getElem_mem hj)
      rw [sAt_get hj]
      show _ - 0 + (if false = true then 0 else 1) ≤ _
      simp
      omega
    have : ins.length * 10001 ≤ 4 * 10001 := Nat.mul_le_mul_right _ h4
    omega
end Go.Proofs.Ytkgmbomfkdkofaa
