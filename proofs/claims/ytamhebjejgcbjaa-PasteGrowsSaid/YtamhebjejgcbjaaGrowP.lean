/- Streams in memory of their own that are made longer. -/
import Derived.Test.YtamhebjejgcbjaaCopy
import Derived.Test.YtamhebjejgcbjaaSame
import Derived.Test.YtamhebjejgcbjaaReady
namespace Go.Proofs.Ytamhebjejgcbjaa
open Go Go.RowKit

/-- What the laws make of the i-th input. -/
def growS (more : List Bs) (ends : List Bool) (i : Nat) (s : Strm) : Strm :=
  if s.ended = true ∨ s.code ≠ 0 then s else ⟨s.bs ++ more.getD i [], ends.getD i false, s.code, s.stage, s.id⟩
def mix (more : List Bs) (ends : List Bool) (ins : List Strm) (k : Nat) : List Strm := ins.mapIdx fun j s => if j < k then growS more ends j s else s

theorem grow_one (more : List Bs) (ends : List Bool) (i : Nat) (s : Strm) : Grow s (growS more ends i s) := by
  unfold growS
  split
  · exact ⟨fun _ => rfl, List.prefix_refl _⟩
  · next h => exact ⟨fun he => absurd (.inl he) h, List.prefix_append _ _⟩
theorem mix_len (more : List Bs) (ends : List Bool) (ins : List Strm) (k : Nat) : (mix more ends ins k).length = ins.length := by simp [mix]
theorem mix_zero (more : List Bs) (ends : List Bool) (ins : List Strm) : mix more ends ins 0 = ins := by
  unfold mix
  apply List.ext_getElem?
  intro i
  simp
theorem mix_at (more : List Bs) (ends : List Bool) (ins : List Strm) (k : Nat) (hk : k < ins.length) : (mix more ends ins k)[k]? = some ins[k] := by
  simp [mix, hk]
theorem mix_succ (more : List Bs) (ends : List Bool) (ins : List Strm) (k : Nat) (hk : k < ins.length) : mix more ends ins (k + 1) = (mix more ends ins k).set k (growS more ends k ins[k]) := by
  apply List.ext_getElem?
  intro i
  rw [List.getElem?_set]
  by_cases hi : k = i
  · subst hi
    simp [mix, hk]
  · rw [if_neg hi]
    unfold mix
    rw [List.getElem?_mapIdx, List.getElem?_mapIdx]
    rcases ins[i]? with _ | s
    · rfl
    · simp only [Option.map_some]
      congr 1
      by_cases h : i < k
      · rw [if_pos h, if_pos (by omega)]
      · rw [if_neg h, if_neg (by omega)]
theorem mix_grow (more : List Bs) (ends : List Bool) (ins : List Strm) (n : Nat) (hn : ins.length ≤ n) : ∀ q ∈ ins.zip (mix more ends ins n), Grow q.1 q.2 := by
  intro q hq
  obtain ⟨i, hi, e⟩ := List.mem_iff_getElem.1 hq
  simp only [List.length_zip, mix_len, Nat.min_self] at hi
  subst e
  simp only [List.getElem_zip, mix, List.getElem_mapIdx]
  rw [if_pos (by omega)]
  exact grow_one _ _ _ _
theorem mix_bs (more : List Bs) (ends : List Bool) (ins : List Strm) (k m : Nat) (hl : ∀ s ∈ ins, s.bs.length ≤ m) (hm : ∀ i, i < k → i < ins.length → ∀ b, more[i]? = some b → (ins[i]?.all fun s => s.ended || s.code != 0) = false → b.length ≤ 1000) : ∀ s ∈ mix more ends ins k, s.bs.length ≤ m + 1000 := by
  intro s hs
  obtain ⟨i, hi, e⟩ := List.mem_iff_getElem.1 hs
  rw [mix_len] at hi
  subst e
  simp only [mix, List.getElem_mapIdx]
  have hb := hl _ (List.getElem_mem hi)
  split
  · next h =>
    unfold growS
    split
    · omega
    · next h2 =>
      have h3 := hm i h hi
      rw [List.getElem?_eq_getElem hi] at h3
      simp only [List.length_append]
      rcases hmi : more[i]? with _ | b
      · rw [List.getD_eq_getElem?_getD, hmi]; simp; omega
      · have := h3 b hmi (by
          simp only [Option.all_some, Bool.or_eq_false_iff]
          refine ⟨?_, ?_⟩
          · cases hh : (ins[i]).ended
            · rfl
            · exact absurd (.inl hh) h2
          · simp only [bne_eq_false_iff_eq]
            exact Classical.byContradiction fun hc => h2 (.inr hc))
        rw [List.getD_eq_getElem?_getD, hmi]; simp; omega
  · omega

theorem flat_set (its : List (Strm × Value)) : ∀ (k i : Nat) (t t' : Strm × Value) (u : Value), its[k]? = some t → i < 5 → strmC t' = (strmC t).set i u → (its.flatMap strmC).set (k * 5 + i) u = (its.set k t').flatMap strmC := by
  induction its with
  | nil => intro k i t t' u h; simp at h
  | cons a r ih =>
    intro k i t t' u h hi he
    rcases k with _ | k
    · simp only [List.getElem?_cons_zero, Option.some.injEq] at h
      subst h
      rw [List.flatMap_cons, Nat.zero_mul, Nat.zero_add, List.set_append_left _ _ (by simpa [strmC] using hi), List.set_cons_zero, List.flatMap_cons, he]
    · simp only [List.getElem?_cons_succ] at h
      have h5 : (strmC a).length = 5 := rfl
      rw [List.flatMap_cons, List.set_append_right _ _ (by rw [h5]; omega), List.set_cons_succ, List.flatMap_cons, h5, show (k + 1) * 5 + i - 5 = k * 5 + i by omega, ih k i t t' u h hi he]

theorem own_set {w : World} {B g n c size i : Nat} {T : TypeId} {xs : List Value} {u : Value} (h : w.ownsRow B T size (.slice (some ⟨g, 0, none⟩) n c) n xs) (_ : i < n * size) : (w.setCell ⟨g, i, none⟩ u).ownsRow B T size (.slice (some ⟨g, 0, none⟩) n c) n (xs.set i u) := by
  refine ⟨by rw [List.length_set]; exact h.1, ?_⟩
  rcases h.2 with ⟨e, _⟩ | ⟨g', cap, cur, hv, hg, hh, hnc, hcap, hcs, hxs⟩
  · cases e
  · cases hv
    refine .inr ⟨g, c, cur.setIfInBounds i u, rfl, hg, ?_, hnc, hcap, by simpa using hcs, ?_⟩
    · have hb : Blk w g T cur := hh
      exact hb.set i u
    · rw [Array.toList_setIfInBounds, List.take_set, hxs]

theorem LAt.blk {w : World} {B : Nat} {A : Option Addr} {n c : Nat} {its : List (Strm × Value)} (h : LAt w B (.slice A n c) its) {k : Nat} (hk : k < its.length) :
    ∃ G, A = some ⟨G, 0, none⟩ ∧ n = its.length ∧ B ≤ G ∧ G < w.heap.size ∧ (∀ i, w.frozen? ⟨G, i, none⟩ = false) ∧ ∀ i, i < 5 → w.cell? ⟨G, k * 5 + i, none⟩ = (strmC its[k])[i]? := by
  rcases h.row.2 with ⟨e, h0⟩ | ⟨g, cap, cur, hv, hg, hh, hnc, hcap, hcs, hxs⟩
  · omega
  · cases hv
    have hb : Blk w g 58 cur := hh
    refine ⟨g, rfl, rfl, hg, hb.lt, fun i => hb.frozen i, fun i hi => ?_⟩
    rw [hb.cell, ← flat5 its k hk i hi, ← hxs, List.getElem?_take, if_pos (by omega)]
    simp

theorem mix_skip (more : List Bs) (ends : List Bool) (ins : List Strm) (k : Nat) (hk : k < ins.length) (h : growS more ends k ins[k] = ins[k]) : mix more ends ins (k + 1) = mix more ends ins k := by
  rw [mix_succ _ _ _ _ hk, h]
  apply List.ext_getElem?
  intro i
  rw [List.getElem?_set]
  by_cases e : k = i
  · subst e
    rw [if_pos rfl, if_pos (by rw [mix_len]; exact hk), mix_at _ _ _ _ hk]
  · rw [if_neg e]
theorem growS_ended (more : List Bs) (ends : List Bool) (k : Nat) (s : Strm) (h : s.ended = true ∨ s.code ≠ 0) : growS more ends k s = s := if_pos h
theorem growS_more (more : List Bs) (ends : List Bool) (k : Nat) (bs m : Bs) (e : Bool) (st id : Int) (hm : more.getD k [] = m) (he : ends.getD k false = e) : growS more ends k ⟨bs, false, 0, st, id⟩ = ⟨bs ++ m, e, 0, st, id⟩ := by
  unfold growS
  rw [if_neg (by simp), hm, he]

def CopyLPost2 (w : World) (l : List Strm) (e : Ending) (w' : World) : Prop := ∃ A c its, e = .returned (.slice A l.length c) ∧ its.map (fun t => t.1) = l ∧ LAt w' w.heap.size (.slice A l.length c) its ∧ Chg (fun _ => False) w w'
theorem copy_any2 (D : Nat → Prop) (l : List Strm) (A : Option Addr) (c : Nat) (w : World) (h : StrmsAt w D (.slice A l.length c) l) (hll : l.length ≤ 100) (hl : ∀ s ∈ l, s.bs.length ≤ 1000000) :
    Calls Try.prog 31 #[.slice A l.length c] w (CopyLPost2 w l) := by
  refine (copy_any D l A c w h hll hl).mono ?_
  rintro e w' ⟨v, its, rfl, hm, hL, hc⟩
  obtain ⟨A2, c2, rfl, _⟩ := own_rd hL.row
  have hn : its.length = l.length := by rw [← hm]; simp
  rw [hn] at hL ⊢
  exact ⟨A2, c2, its, rfl, hm, hL, hc⟩

/-- One stream is made longer. -/
theorem LAt.upd {w w1 w2 : World} {B G n c k : Nat} {its : List (Strm × Value)} {s s' : Strm} {v v' : Value} (h : LAt w B (.slice (some ⟨G, 0, none⟩) n c) its) (hk : its[k]? = some (s, v))
    (hc : Chg (fun j => v.ownBlock = some j) w w1) (hb : w1.ownsRow B 5 1 v' s'.bs.length (u8s s'.bs)) (hv' : ∀ j, v'.ownBlock = some j → v.ownBlock = some j ∨ w.heap.size ≤ j)
    (hrow : w2.ownsRow B 58 5 (.slice (some ⟨G, 0, none⟩) n c) n ((its.set k (s', v')).flatMap strmC)) (hc2 : Chg (fun j => j = G) w1 w2) : LAt w2 B (.slice (some ⟨G, 0, none⟩) n c) (its.set k (s', v')) := by
  have hkl : k < its.length := (List.getElem?_eq_some_iff.1 hk).1
  have hnl : n = its.length := by
    rcases h.row.2 with ⟨e, h0⟩ | ⟨g, cap, cur, hv, hg, hh, hnc, hcap, hcs, hxs⟩
    · cases e
    · cases hv; rfl
  have hmem : (s, v) ∈ its := List.mem_of_getElem? hk
  have hr1 := ownsRow_chg h.row hc (fun j hj e => own_apart (h.byt _ hmem) h.row ty_ne e hj)
  have hold : ∀ (i : Nat) (a : Strm × Value), (its.set k (s', v'))[i]? = some a → (i = k ∧ a = (s', v')) ∨ (i ≠ k ∧ its[i]? = some a) := fun i a hi => by
    rw [List.getElem?_set] at hi
    by_cases e : k = i
    · rw [if_pos e, if_pos hkl] at hi
      exact .inl ⟨e.symm, (Option.some.inj hi).symm⟩
    · rw [if_neg e] at hi
      exact .inr ⟨fun h => e h.symm, hi⟩
  refine ⟨by rw [List.length_set, ← hnl]; exact hrow, fun t ht => ?_, fun i j a b hi hj hne x hx hx2 => ?_⟩
  · obtain ⟨i, hi⟩ := List.getElem?_of_mem ht
    rcases hold i t hi with ⟨_, rfl⟩ | ⟨hne, hi'⟩
    · exact ownsRow_chg hb hc2 (fun j hj e => own_apart hb hr1 ty_ne hj (by rw [e]; rfl))
    · have hb0 := h.byt t (List.mem_of_getElem? hi')
      have hb1 := ownsRow_chg hb0 hc (fun j hj e => h.apart i k t (s, v) hi' hk hne j hj e)
      exact ownsRow_chg hb1 hc2 (fun j hj e => own_apart hb1 hr1 ty_ne hj (by rw [e]; rfl))
  · rcases hold i a hi with ⟨rfl, rfl⟩ | ⟨hne1, hi'⟩ <;> rcases hold j b hj with ⟨rfl, rfl⟩ | ⟨hne2, hj'⟩
    · exact hne rfl
    · rcases hv' x hx with e | e
      · exact h.apart i j (s, v) b hk hj' hne x e hx2
      · have := ((h.byt b (List.mem_of_getElem? hj')).lt x hx2).2
        omega
    · rcases hv' x hx2 with e | e
      · exact h.apart i j a (s, v) hi' hk hne x hx e
      · have := ((h.byt a (List.mem_of_getElem? hi')).lt x hx).2
        omega
    · exact h.apart i j a b hi' hj' hne x hx hx2

theorem own_frozen {w : World} {B G n c size : Nat} {T : TypeId} {xs : List Value} (h : w.ownsRow B T size (.slice (some ⟨G, 0, none⟩) n c) n xs) (i : Nat) : w.frozen? ⟨G, i, none⟩ = false := by
  rcases h.2 with ⟨e, _⟩ | ⟨g, cap, cur, hv, _, hh, _⟩
  · cases e
  · cases hv
    have hb : Blk w G T cur := hh
    exact hb.frozen i

theorem LAt.n_eq {w : World} {B G n c : Nat} {its : List (Strm × Value)} (h : LAt w B (.slice (some ⟨G, 0, none⟩) n c) its) : n = its.length := by
  rcases h.row.2 with ⟨e, h0⟩ | ⟨g, cap, cur, hv, hg, hh, hnc, hcap, hcs, hxs⟩
  · cases e
  · cases hv; rfl

theorem LAt.longer {wr w1 : World} {B G n c k cv : Nat} {its : List (Strm × Value)} {bs m : Bs} {st id : Int} {Av : Option Addr} {v' : Value} (h : LAt wr B (.slice (some ⟨G, 0, none⟩) n c) its)
    (hk : its[k]? = some (⟨bs, false, 0, st, id⟩, .slice Av bs.length cv)) (hc : Chg (fun j => (Value.slice Av bs.length cv).ownBlock = some j) wr w1)
    (hown : w1.ownsRow B 5 1 v' (bs.length + m.length) (u8s bs ++ u8s m)) (hv1 : v'.ownBlock = (Value.slice Av bs.length cv).ownBlock ∨ v'.ownBlock = some wr.heap.size) (e : Bool) :
    LAt ((w1.setCell ⟨G, k * 5, none⟩ v').setCell ⟨G, k * 5 + 1, none⟩ (.bool e)) B (.slice (some ⟨G, 0, none⟩) n c) (its.set k (⟨bs ++ m, e, 0, st, id⟩, v')) := by
  have hkl : k < its.length := (List.getElem?_eq_some_iff.1 hk).1
  have hnl := h.n_eq
  have hrow := ownsRow_chg h.row hc (fun j hj e => own_apart (h.byt _ (List.mem_of_getElem? hk)) h.row ty_ne e hj)
  have hn2 : ∀ xs, w1.ownsRow B 58 5 (.slice (some ⟨G, 0, none⟩) n c) its.length xs → w1.ownsRow B 58 5 (.slice (some ⟨G, 0, none⟩) n c) n xs := fun xs h => by rw [← hnl] at h; exact h
  have h1 := own_set (i := k * 5) (u := v') (hn2 _ hrow) (by omega)
  have h2 := own_set (i := k * 5 + 1) (u := .bool e) h1 (by omega)
  have f1 := flat_set its k 0 _ (⟨bs ++ m, false, 0, st, id⟩, v') v' hk (by omega) rfl
  have f2 := flat_set (its.set k (⟨bs ++ m, false, 0, st, id⟩, v')) k 1 (⟨bs ++ m, false, 0, st, id⟩, v') (⟨bs ++ m, e, 0, st, id⟩, v') (.bool e) (by rw [List.getElem?_set, if_pos rfl, if_pos hkl]) (by omega) rfl
  rw [Nat.add_zero] at f1
  rw [f1, f2, List.set_set] at h2
  refine h.upd hk hc ?_ ?_ h2 (((Chg.refl (fun j => j = G) w1).setCell (p := ⟨G, k * 5, none⟩) (.inl rfl) _).setCell (p := ⟨G, k * 5 + 1, none⟩) (.inl rfl) _)
  · have : (bs ++ m).length = bs.length + m.length := by simp
    rw [this]
    simpa [u8s] using hown
  · intro j hj
    rcases hv1 with e | e
    · exact .inl (e ▸ hj)
    · rw [e] at hj
      cases hj
      exact .inr (Nat.le_refl _)

theorem LAt.told {wr : World} {B G n c k cv : Nat} {its : List (Strm × Value)} {bs : Bs} {st id : Int} {Av : Option Addr} (h : LAt wr B (.slice (some ⟨G, 0, none⟩) n c) its)
    (hk : its[k]? = some (⟨bs, false, 0, st, id⟩, .slice Av bs.length cv)) (e : Bool) :
    LAt (wr.setCell ⟨G, k * 5 + 1, none⟩ (.bool e)) B (.slice (some ⟨G, 0, none⟩) n c) (its.set k (⟨bs, e, 0, st, id⟩, .slice Av bs.length cv)) := by
  have hkl : k < its.length := (List.getElem?_eq_some_iff.1 hk).1
  have hnl := h.n_eq
  have hrow := h.row
  rw [← hnl] at hrow
  have h2 := own_set (i := k * 5 + 1) (u := .bool e) hrow (by omega)
  have f2 := flat_set its k 1 _ (⟨bs, e, 0, st, id⟩, .slice Av bs.length cv) (.bool e) hk (by omega) rfl
  rw [f2] at h2
  exact h.upd hk (Chg.refl _ _) (h.byt _ (List.mem_of_getElem? hk)) (fun j hj => .inl hj) h2 ((Chg.refl (fun j => j = G) wr).setCell (p := ⟨G, k * 5 + 1, none⟩) (.inl rfl) _)

theorem begins_pre (a b : Bs) (h : a <+: b) (w : World) :
    Calls Try.prog 32 #[strv a, strv b] w fun e w' => e = .returned (.bool true) ∧ w' = w := by
  have hl := h.length_le
  have hsa : (⟨a.toArray⟩ : ByteArray).size = a.length := by simp [ByteArray.size]
  have hsb : (⟨b.toArray⟩ : ByteArray).size = b.length := by simp [ByteArray.size]
  have hex : (⟨b.toArray⟩ : ByteArray).extract 0 a.length = ⟨a.toArray⟩ := by
    obtain ⟨r, rfl⟩ := h
    apply ByteArray.ext
    simp
  have hl1 : (a.length : Int) ≤ (b.length : Int) := by omega
  have hl2 : decide (a.length ≤ b.length) = true := decide_eq_true (by omega)
  go_enter Try.func32, Try.ntmps32
  go_wp2
  go_ret
  exact ⟨rfl, rfl⟩

theorem drive_ready_m {M : Mach} {E : World → Prop} {B : Nat} {v : Value} {s : M.σ} {F : Nat → Prop} {w : World} (h : Ready M E B v s F w) (ins : List Strm) (cuts : List Int) (den : Den) (bound : Int) (hd : DEnd M den bound (drive M s ins cuts)) (n : Nat) (hn : ins.length = n)
    (A C : Option Addr) (ca cc : Nat) (D : Nat → Prop) (hins : StrmsAt w D (.slice A n ca) ins) (hcuts : Rd w D 1 C cuts.length (i64s cuts)) (hD : ∀ k, D k → ¬ F k) (hcl : cuts.length ≤ 100000) (hbl : ∀ x ∈ ins, x.bs.length ≤ 1000000) :
    Calls Try.prog 28 #[v, .slice A n ca, .slice C cuts.length cc] w (DrivenPost M E B v den bound F w) := by
  subst hn
  exact drive_ready h ins cuts den bound hd A C ca cc D hins hcuts hD hcl hbl
end Go.Proofs.Ytamhebjejgcbjaa
