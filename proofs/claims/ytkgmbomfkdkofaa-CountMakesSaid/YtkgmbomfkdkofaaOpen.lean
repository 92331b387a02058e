/- Arguments, opened: what the values of a law's parameters are. -/
import Derived.Test.YtkgmbomfkdkofaaStrm
import Derived.ProofKit
import Derived.OpenShut
import Derived.Deep.Slices
import Derived.Deep.Strs
import Derived.Lib.SmallJoins
import Derived.Carry
namespace Go.Proofs.Ytkgmbomfkdkofaa
open Go Go.ChangeShapes Go.WideShapes Go.ChangeAt Go.RowKit Go.Deep

/-- Anywhere. -/
abbrev Any' : Nat → Prop := fun _ => True

theorem list_of {α : Type} (f : α → Value) (p : α → Prop) (V : Nat → Value) : ∀ (n : Nat), (∀ i, i < n → ∃ b, V i = f b ∧ p b) → ∃ l : List α, l.length = n ∧ (List.range n).map V = l.map f ∧ ∀ b ∈ l, p b := by
  intro n
  induction n with
  | zero => intro _; exact ⟨[], rfl, rfl, fun _ h => by cases h⟩
  | succ n ih =>
    intro h
    obtain ⟨l, hl, he, hp⟩ := ih (fun i hi => h i (by omega))
    obtain ⟨b, hb, hpb⟩ := h n (by omega)
    refine ⟨l ++ [b], by simp [hl], by rw [List.range_succ, List.map_append, he]; simp [hb], fun x hx => ?_⟩
    rcases List.mem_append.1 hx with hx | hx
    · exact hp x hx
    · simp at hx; subst hx; exact hpb

theorem cell_spot {w : World} {a : Addr} {v : Value} (h : w.cell? a = some v) : a.block < w.heap.size ∧ a.spot = none := by
  unfold World.cell? at h
  split at h
  · rename_i hh
    refine ⟨(Array.getElem?_eq_some_iff.1 hh).1, ?_⟩
    split at h
    · cases h
    · rename_i hs; simpa using hs
  · cases h

section
variable {H : Type} {enc : TypeId × Value → H} {w : World} {spare : Nat → Bool} {held : Bool} {fuel : Nat}

theorem open_rd {P : Program} {t e : TypeId} {v : Value} {x : DataW H × List MemPlace} (ht : P.underlying t = some (.slice e)) (hc : P.cellsOf e = 1) (h : DataW.trod enc P w 0 spare held fuel t [v] = some x) :
    ∃ (A : Option Addr) (n c : Nat) (V : Nat → Value), v = .slice A n c ∧ n ≤ c ∧ c ≤ maxLen ∧ Rd w Any' 1 A n ((List.range n).map V) ∧ ∀ i, i < n → ∃ k y, DataW.trod enc P w 0 spare held k e [V i] = some y := by
  rcases open_slice1 ht hc h with ⟨h0, _⟩ | ⟨a, len, cap, m, n, V, D, Pl, h0, _, hl, hm, hmm, _, hV⟩
  · simp at h0
    subst h0
    exact ⟨none, 0, 0, fun _ => .nilFunc, rfl, Nat.le_refl _, Nat.zero_le _, Rd.nil _ _ _ _, fun i hi => by omega⟩
  · simp at h0
    subst h0
    have hlm : len ≤ m := by rw [hmm]; split <;> omega
    refine ⟨some a, len, cap, V, rfl, hl, hm, ⟨by simp, fun hn => ?_⟩, fun i hi => ⟨n, _, (hV i (by omega)).2⟩⟩
    have h1 := cell_spot (hV 0 (by omega)).1
    obtain ⟨b, o, sp⟩ := a
    have hs : sp = none := by simpa [Addr.add] using h1.2
    subst hs
    refine ⟨b, o, rfl, by simpa [Addr.add] using h1.1, trivial, fun j u hu => ?_⟩
    have hj : j < len := by
      have := (List.getElem?_eq_some_iff.1 hu).1
      simpa using this
    simp [List.getElem?_map, List.getElem?_range hj] at hu
    subst hu
    have := (hV j (by omega)).1
    rw [add_flat] at this
    exact this

theorem open_bs {v : Value} {x : DataW H × List MemPlace} (h : DataW.trod enc Try.prog w 0 spare held fuel 22 [v] = some x) :
    ∃ (A : Option Addr) (c : Nat) (bs : Bs), v = .slice A bs.length c ∧ bs.length ≤ c ∧ c ≤ maxLen ∧ Rd w Any' 1 A bs.length (u8s bs) := by
  obtain ⟨A, n, c, V, rfl, h1, h2, h3, h4⟩ := open_rd Try.underlying22 (by kernel_rfl) h
  obtain ⟨l, hl, he, _⟩ := list_of (fun x : UInt8 => Value.int .u8 x.toNat) (fun _ => True) V n (fun i hi => by
    obtain ⟨k, y, hy⟩ := h4 i hi
    obtain ⟨z, hz, _, hw⟩ := DataW.trod_int Try.underlying5 hy
    simp at hz
    have hb := bounds_u8 hw
    refine ⟨UInt8.ofNat z.toNat, ?_, trivial⟩
    rw [hz]
    congr 1
    have : (UInt8.ofNat z.toNat).toNat = z.toNat := by rw [UInt8.toNat_ofNat']; omega
    rw [this]; omega)
  rw [he] at h3
  subst hl
  exact ⟨A, c, l, rfl, h1, h2, h3⟩

theorem open_is {v : Value} {x : DataW H × List MemPlace} (h : DataW.trod enc Try.prog w 0 spare held fuel 37 [v] = some x) :
    ∃ (A : Option Addr) (c : Nat) (l : List Int), v = .slice A l.length c ∧ l.length ≤ c ∧ c ≤ maxLen ∧ Rd w Any' 1 A l.length (i64s l) := by
  obtain ⟨A, n, c, V, rfl, h1, h2, h3, h4⟩ := open_rd Try.underlying37 (by kernel_rfl) h
  obtain ⟨l, hl, he, _⟩ := list_of (fun x : Int => Value.int .i64 x) (fun _ => True) V n (fun i hi => by
    obtain ⟨k, y, hy⟩ := h4 i hi
    obtain ⟨z, hz, _, hw⟩ := DataW.trod_int Try.underlying3 hy
    simp at hz
    exact ⟨z, hz, trivial⟩)
  rw [he] at h3
  subst hl
  exact ⟨A, c, l, rfl, h1, h2, h3⟩

theorem cells_bs : Try.prog.cellsOf 22 = 1 := by kernel_rfl
theorem cells_bool : Try.prog.cellsOf 4 = 1 := by kernel_rfl
theorem cells_fault : Try.prog.cellsOf 62 = 3 := by kernel_rfl
theorem cells_errno : Try.prog.cellsOf 27 = 1 := by kernel_rfl
theorem cells_prm : Try.prog.cellsOf 24 = 4 := by kernel_rfl
theorem cells_int : Try.prog.cellsOf 3 = 1 := by kernel_rfl

theorem flat5_inv (its : List (Strm × Value)) (j : Nat) (u : Value) (h : (its.flatMap strmC)[j]? = some u) : ∃ (m : Nat) (hm : m < its.length) (i : Nat), i < 5 ∧ j = m * 5 + i ∧ (strmC its[m])[i]? = some u := by
  have hl : (its.flatMap strmC).length = its.length * 5 := by
    clear h
    induction its with
    | nil => rfl
    | cons t r ih => rw [List.flatMap_cons, List.length_append, ih, List.length_cons]; show 5 + _ = _; omega
  have hj := (List.getElem?_eq_some_iff.1 h).1
  have hm : j / 5 < its.length := by omega
  have e : j = j / 5 * 5 + j % 5 := by omega
  refine ⟨j / 5, hm, j % 5, by omega, e, ?_⟩
  rw [e, flat5 its _ hm _ (by omega)] at h
  exact h

theorem list5 {l : List Value} (h : l.length = 5) : ∃ a b c d e, l = [a, b, c, d, e] := by
  match l, h with
  | [a, b, c, d, e], _ => exact ⟨a, b, c, d, e, rfl⟩

/-- One stream's cells. -/
theorem open_strm {cs : List Value} {x : DataW H × List MemPlace} (h : DataW.trod enc Try.prog w 0 spare held fuel 64 cs = some x) :
    ∃ (t : Strm × Value), cs = strmC t ∧ BsAt w Any' t.2 t.1.bs ∧ CapOk t.2 ∧ t.1.bs.length ≤ maxLen := by
  obtain ⟨y0, y1, y2, n, _, hl, h0, h1, h2⟩ := trod_struct3 Try.underlying64 h
  have hl5 : cs.length = 5 := hl.trans (by kernel_rfl)
  obtain ⟨a, b, c, d, e, rfl⟩ := list5 hl5
  dsimp only at h0 h1 h2
  rw [cells_bs] at h0
  rw [cells_bool] at h1
  rw [cells_fault] at h2
  dsimp only [List.drop, List.take] at h0 h1 h2
  obtain ⟨A, cp, bs, rfl, hb1, hb2, hr⟩ := open_bs h0
  obtain ⟨z, hz, _⟩ := DataW.trod_bool Try.underlying4 h1
  simp at hz
  subst hz
  obtain ⟨z0, z1, z2, n2, _, _, g0, g1, g2⟩ := trod_struct3 Try.underlying62 h2
  dsimp only at g0 g1 g2
  rw [cells_errno] at g0
  rw [cells_int] at g1
  rw [cells_int] at g2
  dsimp only [List.drop, List.take] at g0 g1 g2
  obtain ⟨c', hc, _⟩ := DataW.trod_int Try.underlying27 g0
  obtain ⟨d', hd, _⟩ := DataW.trod_int Try.underlying3 g1
  obtain ⟨e', he, _⟩ := DataW.trod_int Try.underlying3 g2
  simp at hc hd he
  subst hc hd he
  have hle : bs.length ≤ maxLen := Nat.le_trans hb1 hb2
  exact ⟨(⟨bs, z, c', d', e'⟩, .slice A bs.length cp), rfl, ⟨A, cp, rfl, hr⟩, fun A' n' c' e => by cases e; exact hb1, hle⟩

theorem open_strms {v : Value} {x : DataW H × List MemPlace} (h : DataW.trod enc Try.prog w 0 spare held fuel 36 [v] = some x) :
    ∃ (A : Option Addr) (c : Nat) (l : List Strm), v = .slice A l.length c ∧ l.length ≤ c ∧ c ≤ maxLen ∧ StrmsAt w Any' (.slice A l.length c) l ∧ ∀ s ∈ l, s.bs.length ≤ maxLen := by
  rcases open_slice Try.underlying36 h with ⟨h0, _⟩ | ⟨a, len, cap, m, n, D, Pl, h0, _, hl, hm, hmm, _, hx⟩
  · simp at h0
    subst h0
    exact ⟨none, 0, [], rfl, Nat.le_refl _, Nat.zero_le _, ⟨none, 0, [], rfl, rfl, Rd.nil _ _ _ _, fun _ h => by cases h⟩, fun _ h => by cases h⟩
  · simp at h0
    subst h0
    have hlm : len ≤ m := by rw [hmm]; split <;> omega
    have hc5 : Try.prog.cellsOf 64 = 5 := by kernel_rfl
    rw [hc5] at hx
    have key : ∀ i, i < len → ∃ t : Strm × Value, (BsAt w Any' t.2 t.1.bs ∧ CapOk t.2 ∧ t.1.bs.length ≤ maxLen) ∧ ∀ k u, (strmC t)[k]? = some u → w.cell? ((a.add (i * 5)).add k) = some u := fun i hi => by
      obtain ⟨cs', h1, h2⟩ := hx i (by omega)
      obtain ⟨t, rfl, hb, hcp, hln⟩ := open_strm h2
      obtain ⟨_, hlen, hcell⟩ := World.cells?_some h1
      refine ⟨t, ⟨hb, hcp, hln⟩, fun k u hu => ?_⟩
      have hk : k < 5 := (List.getElem?_eq_some_iff.1 hu).1
      rw [hcell k hk]; exact hu
    have mk : ∀ n, n ≤ len → ∃ its : List (Strm × Value), its.length = n ∧ (∀ t ∈ its, BsAt w Any' t.2 t.1.bs ∧ CapOk t.2 ∧ t.1.bs.length ≤ maxLen) ∧ ∀ i (hi : i < its.length) k u, (strmC its[i])[k]? = some u → w.cell? ((a.add (i * 5)).add k) = some u := by
      intro n
      induction n with
      | zero => intro _; exact ⟨[], rfl, fun _ h => (by cases h), fun i hi => (by simp at hi)⟩
      | succ n ih =>
        intro hn
        obtain ⟨its, hl1, hp, hc⟩ := ih (by omega)
        obtain ⟨t, hpt, hct⟩ := key n (by omega)
        refine ⟨its ++ [t], by simp [hl1], fun y hy => ?_, fun i hi k u hu => ?_⟩
        · rcases List.mem_append.1 hy with hy | hy
          · exact hp y hy
          · simp at hy; subst hy; exact hpt
        · by_cases hin : i < its.length
          · rw [List.getElem_append_left hin] at hu
            exact hc i hin k u hu
          · have : i = n := by simp at hi; omega
            subst this
            rw [List.getElem_append_right (by omega)] at hu
            simp [hl1] at hu
            exact hct k u hu
    obtain ⟨its, hil, hip, hic⟩ := mk len (Nat.le_refl _)
    have hln : (its.map (fun t => t.1)).length = len := by simp [hil]
    refine ⟨some a, cap, its.map (fun t => t.1), by rw [hln], by rw [hln]; exact hl, hm, ⟨some a, cap, its, rfl, rfl, ⟨?_, fun hn => ?_⟩, fun t ht => ⟨(hip t ht).1, (hip t ht).2.1⟩⟩, fun s hs => ?_⟩
    · rw [hln, ← hil]
      clear hip hic hil hln
      induction its with
      | nil => rfl
      | cons t r ih => rw [List.flatMap_cons, List.length_append, ih, List.length_cons]; show 5 + _ = _; omega
    · rw [hln] at hn
      have h1 := cell_spot (hic 0 (by omega) 0 _ rfl)
      obtain ⟨b, o, sp⟩ := a
      have hs : sp = none := by simpa [Addr.add] using h1.2
      subst hs
      refine ⟨b, o, rfl, by simpa [Addr.add] using h1.1, trivial, fun j u hu => ?_⟩
      obtain ⟨k, hk, i, hi5, rfl, hu2⟩ := flat5_inv its j u hu
      have := hic k hk i u hu2
      rw [add_flat, add_flat, Nat.add_assoc] at this
      exact this
    · obtain ⟨t, ht, rfl⟩ := List.mem_map.1 hs
      exact (hip t ht).2.2

set_option maxRecDepth 100000 in
/-- A stage's parameters. -/
theorem open_prm {r : Reach} {b0 : Nat} {v : Value} {d : DataW H} {ps : List MemPlace} (hv : Value.okWide Try.prog w r b0 24 v) (h : DataW.Trod enc Try.prog w 0 spare held 24 v d ps) :
    ∃ p : Prm, PAt w Any' v p ∧ -9223372036854775808 ≤ p.n ∧ p.n ≤ 9223372036854775807 ∧ p.a.length ≤ maxLen ∧ p.b.length ≤ maxLen := by
  obtain ⟨cs, rfl, hsz⟩ := okWide_struct Try.underlying24 hv
  have hsz : cs.size = 4 := hsz.trans cells_prm
  obtain ⟨c0, c1, c2, c3, rfl⟩ := Go.Joins.array4 hsz
  obtain ⟨fuel, h⟩ := h
  have ec : (Value.agg #[c0, c1, c2, c3]).cells.toList = [c0, c1, c2, c3] := rfl
  rw [ec] at h
  obtain ⟨y0, y1, y2, y3, n, _, _, h0, h1, h2, h3⟩ := Go.Joins.trod_struct4 Try.underlying24 h
  dsimp only at h0 h1 h2 h3
  rw [cells_int] at h0
  rw [cells_int] at h1
  rw [cells_bs] at h2
  rw [cells_bs] at h3
  dsimp only [List.drop, List.take, List.toArray] at h0 h1 h2 h3
  obtain ⟨k, hk, _⟩ := DataW.trod_int Try.underlying3 h0
  obtain ⟨m, hm, _, hw⟩ := DataW.trod_int Try.underlying3 h1
  simp at hk hm
  subst hk hm
  obtain ⟨A, ca, a, rfl, ha1, ha2, hA⟩ := open_bs h2
  obtain ⟨B, cb, b, rfl, hb1, hb2, hB⟩ := open_bs h3
  have hn := bounds_i64 hw
  exact ⟨⟨k, m, a, b⟩, ⟨A, ca, B, cb, rfl, hA, hB⟩, hn.1, hn.2, Nat.le_trans ha1 ha2, Nat.le_trans hb1 hb2⟩

/-- A slice's value is its one cell. -/
theorem slice_cells {P : Program} {r : Reach} {b0 : Nat} {t e : TypeId} {v : Value} (ht : P.underlying t = some (.slice e)) (hv : Value.okWide P w r b0 t v) : v.cells.toList = [v] := by
  simp only [Value.okWide, ht, Cell.okWide, Cell.ok] at hv
  cases v <;> first | rfl | (simp at hv)
end

/-- Arguments read on as they did. -/
theorem trodAll_stays {H : Type} {enc : TypeId × Value → H} {P : Program} (hl : laidOutB P = true) {W W' : World} {sp' : Nat → Bool} : ∀ {ts : List TypeId} {vs : List Value} {ds : List (DataW H)} {ps : List MemPlace},
    (ts.all fun t => P.readableRec t && decide (t < P.types.size)) = true → DataW.TrodAll enc P W 0 (fun _ => true) true ts vs ds ps → (∀ p ∈ ps, W.sameAt W' p) → (∀ p ∈ ps, sp' p.block = true) → DataW.TrodAll enc P W' 0 sp' true ts vs ds ps := by
  intro ts
  induction ts with
  | nil =>
    intro vs ds ps _ h _ _
    obtain ⟨rfl, rfl, rfl⟩ := trodAll_nil h
    exact rfl
  | cons t ts ih =>
    intro vs ds ps ht h hs hsp
    obtain ⟨v, vs1, d, ds1, a, b, rfl, rfl, rfl, h1, h2⟩ := trodAll_cons h
    simp only [List.all_cons, Bool.and_eq_true, decide_eq_true_eq] at ht
    exact ⟨a, b, Go.WideElems.Trod_stays hl ht.1.1 ht.1.2 h1 (fun p hp => hs p (by simp [hp])) (fun p hp => hsp p (by simp [hp])), ih ht.2 h2 (fun p hp => hs p (by simp [hp])) (fun p hp => hsp p (by simp [hp])), rfl⟩

/-- What a law's row asks behind the call, where below the heap's old size all is as it was. -/
theorem post_of_below {H : Type} {enc : TypeId × Value → H} {P : Program} {f : Func} {s : ChangeSpec} {apart fresh handsOn again : Bool} {W W' : World} {args : Array Value} {v : Value} {ds : List (DataW H)} {before : List MemPlace}
    (hl : laidOutB P = true) (hW : DataW.Whole enc P f.params.toList [] apart W args.toList ds [] before) (hsv : s.vars = []) (hA : DataW.TrodAll enc P W 0 (fun _ => true) true f.params.toList args.toList ds before)
    (ht : (f.params.toList.all fun t => P.readableRec t && decide (t < P.types.size)) = true)
    (hres : ∀ (b : Nat) (sp : Nat → Bool) (hd : Bool), DataW.TrodAll enc P W' b sp hd f.resultTypes.toList (v.resultList f.resultTypes.size) (s.fn H (ds ++ [])).results [])
    (hargs : (s.fn H (ds ++ [])).args = ds) (hvars : (s.fn H (ds ++ [])).vars = []) (hb : Below W.heap.size W W')
    (hok : ∀ (j : Nat) (t : TypeId) (r : Value), f.resultTypes[j]? = some t → (v.resultList f.resultTypes.size)[j]? = some r → Value.okWide P W' .any 0 t r) :
    s.post enc P f apart fresh handsOn again W args v W' := by
  have hlt : ∀ p ∈ before, p.block < W.heap.size := fun p hp => hW.lt p hp
  have hold : ∀ p ∈ before, (fun b => decide (b < W.heap.size)) p.block = true := fun p hp => by simpa using hlt p hp
  have harg : ∀ sp : Nat → Bool, (∀ p ∈ before, sp p.block = true) → DataW.TrodAll enc P W' 0 sp true f.params.toList args.toList (s.fn H (ds ++ [])).args before := fun sp hsp => by
    rw [hargs]
    exact trodAll_stays hl ht hA (fun p hp => hb.same (hlt p hp)) hsp
  have hvar : ∀ sp : Nat → Bool, DataW.TrodVars enc P W' sp s.vars (s.fn H (ds ++ [])).vars [] := fun sp => by
    rw [hvars, hsv]; exact rfl
  refine ⟨ds, [], before, [], before, [], by rw [hsv]; exact hW, hres _ _ _, harg _ hold, hvar _, World.keptBut_mono (fun p hp => ⟨hp, by simpa using hp⟩) (hb.frame _), fun _ => ?_⟩
  obtain ⟨_, _, _, _, _, hz, hn⟩ := hW
  refine ⟨hok, _, _, ([] ++ before) ++ [], ⟨[] ++ before, [], trodAll_append (harg _ (fun _ _ => rfl)) (hres _ _ _), hvar _, rfl, ?_, ?_⟩, ?_⟩
  · intro b off hp
    have hp' : MemPlace.cell b off ∈ before := by simpa using hp
    rw [hb.frozen (p := ⟨b, off, none⟩) (hlt _ hp')]
    exact hz b off hp'
  · intro ha
    simpa using hn ha
  · intro p hp _
    simpa using hp
end Go.Proofs.Ytkgmbomfkdkofaa
