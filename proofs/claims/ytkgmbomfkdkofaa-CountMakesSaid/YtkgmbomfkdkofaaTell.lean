/- The contracts of line.Join and filter.Tell: lines with their ends; the same to an output. -/
import Derived.Test.YtkgmbomfkdkofaaSpl
import Derived.Lib.AppendStr
namespace Go.Proofs.Ytkgmbomfkdkofaa
open Go Go.RowKit

/-- Lines, each with its end. -/
def joinS (l : List Bs) : Bs := l.flatMap fun x => x ++ [10]

theorem joinS_snoc (l : List Bs) (x : Bs) : joinS (l ++ [x]) = joinS l ++ x ++ [10] := by simp [joinS]
theorem joinS_take (l : List Bs) (k : Nat) : (joinS (l.take k)).length ≤ (joinS l).length := by
  have : joinS l = joinS (l.take k) ++ joinS (l.drop k) := by
    unfold joinS
    rw [← List.flatMap_append, List.take_append_drop]
  rw [this]; simp

theorem strCells_u8s (x : Bs) : Lib.strCells ⟨x.toArray⟩ = u8s x := rfl
theorem u8s_append (a b : Bs) : u8s (a ++ b) = u8s a ++ u8s b := by simp [u8s]
theorem u8s_length (a : Bs) : (u8s a).length = a.length := by simp [u8s]
theorem info_u8 : (Try.prog.info? 5).map (fun i => (i.zero, i.size, i.bytes)) = some (some (.int .u8 0), 1, 1) := by kernel_rfl

set_option maxHeartbeats 1000000 in
set_option maxRecDepth 100000 in
theorem join_any (D : Nat → Prop) (A : Option Addr) (c : Nat) (l : List Bs) (w : World) (hr : Rd w D 1 A l.length (l.map strv)) (hl : l.length ≤ 1000000) (hlen : (joinS l).length ≤ 1000000000) :
    Calls Try.prog 103 #[.slice A l.length c] w fun e w' => ∃ v, e = .returned v ∧ w'.ownsRow w.heap.size 5 1 v (joinS l).length (u8s (joinS l)) ∧ Below w.heap.size w w' := by
  obtain ⟨i0, hi0, hz0, hz1, hz2⟩ := info_parts info_u8
  go_enter Try.func103, Try.ntmps103
  go_wp2
  go_loopw [8, 3] (fun i v wr => ∃ k : Nat, k ≤ l.length ∧ i = .int .i64 k ∧ Below w.heap.size w wr ∧ wr.ownsRow w.heap.size 5 1 v (joinS (l.take k)).length (u8s (joinS (l.take k))))
    (fun i _ _ => l.length - (intOf i).toNat)
  case atStart => exact ⟨0, Nat.zero_le _, rfl, Below.refl _ _, by simpa [joinS, u8s] using World.ownsRow_nil w _ _ _⟩
  case round =>
    obtain ⟨k, hk, rfl, hb, hown⟩ := hrel
    by_cases hlt : k < l.length
    · obtain ⟨b', off, u, rfl, hb1, _, hu, hcell0⟩ := hr.at_ hlt
      have hux : u = strv l[k] := by
        simp only [List.getElem?_map, List.getElem?_eq_getElem hlt, Option.map_some, Option.some.injEq] at hu
        exact hu.symm
      subst hux
      have hcell : wr.cell? ⟨b', off + k, none⟩ = some (strv l[k]) := (hb.cell (p := ⟨b', off + k, none⟩) hb1).trans hcell0
      have hsnoc : joinS (l.take (k + 1)) = joinS (l.take k) ++ l[k] ++ [10] := by
        rw [List.take_succ_eq_append_getElem hlt, joinS_snoc]
      have hn1 : (joinS (l.take k)).length + l[k].length + 1 ≤ 1000000000 := by
        have := joinS_take l (k + 1)
        rw [hsnoc] at this
        simp at this
        omega
      generalize hx : l[k] = x at *
      generalize hy : joinS (l.take k) = y at *
      have hsz : (⟨x.toArray⟩ : ByteArray).size = x.length := by simp [ByteArray.size]
      clear hcell0 hu
      have hbs := hb.size
      go_wp2_with (first
        | (at_builtin; refine Lib.wpList_append_own_string _ rfl (.tmp 12) (.tmp 13) 22 9 rfl w.heap.size 5 i0 Try.underlying22 Try.underlying9 hi0 hz0 hz1 hz2 u3 y.length (u8s y) rfl hown ⟨x.toArray⟩ rfl (by rw [hsz]; simp only [maxLen]; omega) (by rw [hsz]; omega) hbs ?_; intro v1 w1 hown1 hg1 _; rw [hsz, strCells_u8s] at hown1)
        | (at_builtin; refine wpList_append_own_at _ rfl (.tmp 14) (.tmp 15) 22 rfl w.heap.size 5 i0 _ 1 1 Try.underlying22 hi0 hz0 hz1 hz2 rfl (by omega) v1 (y.length + x.length) (u8s y ++ u8s x) rfl (hown1.alloc _) ⟨w1.heap.size, 0, none⟩ 1 1 [.int .u8 10] rfl rfl (World.news_of_block (cs := #[.int .u8 10]) (t := 5) (fr := (0, 0)) (heap_alloc_new w1 _)) (by simp [Value.oneCell']) (by simp only [maxLen]; omega) (by omega) (by have := hg1.size; simp; omega) ?_; intro v2 w2 hown2 hg2 _ _))
      go_roundw
      case rel =>
        refine ⟨k + 1, by omega, by go_num, ?_, ?_⟩
        · have h1 : Below w.heap.size w w1 := hb.grown hg1 hbs (fun k hk => (hown.lt k hk).1)
          exact (h1.alloc (by have := hg1.size; omega) _).grown hg2 (by have := hg1.size; simp; omega) (fun k hk => (hown1.lt k hk).1)
        · rw [hsnoc]
          simpa [u8s_append, u8s, Nat.add_assoc] using hown2
      case measure => simp [intOf]; omega
    · go_wp2
      go_ret
      have hkk : k = l.length := by omega
      subst hkk
      rw [List.take_length] at hown
      exact ⟨_, rfl, hown, hb⟩

/-- Bytes that can be read. -/
def BsAt (w : World) (D : Nat → Prop) (v : Value) (bs : Bs) : Prop := ∃ A c, v = .slice A bs.length c ∧ Rd w D 1 A bs.length (u8s bs)
theorem BsAt.chg {w w' : World} {D S : Nat → Prop} {v : Value} {bs : Bs} (h : BsAt w D v bs) (hb : Chg S w w') (hD : ∀ k, D k → k < w.heap.size → ¬ S k) : BsAt w' D v bs := by
  obtain ⟨A, c, rfl, hr⟩ := h
  exact ⟨A, c, rfl, hr.chg hb hD⟩
theorem BsAt.mono {w : World} {D D' : Nat → Prop} {v : Value} {bs : Bs} (h : BsAt w D v bs) (hD : ∀ k, D k → k < w.heap.size → D' k) : BsAt w D' v bs := by
  obtain ⟨A, c, rfl, hr⟩ := h
  exact ⟨A, c, rfl, hr.mono hD⟩
theorem BsAt.of_own {w : World} {base : Nat} {e : TypeId} {v : Value} {bs : Bs} (h : w.ownsRow base e 1 v bs.length (u8s bs)) : BsAt w (fun k => base ≤ k) v bs := by
  rcases h.2 with ⟨rfl, h0⟩ | ⟨g, cap, cur, rfl, _⟩
  · obtain rfl := List.eq_nil_of_length_eq_zero h0
    exact ⟨none, 0, rfl, Rd.nil _ _ _ _⟩
  · exact ⟨_, _, rfl, Rd.of_own h⟩

/-- The Outs of an answer, that can be read. -/
def OutsAt (w : World) (D : Nat → Prop) (v : Value) (l : Outs) : Prop :=
  ∃ (A : Option Addr) (c : Nat) (its : List (Int × Value × Bs)), v = .slice A l.length c ∧ l = its.map (fun t => (t.1, t.2.2)) ∧
    Rd w D 2 A l.length (its.flatMap fun t => [.int .i64 t.1, t.2.1]) ∧ ∀ t ∈ its, BsAt w D t.2.1 t.2.2
theorem OutsAt.chg {w w' : World} {D S : Nat → Prop} {v : Value} {l : Outs} (h : OutsAt w D v l) (hb : Chg S w w') (hD : ∀ k, D k → k < w.heap.size → ¬ S k) : OutsAt w' D v l := by
  obtain ⟨A, c, its, rfl, hl, hr, hi⟩ := h
  exact ⟨A, c, its, rfl, hl, hr.chg hb hD, fun t ht => (hi t ht).chg hb hD⟩
theorem OutsAt.mono {w : World} {D D' : Nat → Prop} {v : Value} {l : Outs} (h : OutsAt w D v l) (hD : ∀ k, D k → k < w.heap.size → D' k) : OutsAt w D' v l := by
  obtain ⟨A, c, its, rfl, hl, hr, hi⟩ := h
  exact ⟨A, c, its, rfl, hl, hr.mono hD, fun t ht => (hi t ht).mono hD⟩
theorem OutsAt.nil (w : World) (D : Nat → Prop) (A : Option Addr) (c : Nat) : OutsAt w D (.slice A 0 c) [] := ⟨A, c, [], rfl, rfl, Rd.nil _ _ _ _, fun _ h => by cases h⟩

theorem flat2 (its : List (Int × Value × Bs)) : ∀ m (h : m < its.length), (its.flatMap fun t => [Value.int .i64 t.1, t.2.1])[2 * m]? = some (.int .i64 (its[m]'h).1) ∧ (its.flatMap fun t => [Value.int .i64 t.1, t.2.1])[2 * m + 1]? = some (its[m]'h).2.1 := by
  induction its with
  | nil => intro m h; simp at h
  | cons t r ih =>
    intro m h
    cases m with
    | zero => simp
    | succ m =>
      have := ih m (by simpa using h)
      have e1 : 2 * (m + 1) = 2 * m + 1 + 1 := by omega
      have e2 : 2 * (m + 1) + 1 = 2 * m + 1 + 1 + 1 := by omega
      simp only [List.flatMap_cons, List.cons_append, List.nil_append, e1, List.getElem?_cons_succ, List.getElem_cons_succ]
      exact this

theorem OutsAt.one {w : World} {B : Nat} {v : Value} {bs : Bs} {T : TypeId} (port : Int) (hB : B ≤ w.heap.size) (h : BsAt w (fun k => B ≤ k) v bs) :
    OutsAt (w.alloc (.cells #[.int .i64 port, v] T)) (fun k => B ≤ k) (.slice (some ⟨w.heap.size, 0, none⟩) 1 1) [(port, bs)] := by
  refine ⟨some ⟨w.heap.size, 0, none⟩, 1, [(port, v, bs)], rfl, rfl, ⟨rfl, fun _ => ⟨w.heap.size, 0, rfl, by simp, hB, fun j u hu => ?_⟩⟩, fun t ht => ?_⟩
  · rw [Nat.zero_add, cell_of_row _ _ j _ _ (0, 0) (heap_alloc_new w _)]
    simpa using hu
  · simp at ht
    subst ht
    exact h.chg ((Chg.refl (fun _ => False) w).alloc _) (fun _ _ _ h => h)

def tellS (port : Int) (l : List Bs) : Outs := if l = [] then [] else [(port, joinS l)]

set_option maxHeartbeats 1000000 in
set_option maxRecDepth 100000 in
theorem tell_any (D : Nat → Prop) (port : Int) (A : Option Addr) (c : Nat) (l : List Bs) (w : World) (hr : Rd w D 1 A l.length (l.map strv)) (hl : l.length ≤ 1000000) (hlen : (joinS l).length ≤ 1000000000) :
    Calls Try.prog 98 #[.int .i64 port, .slice A l.length c] w fun e w' => ∃ v, e = .returned v ∧ OutsAt w' (fun k => w.heap.size ≤ k) v (tellS port l) ∧ Below w.heap.size w w' := by
  by_cases h0 : l = []
  · subst h0
    go_enter Try.func98, Try.ntmps98
    go_wp2
    go_ret
    exact ⟨_, rfl, OutsAt.nil _ _ _ _, Below.refl _ _⟩
  · have hn : ((l.length : Int) == 0) = false := by
      have : l.length ≠ 0 := fun h => h0 (List.eq_nil_of_length_eq_zero h)
      simp; omega
    go_enter Try.func98, Try.ntmps98
    go_wp2_with (go_at_call 103; refine (join_any D A c l _ hr hl hlen).mono ?_; rintro e w1 ⟨v1, rfl, hown, hb⟩; have hsh := BsAt.of_own hown; obtain ⟨A1, c1, rfl, hrd⟩ := hsh)
    go_ret
    refine ⟨_, rfl, ?_, hb.alloc hb.size _⟩
    have e : tellS port l = [(port, joinS l)] := by simp [tellS, h0]
    rw [e]
    exact OutsAt.one port hb.size ⟨A1, c1, rfl, hrd⟩
end Go.Proofs.Ytkgmbomfkdkofaa
