/- join, plain: what the reference's rounds come to. -/
import Derived.Test.YtkgmbomfkdkofaaJoinD
namespace Go.Proofs.Ytkgmbomfkdkofaa
open Go

theorem jgo_free (c : UInt8) (N : Nat) (en : Bool) (key : Bs) (q : List Bs) : (jgo c N en key [] q).what = (jgo c N en [] [] q).what ∧ (jgo c N en key [] q).err = (jgo c N en [] [] q).err ∧ (jgo c N en key [] q).ls = (jgo c N en [] [] q).ls ∧ (jgo c N en key [] q).rest = (jgo c N en [] [] q).rest := by
  cases q with
  | nil => exact ⟨rfl, rfl, rfl, rfl⟩
  | cons s r =>
    have h : ∀ key, jgo c N en key [] (s :: r) = jgo c N en (keyS c s) [s] r := fun key => by rw [jgo, if_pos rfl]
    rw [h, h]
    exact ⟨rfl, rfl, rfl, rfl⟩
theorem jgo_split (c : UInt8) (N : Nat) (en : Bool) : ∀ (q : List Bs) (key : Bs) (ls : List Bs), (jgo c N en key ls q).ls ++ (jgo c N en key ls q).rest = ls ++ q := by
  intro q
  induction q with
  | nil => intro key ls; rw [jgo]
  | cons s r ih =>
    intro key ls
    rw [jgo]
    by_cases h0 : ls = []
    · rw [if_pos h0, ih, h0]; rfl
    · rw [if_neg h0]
      by_cases h1 : ltB (keyS c s) key = true
      · rw [if_pos h1]
      · rw [if_neg h1]
        by_cases h2 : leB (keyS c s) key = false
        · rw [if_pos h2]
        · rw [if_neg h2]
          by_cases h3 : ls.length = N
          · rw [if_pos h3]
          · rw [if_neg h3, ih]; simp
theorem jgo_head (c : UInt8) (N : Nat) (en : Bool) : ∀ (q : List Bs) (key : Bs) (ls : List Bs), (ls ≠ [] → key = keyS c (ls.headD [])) → (jgo c N en key ls q).ls ≠ [] → (jgo c N en key ls q).key = keyS c ((jgo c N en key ls q).ls.headD []) := by
  intro q
  induction q with
  | nil => intro key ls h h2; rw [jgo] at h2 ⊢; exact h h2
  | cons s r ih =>
    intro key ls h
    rw [jgo]
    by_cases h0 : ls = []
    · rw [if_pos h0]; exact ih _ _ (fun _ => rfl)
    · rw [if_neg h0]
      by_cases h1 : ltB (keyS c s) key = true
      · rw [if_pos h1]; exact h
      · rw [if_neg h1]
        by_cases h2 : leB (keyS c s) key = false
        · rw [if_pos h2]; exact h
        · rw [if_neg h2]
          by_cases h3 : ls.length = N
          · rw [if_pos h3]; exact h
          · rw [if_neg h3]
            refine ih _ _ (fun _ => ?_)
            rw [h h0]
            cases ls with
            | nil => exact absurd rfl h0
            | cons x l => rfl

/-- Where the reference stands: what it has read of each input, its groups, what is written. -/
structure JN (c : UInt8) (N : Nat) (T : Nat → List Bs) (E : Nat → Bool) (a : JA) (at_ : Nat → Nat) (nl : Nat → List Bs) (out : List Bs) : Prop where
  go : aAll c N (jStart T E) = (out ++ (aAll c N a).1, (aAll c N a).2)
  en : a.en = E
  over : a.over = false
  p : a.pi = 0 ∧ a.pj = 0
  q : ∀ k, k < 2 → a.q k = (T k).drop (at_ k + (nl k).length)
  le : ∀ k, k < 2 → at_ k + (nl k).length ≤ (T k).length
  ls : ∀ k, k < 2 → a.want k = true → a.ls k = []
  unw : ∀ k, k < 2 → a.want k = false → a.ls k = nl k ∧ nl k ≠ [] ∧ a.key k = keyS c ((nl k).headD [])
  keep : JKeep N a

namespace JN
variable {c : UInt8} {N : Nat} {T : Nat → List Bs} {E : Nat → Bool} {a : JA} {at_ : Nat → Nat} {nl : Nat → List Bs} {out : List Bs}

theorem start (hT : ∀ k, k < 2 → ∀ l ∈ T k, l.length ≤ 64) : JN c N T E (jStart T E) (fun _ => 0) (fun _ => []) [] :=
  ⟨by simp, rfl, rfl, ⟨rfl, rfl⟩, fun k _ => by simp [jStart], fun k _ => Nat.zero_le _, fun k _ _ => rfl, (fun k _ h => by cases h), jStart_keep N T E hT⟩

/-- The group that is read next. -/
def G (c : UInt8) (N : Nat) (T : Nat → List Bs) (E : Nat → Bool) (at_ : Nat → Nat) (nl : Nat → List Bs) (k : Nat) : GR := jgo c N (E k) [] [] ((T k).drop (at_ k + (nl k).length))

theorem wk_eq {k : Nat} (hk : k < 2) (hw : a.want k = true) (h0 : k = 1 → a.want 0 = false) : a.wk = k := by
  unfold JA.wk
  obtain rfl | rfl : k = 0 ∨ k = 1 := by omega
  · rw [if_pos hw]
  · rw [if_neg (by rw [h0 rfl]; decide)]
theorem grp_eq (h : JN c N T E a at_ nl out) {k : Nat} (hk : k < 2) (hw : a.want k = true) (h0 : k = 1 → a.want 0 = false) :
    (a.grp c N).what = (G c N T E at_ nl k).what ∧ (a.grp c N).err = (G c N T E at_ nl k).err ∧ (a.grp c N).ls = (G c N T E at_ nl k).ls ∧ (a.grp c N).rest = (G c N T E at_ nl k).rest := by
  unfold JA.grp G
  rw [wk_eq hk hw h0, h.en, h.ls k hk hw, h.q k hk]
  exact jgo_free _ _ _ _ _
theorem open_ {k : Nat} (hw : a.want k = true) (hk : k < 2) : ¬ (a.want 0 = false ∧ a.want 1 = false) := fun hh => by
  obtain rfl | rfl : k = 0 ∨ k = 1 := by omega
  · rw [hh.1] at hw; cases hw
  · rw [hh.2] at hw; cases hw

/-- It ends: there is none, or a fault. -/
theorem none_ {ins : List Strm} (h : JN c N (insT ins) (insE ins) a at_ nl out) {k : Nat} (hk : k < 2) (hw : a.want k = true) (h0 : k = 1 → a.want 0 = false) (h1 : (G c N (insT ins) (insE ins) at_ nl k).err = 0) (h2 : (G c N (insT ins) (insE ins) at_ nl k).what = 2) :
    joMeans c N ins = refOut (joinS out) true 0 0 0 := by
  obtain ⟨g1, g2, g3, g4⟩ := h.grp_eq hk hw h0
  have e : aStep c N a = ([], { a.set a.wk (a.grp c N) with over := true }, false, 0) := by
    unfold aStep
    rw [if_neg (by rw [h.over]; decide), if_neg (open_ hw hk), if_neg (by rw [g2, h1]; decide), if_pos (by rw [g1, h2])]
  have hgo := h.go
  rw [aAll_stop (s := a) (by rw [e]), e] at hgo
  unfold joMeans
  rw [hgo]
  dsimp only
  rw [if_pos rfl, if_pos rfl, List.append_nil]
theorem bad_ {ins : List Strm} (h : JN c N (insT ins) (insE ins) a at_ nl out) {k : Nat} (hk : k < 2) (hw : a.want k = true) (h0 : k = 1 → a.want 0 = false) (h1 : (G c N (insT ins) (insE ins) at_ nl k).err ≠ 0) :
    joMeans c N ins = refOut (joinS out) false (G c N (insT ins) (insE ins) at_ nl k).err (-1) 0 := by
  obtain ⟨g1, g2, g3, g4⟩ := h.grp_eq hk hw h0
  have e : aStep c N a = ([], { a.set a.wk (a.grp c N) with over := true }, false, (a.grp c N).err) := by
    unfold aStep
    rw [if_neg (by rw [h.over]; decide), if_neg (open_ hw hk), if_pos (by rw [g2]; exact h1)]
  have hgo := h.go
  rw [aAll_stop (s := a) (by rw [e]), e] at hgo
  unfold joMeans
  rw [hgo]
  dsimp only
  rw [if_pos rfl, if_neg (by rw [g2]; exact h1), List.append_nil, g2]
theorem wait_ {ins : List Strm} (h : JN c N (insT ins) (insE ins) a at_ nl out) {k : Nat} (hk : k < 2) (hw : a.want k = true) (h0 : k = 1 → a.want 0 = false) (h1 : (G c N (insT ins) (insE ins) at_ nl k).err = 0) (h2 : (G c N (insT ins) (insE ins) at_ nl k).what = 1) :
    joMeans c N ins = refOut (joinS out) false (refLines (sAt ins k)).code (refLines (sAt ins k)).stage (refLines (sAt ins k)).id := by
  obtain ⟨g1, g2, g3, g4⟩ := h.grp_eq hk hw h0
  have e : aStep c N a = ([], a.set a.wk (a.grp c N), false, 0) := by
    unfold aStep
    rw [if_neg (by rw [h.over]; decide), if_neg (open_ hw hk), if_neg (by rw [g2, h1]; decide), if_neg (by rw [g1, h2]; decide), if_pos (by rw [g1, h2])]
  have hgo := h.go
  rw [aAll_stop (s := a) (by rw [e]), e] at hgo
  have hw2 : (a.set a.wk (a.grp c N)).wk = k := wk_eq hk hw h0
  have ho2 : (a.set a.wk (a.grp c N)).over = false := h.over
  unfold joMeans
  rw [hgo]
  dsimp only
  rw [if_neg (by rw [ho2]; decide), hw2, List.append_nil]

/-- A group that is whole. -/
theorem whole (h : JN c N T E a at_ nl out) (hN : 1 ≤ N) {k : Nat} (hk : k < 2) (hw : a.want k = true) (h0 : k = 1 → a.want 0 = false) (h1 : (G c N T E at_ nl k).err = 0) (h2 : (G c N T E at_ nl k).what = 0) :
    JN c N T E { a.set a.wk (a.grp c N) with want := upd a.want k false } (upd at_ k (at_ k + (nl k).length)) (upd nl k (G c N T E at_ nl k).ls) out ∧ (G c N T E at_ nl k).ls ≠ [] := by
  obtain ⟨g1, g2, g3, g4⟩ := h.grp_eq hk hw h0
  have hwk := wk_eq hk hw h0
  have e : aStep c N a = ([], { a.set a.wk (a.grp c N) with want := upd a.want a.wk false }, true, 0) := by
    unfold aStep
    rw [if_neg (by rw [h.over]; decide), if_neg (open_ hw hk), if_neg (by rw [g2, h1]; decide), if_neg (by rw [g1, h2]; decide), if_neg (by rw [g1, h2]; decide)]
  have hgo := h.go
  rw [aAll_go (s := a) (by rw [e]), e] at hgo
  have hkp := (aStep_keep c N hN a h.keep).1
  rw [e] at hkp
  have hls : (G c N T E at_ nl k).ls ≠ [] := (jgo_len c N _ _ _ _).2.2.1 h2
  have hsp : (G c N T E at_ nl k).ls ++ (G c N T E at_ nl k).rest = (T k).drop (at_ k + (nl k).length) := jgo_split _ _ _ _ _ _
  have hkey : (a.grp c N).key = keyS c ((a.grp c N).ls.headD []) := by
    refine jgo_head c N _ _ _ _ (fun hh => absurd ?_ hh) (by show (a.grp c N).ls ≠ []; rw [g3]; exact hls)
    rw [hwk]; exact h.ls k hk hw
  rw [hwk] at hgo hkp ⊢
  refine ⟨⟨hgo, h.en, h.over, h.p, fun j hj => ?_, fun j hj => ?_, fun j hj hwj => ?_, fun j hj hwj => ?_, hkp⟩, hls⟩
  · show upd a.q k (a.grp c N).rest j = _
    by_cases hjk : j = k
    · subst hjk
      rw [upd_same, upd_same, upd_same, g4, ← List.drop_drop, ← hsp, List.drop_left]
    · rw [upd_ne _ _ hjk, upd_ne _ _ hjk, upd_ne _ _ hjk]; exact h.q j hj
  · by_cases hjk : j = k
    · subst hjk
      rw [upd_same, upd_same]
      have := congrArg List.length hsp
      rw [List.length_append, List.length_drop] at this
      have := h.le j hj
      omega
    · rw [upd_ne _ _ hjk, upd_ne _ _ hjk]; exact h.le j hj
  · have hwj2 : upd a.want k false j = true := hwj
    by_cases hjk : j = k
    · subst hjk; rw [upd_same] at hwj2; cases hwj2
    · rw [upd_ne _ _ hjk] at hwj2
      show upd a.ls k _ j = []
      rw [upd_ne _ _ hjk]; exact h.ls j hj hwj2
  · have hwj2 : upd a.want k false j = false := hwj
    show upd a.ls k (a.grp c N).ls j = _ ∧ _ ∧ upd a.key k (a.grp c N).key j = _
    by_cases hjk : j = k
    · subst hjk
      rw [upd_same, upd_same, upd_same, hkey, g3]
      exact ⟨rfl, hls, rfl⟩
    · rw [upd_ne _ _ hjk] at hwj2
      rw [upd_ne _ _ hjk, upd_ne _ _ hjk, upd_ne _ _ hjk]; exact h.unw j hj hwj2

/-- The pairs of two groups. -/
def rows (c : UInt8) (l m : List Bs) : List Bs := if keyS c (l.headD []) = keyS c (m.headD []) then l.flatMap fun x => m.map (plS c (keyS c (l.headD [])) x) else []
theorem pairs0 (c : UInt8) (key : Bs) (l m : List Bs) : pairsFrom c key l m 0 0 = l.flatMap fun x => m.map (plS c key x) := by
  unfold pairsFrom
  rw [List.drop_zero, List.drop_zero]
  cases l with
  | nil => rfl
  | cons x r => simp
theorem next_ (h : JN c N T E a at_ nl out) (hN : 1 ≤ N) (h0 : a.want 0 = false) (h1 : a.want 1 = false) :
    JN c N T E a.next at_ nl (out ++ rows c (nl 0) (nl 1)) ∧ a.next.want 0 = leB (keyS c ((nl 0).headD [])) (keyS c ((nl 1).headD [])) ∧ a.next.want 1 = leB (keyS c ((nl 1).headD [])) (keyS c ((nl 0).headD [])) ∧ nl 0 ≠ [] ∧ nl 1 ≠ [] ∧ (nl 0).length ≤ N ∧ (nl 1).length ≤ N ∧ (∀ l ∈ nl 0, l.length ≤ 64) ∧ (∀ l ∈ nl 1, l.length ≤ 64) := by
  obtain ⟨u0, n0, k0⟩ := h.unw 0 (by omega) h0
  obtain ⟨u1, n1, k1⟩ := h.unw 1 (by omega) h1
  have e := aStep_none c N a h.over ⟨h0, h1⟩
  have hgo := h.go
  rw [aAll_go (s := a) (by rw [e]), e] at hgo
  have hkp := (aStep_keep c N hN a h.keep).1
  rw [e] at hkp
  have hp : a.pairs c = rows c (nl 0) (nl 1) := by
    unfold JA.pairs rows
    rw [h.p.1, h.p.2, u0, u1, k0, k1, pairs0]
  refine ⟨⟨?_, h.en, h.over, ⟨rfl, rfl⟩, h.q, h.le, fun j hj hw => ?_, fun j hj hw => ?_, hkp⟩, ?_, ?_, n0, n1, by rw [← u0]; exact h.keep.few 0 (by omega), by rw [← u1]; exact h.keep.few 1 (by omega), by rw [← u0]; exact h.keep.shl 0 (by omega), by rw [← u1]; exact h.keep.shl 1 (by omega)⟩
  · rw [hgo, ← hp, List.append_assoc]
  · have hw2 : a.wants j = true := hw
    show (if a.wants j = true then [] else a.ls j) = []
    rw [if_pos hw2]
  · have hw2 : a.wants j = false := hw
    show (if a.wants j = true then [] else a.ls j) = _ ∧ _
    rw [if_neg (by rw [hw2]; decide)]
    obtain rfl | rfl : j = 0 ∨ j = 1 := by omega
    · exact ⟨u0, n0, k0⟩
    · exact ⟨u1, n1, k1⟩
  · show (if (0 : Nat) = 0 then leB (a.key 0) (a.key 1) else leB (a.key 1) (a.key 0)) = _
    rw [if_pos rfl, k0, k1]
  · show (if (1 : Nat) = 0 then leB (a.key 0) (a.key 1) else leB (a.key 1) (a.key 0)) = _
    rw [if_neg (by decide), k0, k1]

/-- What is written stays in bounds. -/
theorem few (h : JN c N T E a at_ nl out) (hN : 1 ≤ N) (hT : ∀ k, k < 2 → ∀ l ∈ T k, l.length ≤ 64) : (joinS out).length ≤ N * (T 0).length * 201 := by
  have hc := aAll_count c N hN _ (jStart T E) (Nat.lt_succ_self _) (jStart_keep N T E hT)
  rw [h.go] at hc
  have h1 : out.length ≤ N * (T 0).length := by
    have := hc.1
    rw [List.length_append] at this
    have e : (jStart T E).ls 0 = [] := rfl
    have e2 : (jStart T E).q 0 = T 0 := rfl
    rw [e, e2, List.length_nil, Nat.zero_add] at this
    omega
  have key : ∀ l : List Bs, (∀ x ∈ l, x.length ≤ 200) → (joinS l).length ≤ l.length * 201 := by
    intro l
    induction l with
    | nil => intro _; simp [joinS]
    | cons x r ih =>
      intro hl
      have h3 := hl x (by simp)
      have h4 := ih (fun y hy => hl y (by simp [hy]))
      unfold joinS at h4 ⊢
      simp only [List.flatMap_cons, List.length_append, List.length_cons, List.length_nil, Nat.succ_mul]
      omega
  exact Nat.le_trans (key out (fun x hx => hc.2 x (List.mem_append_left _ hx))) (Nat.mul_le_mul_right _ h1)
end JN
end Go.Proofs.Ytkgmbomfkdkofaa
