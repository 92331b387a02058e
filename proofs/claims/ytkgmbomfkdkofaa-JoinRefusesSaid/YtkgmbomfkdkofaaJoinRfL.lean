/- penstockref14's Means: its rounds. -/
import Derived.Test.YtkgmbomfkdkofaaJoinD
import Derived.Test.YtkgmbomfkdkofaaJoinRfX
import Derived.Test.YtkgmbomfkdkofaaRef4B
import Derived.Test.YtkgmbomfkdkofaaSame
/- join, plain: what the reference's rounds come to. -/
namespace Go.Proofs.Ytkgmbomfkdkofaa
open Go

theorem jgo_free (c : UInt8) (N : Nat) (en : Bool) (key : Bs) (q : List Bs) : (jgo c N en key [] q).what = (jgo c N en [] [] q).what ∧ (jgo c N en key [] q).err = (jgo c N en [] [] q).err ∧ (jgo c N en key [] q).ls = (jgo c N en [] [] q).ls ∧ (jgo c N en key [] q).rest = (jgo c N en [] [] q).rest := by
  cases q with
  | nil => exact ⟨rfl, rfl, rfl, rfl⟩
  | cons s r =>
    have h : ∀ key, jgo c N en key [] (s :: r) = jgo c N en (keyS c s) [s] r := fun key => by rw [jgo, if_pos rfl]
    rw [h, h]
    exact ⟨rfl, rfl, rfl, rfl⟩
theorem jgo_split (c : UInt8) (N : Nat) (en : Bool) : ∀ (q : List Bs) (key : Bs) (ls : List Bs), (jgo c N en key ls q).ls ++ (jgo c N en key ls q).rest = ls ++ q := by
  intro q
  induction q with
  | nil => intro key ls; rw [jgo]
  | cons s r ih =>
    intro key ls
    rw [jgo]
    by_cases h0 : ls = []
    · rw [if_pos h0, ih, h0]; rfl
    · rw [if_neg h0]
      by_cases h1 : ltB (keyS c s) key = true
      · rw [if_pos h1]
      · rw [if_neg h1]
        by_cases h2 : leB (keyS c s) key = false
        · rw [if_pos h2]
        · rw [if_neg h2]
          by_cases h3 : ls.length = N
          · rw [if_pos h3]
          · rw [if_neg h3, ih]; simp
theorem jgo_head (c : UInt8) (N : Nat) (en : Bool) : ∀ (q : List Bs) (key : Bs) (ls : List Bs), (ls ≠ [] → key = keyS c (ls.headD [])) → (jgo c N en key ls q).ls ≠ [] → (jgo c N en key ls q).key = keyS c ((jgo c N en key ls q).ls.headD []) := by
  intro q
  induction q with
  | nil => intro key ls h h2; rw [jgo] at h2 ⊢; exact h h2
  | cons s r ih =>
    intro key ls h
    rw [jgo]
    by_cases h0 : ls = []
    · rw [if_pos h0]; exact ih _ _ (fun _ => rfl)
    · rw [if_neg h0]
      by_cases h1 : ltB (keyS c s) key = true
      · rw [if_pos h1]; exact h
      · rw [if_neg h1]
        by_cases h2 : leB (keyS c s) key = false
        · rw [if_pos h2]; exact h
        · rw [if_neg h2]
          by_cases h3 : ls.length = N
          · rw [if_pos h3]; exact h
          · rw [if_neg h3]
            refine ih _ _ (fun _ => ?_)
            rw [h h0]
            cases ls with
            | nil => exact absurd rfl h0
            | cons x l => rfl

/-- Where the reference stands: what it has read of each input, its groups, what is written. -/
structure JN (c : UInt8) (N : Nat) (T : Nat → List Bs) (E : Nat → Bool) (a : JA) (at_ : Nat → Nat) (nl : Nat → List Bs) (out : List Bs) : Prop where
  go : aAll c N (jStart T E) = (out ++ (aAll c N a).1, (aAll c N a).2)
  en : a.en = E
  over : a.over = false
  p : a.pi = 0 ∧ a.pj = 0
  q : ∀ k, k < 2 → a.q k = (T k).drop (at_ k + (nl k).length)
  le : ∀ k, k < 2 → at_ k + (nl k).length ≤ (T k).length
  ls : ∀ k, k < 2 → a.want k = true → a.ls k = []
  unw : ∀ k, k < 2 → a.want k = false → a.ls k = nl k ∧ nl k ≠ [] ∧ a.key k = keyS c ((nl k).headD [])
  keep : JKeep N a

namespace JN
variable {c : UInt8} {N : Nat} {T : Nat → List Bs} {E : Nat → Bool} {a : JA} {at_ : Nat → Nat} {nl : Nat → List Bs} {out : List Bs}

theorem start (hT : ∀ k, k < 2 → ∀ l ∈ T k, l.length ≤ 64) : JN c N T E (jStart T E) (fun _ => 0) (fun _ => []) [] :=
  ⟨by simp, rfl, rfl, ⟨rfl, rfl⟩, fun k _ => by simp [jStart], fun k _ => Nat.zero_le _, fun k _ _ => rfl, (fun k _ h => by cases h), jStart_keep N T E hT⟩

/-- The group that is read next. -/
def G (c : UInt8) (N : Nat) (T : Nat → List Bs) (E : Nat → Bool) (at_ : Nat → Nat) (nl : Nat → List Bs) (k : Nat) : GR := jgo c N (E k) [] [] ((T k).drop (at_ k + (nl k).length))

theorem wk_eq {k : Nat} (hk : k < 2) (hw : a.want k = true) (h0 : k = 1 → a.want 0 = false) : a.wk = k := by
  unfold JA.wk
  obtain rfl | rfl : k = 0 ∨ k = 1 := by omega
  · rw [if_pos hw]
  · rw [if_neg (by rw [h0 rfl]; decide)]
theorem grp_eq (h : JN c N T E a at_ nl out) {k : Nat} (hk : k < 2) (hw : a.want k = true) (h0 : k = 1 → a.want 0 = false) :
    (a.grp c N).what = (G c N T E at_ nl k).what ∧ (a.grp c N).err = (G c N T E at_ nl k).err ∧ (a.grp c N).ls = (G c N T E at_ nl k).ls ∧ (a.grp c N).rest = (G c N T E at_ nl k).rest := by
  unfold JA.grp G
  rw [wk_eq hk hw h0, h.en, h.ls k hk hw, h.q k hk]
  exact jgo_free _ _ _ _ _
theorem open_ {k : Nat} (hw : a.want k = true) (hk : k < 2) : ¬ (a.want 0 = false ∧ a.want 1 = false) := fun hh => by
  obtain rfl | rfl : k = 0 ∨ k = 1 := by omega
  · rw [hh.1] at hw; cases hw
  · rw [hh.2] at hw; cases hw

/-- It ends: there is none, or a fault. -/
theorem none_ {ins : List Strm} (h : JN c N (insT ins) (insE ins) a at_ nl out) {k : Nat} (hk : k < 2) (hw : a.want k = true) (h0 : k = 1 → a.want 0 = false) (h1 : (G c N (insT ins) (insE ins) at_ nl k).err = 0) (h2 : (G c N (insT ins) (insE ins) at_ nl k).what = 2) :
    joMeans c N ins = refOut (joinS out) true 0 0 0 := by
  obtain ⟨g1, g2, g3, g4⟩ := h.grp_eq hk hw h0
  have e : aStep c N a = ([], { a.set a.wk (a.grp c N) with over := true }, false, 0) := by
    unfold aStep
    rw [if_neg (by rw [h.over]; decide), if_neg (open_ hw hk), if_neg (by rw [g2, h1]; decide), if_pos (by rw [g1, h2])]
  have hgo := h.go
  rw [aAll_stop (s := a) (by rw [e]), e] at hgo
  unfold joMeans
  rw [hgo]
  dsimp only
  rw [if_pos rfl, if_pos rfl, List.append_nil]
theorem bad_ {ins : List Strm} (h : JN c N (insT ins) (insE ins) a at_ nl out) {k : Nat} (hk : k < 2) (hw : a.want k = true) (h0 : k = 1 → a.want 0 = false) (h1 : (G c N (insT ins) (insE ins) at_ nl k).err ≠ 0) :
    joMeans c N ins = refOut (joinS out) false (G c N (insT ins) (insE ins) at_ nl k).err (-1) 0 := by
  obtain ⟨g1, g2, g3, g4⟩ := h.grp_eq hk hw h0
  have e : aStep c N a = ([], { a.set a.wk (a.grp c N) with over := true }, false, (a.grp c N).err) := by
    unfold aStep
    rw [if_neg (by rw [h.over]; decide), if_neg (open_ hw hk), if_pos (by rw [g2]; exact h1)]
  have hgo := h.go
  rw [aAll_stop (s := a) (by rw [e]), e] at hgo
  unfold joMeans
  rw [hgo]
  dsimp only
  rw [if_pos rfl, if_neg (by rw [g2]; exact h1), List.append_nil, g2]
theorem wait_ {ins : List Strm} (h : JN c N (insT ins) (insE ins) a at_ nl out) {k : Nat} (hk : k < 2) (hw : a.want k = true) (h0 : k = 1 → a.want 0 = false) (h1 : (G c N (insT ins) (insE ins) at_ nl k).err = 0) (h2 : (G c N (insT ins) (insE ins) at_ nl k).what = 1) :
    joMeans c N ins = refOut (joinS out) false (refLines (sAt ins k)).code (refLines (sAt ins k)).stage (refLines (sAt ins k)).id := by
  obtain ⟨g1, g2, g3, g4⟩ := h.grp_eq hk hw h0
  have e : aStep c N a = ([], a.set a.wk (a.grp c N), false, 0) := by
    unfold aStep
    rw [if_neg (by rw [h.over]; decide), if_neg (open_ hw hk), if_neg (by rw [g2, h1]; decide), if_neg (by rw [g1, h2]; decide), if_pos (by rw [g1, h2])]
  have hgo := h.go
  rw [aAll_stop (s := a) (by rw [e]), e] at hgo
  have hw2 : (a.set a.wk (a.grp c N)).wk = k := wk_eq hk hw h0
  have ho2 : (a.set a.wk (a.grp c N)).over = false := h.over
  unfold joMeans
  rw [hgo]
  dsimp only
  rw [if_neg (by rw [ho2]; decide), hw2, List.append_nil]

/-- A group that is whole. -/
theorem whole (h : JN c N T E a at_ nl out) (hN : 1 ≤ N) {k : Nat} (hk : k < 2) (hw : a.want k = true) (h0 : k = 1 → a.want 0 = false) (h1 : (G c N T E at_ nl k).err = 0) (h2 : (G c N T E at_ nl k).what = 0) :
    JN c N T E { a.set a.wk (a.grp c N) with want := upd a.want k false } (upd at_ k (at_ k + (nl k).length)) (upd nl k (G c N T E at_ nl k).ls) out ∧ (G c N T E at_ nl k).ls ≠ [] := by
  obtain ⟨g1, g2, g3, g4⟩ := h.grp_eq hk hw h0
  have hwk := wk_eq hk hw h0
  have e : aStep c N a = ([], { a.set a.wk (a.grp c N) with want := upd a.want a.wk false }, true, 0) := by
    unfold aStep
    rw [if_neg (by rw [h.over]; decide), if_neg (open_ hw hk), if_neg (by rw [g2, h1]; decide), if_neg (by rw [g1, h2]; decide), if_neg (by rw [g1, h2]; decide)]
  have hgo := h.go
  rw [aAll_go (s := a) (by rw [e]), e] at hgo
  have hkp := (aStep_keep c N hN a h.keep).1
  rw [e] at hkp
  have hls : (G c N T E at_ nl k).ls ≠ [] := (jgo_len c N _ _ _ _).2.2.1 h2
  have hsp : (G c N T E at_ nl k).ls ++ (G c N T E at_ nl k).rest = (T k).drop (at_ k + (nl k).length) := jgo_split _ _ _ _ _ _
  have hkey : (a.grp c N).key = keyS c ((a.grp c N).ls.headD []) := by
    refine jgo_head c N _ _ _ _ (fun hh => absurd ?_ hh) (by show (a.grp c N).ls ≠ []; rw [g3]; exact hls)
    rw [hwk]; exact h.ls k hk hw
  rw [hwk] at hgo hkp ⊢
  refine ⟨⟨hgo, h.en, h.over, h.p, fun j hj => ?_, fun j hj => ?_, fun j hj hwj => ?_, fun j hj hwj => ?_, hkp⟩, hls⟩
  · show upd a.q k (a.grp c N).rest j = _
    by_cases hjk : j = k
    · subst hjk
      rw [upd_same, upd_same, upd_same, g4, ← List.drop_drop, ← hsp, List.drop_left]
    · rw [upd_ne _ _ hjk, upd_ne _ _ hjk, upd_ne _ _ hjk]; exact h.q j hj
  · by_cases hjk : j = k
    · subst hjk
      rw [upd_same, upd_same]
      have := congrArg List.length hsp
      rw [List.length_append, List.length_drop] at this
      have := h.le j hj
      omega
    · rw [upd_ne _ _ hjk, upd_ne _ _ hjk]; exact h.le j hj
  · have hwj2 : upd a.want k false j = true := hwj
    by_cases hjk : j = k
    · subst hjk; rw [upd_same] at hwj2; cases hwj2
    · rw [upd_ne _ _ hjk] at hwj2
      show upd a.ls k _ j = []
      rw [upd_ne _ _ hjk]; exact h.ls j hj hwj2
  · have hwj2 : upd a.want k false j = false := hwj
    show upd a.ls k (a.grp c N).ls j = _ ∧ _ ∧ upd a.key k (a.grp c N).key j = _
    by_cases hjk : j = k
    · subst hjk
      rw [upd_same, upd_same, upd_same, hkey, g3]
      exact ⟨rfl, hls, rfl⟩
    · rw [upd_ne _ _ hjk] at hwj2
      rw [upd_ne _ _ hjk, upd_ne _ _ hjk, upd_ne _ _ hjk]; exact h.unw j hj hwj2

/-- The pairs of two groups. -/
def rows (c : UInt8) (l m : List Bs) : List Bs := if keyS c (l.headD []) = keyS c (m.headD []) then l.flatMap fun x => m.map (plS c (keyS c (l.headD [])) x) else []
theorem pairs0 (c : UInt8) (key : Bs) (l m : List Bs) : pairsFrom c key l m 0 0 = l.flatMap fun x => m.map (plS c key x) := by
  unfold pairsFrom
  rw [List.drop_zero, List.drop_zero]
  cases l with
  | nil => rfl
  | cons x r => simp
theorem next_ (h : JN c N T E a at_ nl out) (hN : 1 ≤ N) (h0 : a.want 0 = false) (h1 : a.want 1 = false) :
    JN c N T E a.next at_ nl (out ++ rows c (nl 0) (nl 1)) ∧ a.next.want 0 = leB (keyS c ((nl 0).headD [])) (keyS c ((nl 1).headD [])) ∧ a.next.want 1 = leB (keyS c ((nl 1).headD [])) (keyS c ((nl 0).headD [])) ∧ nl 0 ≠ [] ∧ nl 1 ≠ [] ∧ (nl 0).length ≤ N ∧ (nl 1).length ≤ N ∧ (∀ l ∈ nl 0, l.length ≤ 64) ∧ (∀ l ∈ nl 1, l.length ≤ 64) := by
  obtain ⟨u0, n0, k0⟩ := h.unw 0 (by omega) h0
  obtain ⟨u1, n1, k1⟩ := h.unw 1 (by omega) h1
  have e := aStep_none c N a h.over ⟨h0, h1⟩
  have hgo := h.go
  rw [aAll_go (s := a) (by rw [e]), e] at hgo
  have hkp := (aStep_keep c N hN a h.keep).1
  rw [e] at hkp
  have hp : a.pairs c = rows c (nl 0) (nl 1) := by
    unfold JA.pairs rows
    rw [h.p.1, h.p.2, u0, u1, k0, k1, pairs0]
  refine ⟨⟨?_, h.en, h.over, ⟨rfl, rfl⟩, h.q, h.le, fun j hj hw => ?_, fun j hj hw => ?_, hkp⟩, ?_, ?_, n0, n1, by rw [← u0]; exact h.keep.few 0 (by omega), by rw [← u1]; exact h.keep.few 1 (by omega), by rw [← u0]; exact h.keep.shl 0 (by omega), by rw [← u1]; exact h.keep.shl 1 (by omega)⟩
  · rw [hgo, ← hp, List.append_assoc]
  · have hw2 : a.wants j = true := hw
    show (if a.wants j = true then [] else a.ls j) = []
    rw [if_pos hw2]
  · have hw2 : a.wants j = false := hw
    show (if a.wants j = true then [] else a.ls j) = _ ∧ _
    rw [if_neg (by rw [hw2]; decide)]
    obtain rfl | rfl : j = 0 ∨ j = 1 := by omega
    · exact ⟨u0, n0, k0⟩
    · exact ⟨u1, n1, k1⟩
  · show (if (0 : Nat) = 0 then leB (a.key 0) (a.key 1) else leB (a.key 1) (a.key 0)) = _
    rw [if_pos rfl, k0, k1]
  · show (if (1 : Nat) = 0 then leB (a.key 0) (a.key 1) else leB (a.key 1) (a.key 0)) = _
    rw [if_neg (by decide), k0, k1]

/-- What is written stays in bounds. -/
theorem few (h : JN c N T E a at_ nl out) (hN : 1 ≤ N) (hT : ∀ k, k < 2 → ∀ l ∈ T k, l.length ≤ 64) : (joinS out).length ≤ N * (T 0).length * 201 := by
  have hc := aAll_count c N hN _ (jStart T E) (Nat.lt_succ_self _) (jStart_keep N T E hT)
  rw [h.go] at hc
  have h1 : out.length ≤ N * (T 0).length := by
    have := hc.1
    rw [List.length_append] at this
    have e : (jStart T E).ls 0 = [] := rfl
    have e2 : (jStart T E).q 0 = T 0 := rfl
    rw [e, e2, List.length_nil, Nat.zero_add] at this
    omega
  have key : ∀ l : List Bs, (∀ x ∈ l, x.length ≤ 200) → (joinS l).length ≤ l.length * 201 := by
    intro l
    induction l with
    | nil => intro _; simp [joinS]
    | cons x r ih =>
      intro hl
      have h3 := hl x (by simp)
      have h4 := ih (fun y hy => hl y (by simp [hy]))
      unfold joinS at h4 ⊢
      simp only [List.flatMap_cons, List.length_append, List.length_cons, List.length_nil, Nat.succ_mul]
      omega
  exact Nat.le_trans (key out (fun x hx => hc.2 x (List.mem_append_left _ hx))) (Nat.mul_le_mul_right _ h1)
end JN
end Go.Proofs.Ytkgmbomfkdkofaa

/- penstockref14's Means: its rounds. -/
namespace Go.Proofs.Ytkgmbomfkdkofaa
open Go Go.RowKit

theorem out_of' {w w0 : World} {l : List Strm} {e : Ending} {w' : World} (h : OutPost w0 l e w') (hs : w.heap.size ≤ w0.heap.size) (hc : Chg (fun _ => False) w w0) : OutPost w l e w' := by
  obtain ⟨v, rfl, h1, h2⟩ := h
  exact ⟨v, rfl, h1.mono (fun k hk _ => by omega), (hc.below (Nat.le_refl _) (fun _ h => h.elim)).trans (h2.mono hs)⟩

def natAt (w : World) (a : Addr) : Nat := match w.cell? a with
  | some (.int _ n) => n.toNat
  | some (.slice _ n _) => n
  | _ => 0

/-- The reference's memory in its rounds: the places, the groups, what is wanted. -/
structure JMemR (wb : World) (gt gn : Nat) (at_ : Nat → Nat) (nl : Nat → List Bs) (wv : Nat → Bool) (want : Value) (wr : World) : Prop where
  ne : gt ≠ gn
  chg : Chg (fun k => k = gt ∨ k = gn) wb wr
  bat : Blk wr gt 82 #[.int .i64 (at_ 0 : Nat), .int .i64 (at_ 1 : Nat)]
  now : ∃ (cs : Array Value) (A : Nat → Option Addr) (ca : Nat → Nat), Blk wr gn 102 cs ∧ cs.size = 12 ∧ ∀ k, k < 2 → cs[k * 6]? = some (.slice (A k) (nl k).length (ca k)) ∧ Rd wr (fun j => j ≠ gt ∧ j ≠ gn) 1 (A k) (nl k).length (strs (nl k))
  want : ∃ gw, want = .slice (some ⟨gw, 0, none⟩) 2 2 ∧ gw ≠ gt ∧ gw ≠ gn ∧ gw < wr.heap.size ∧ wr.cell? ⟨gw, 0, none⟩ = some (.bool (wv 0)) ∧ wr.cell? ⟨gw, 1, none⟩ = some (.bool (wv 1))

def sumR2 (at_ : Nat → Nat) (nl : Nat → List Bs) : Nat := at_ 0 + (nl 0).length + (at_ 1 + (nl 1).length)
def muR (gt gn : Nat) (w : World) : Nat := natAt w ⟨gt, 0, none⟩ + natAt w ⟨gn, 0, none⟩ + (natAt w ⟨gt, 1, none⟩ + natAt w ⟨gn, 6, none⟩)

namespace JMemR
variable {wb wr W w2 : World} {gt gn : Nat} {at_ : Nat → Nat} {nl : Nat → List Bs} {wv : Nat → Bool} {want : Value}
theorem mu (h : JMemR wb gt gn at_ nl wv want wr) : muR gt gn wr = sumR2 at_ nl := by
  obtain ⟨cs, A, ca, hb, _, hr⟩ := h.now
  have a0 : wr.cell? ⟨gt, 0, none⟩ = some (.int .i64 (at_ 0 : Nat)) := (h.bat.cell 0).trans rfl
  have a1 : wr.cell? ⟨gt, 1, none⟩ = some (.int .i64 (at_ 1 : Nat)) := (h.bat.cell 1).trans rfl
  have n0 : wr.cell? ⟨gn, 0, none⟩ = some (.slice (A 0) (nl 0).length (ca 0)) := (hb.cell 0).trans (hr 0 (by omega)).1
  have n1 : wr.cell? ⟨gn, 6, none⟩ = some (.slice (A 1) (nl 1).length (ca 1)) := (hb.cell 6).trans (hr 1 (by omega)).1
  unfold muR sumR2 natAt
  rw [a0, a1, n0, n1]
  dsimp only
  omega
/-- A group has been read: its place and its row are laid anew. -/
theorem put (h : JMemR wb gt gn at_ nl wv want wr) {k : Nat} (hk : k < 2) {m : Nat} {ls : List Bs} {A' : Option Addr} {c' : Nat} {x1 x2 x3 x4 x5 : Value} (hc : Chg (fun j => j = gt) wr W) (hb : Blk W gt 82 #[.int .i64 (upd at_ k m 0 : Nat), .int .i64 (upd at_ k m 1 : Nat)])
    (hd : Chg (fun _ => False) W w2) (hr : Rd w2 (fun j => W.heap.size ≤ j) 1 A' ls.length (strs ls)) :
    JMemR wb gt gn (upd at_ k m) (upd nl k ls) wv want ((((((w2.setCell ⟨gn, k * 6, none⟩ (.slice A' ls.length c')).setCell ⟨gn, k * 6 + 1, none⟩ x1).setCell ⟨gn, k * 6 + 2, none⟩ x2).setCell ⟨gn, k * 6 + 3, none⟩ x3).setCell ⟨gn, k * 6 + 4, none⟩ x4).setCell ⟨gn, k * 6 + 5, none⟩ x5) := by
  obtain ⟨cs, A, ca, hbn, hsz, hrow⟩ := h.now
  have hgt : gt < wr.heap.size := h.bat.lt
  have hgn : gn < wr.heap.size := hbn.lt
  have hs := hc.size
  have hs2 := hd.size
  have hw2 : Chg (fun j => j = gt) wr w2 := hc.trans hd (fun _ h _ => h.elim)
  have q : ∀ {w3 : World}, Chg (fun j => j = gn) w2 w3 → ∀ i u, Chg (fun j => j = gn) w2 (w3.setCell ⟨gn, i, none⟩ u) := fun q i u => q.setCell (p := ⟨gn, i, none⟩) (.inl rfl) u
  have qe := q (q (q (q (q (q (Chg.refl (fun j => j = gn) w2) (k * 6) (.slice A' ls.length c')) (k * 6 + 1) x1) (k * 6 + 2) x2) (k * 6 + 3) x3) (k * 6 + 4) x4) (k * 6 + 5) x5
  have hbn2 : Blk w2 gn 102 cs := hbn.chg hw2 (fun e => h.ne e.symm)
  have hbe := (((((hbn2.set (k * 6) (.slice A' ls.length c')).set (k * 6 + 1) x1).set (k * 6 + 2) x2).set (k * 6 + 3) x3).set (k * 6 + 4) x4).set (k * 6 + 5) x5
  generalize ((((((w2.setCell ⟨gn, k * 6, none⟩ (.slice A' ls.length c')).setCell ⟨gn, k * 6 + 1, none⟩ x1).setCell ⟨gn, k * 6 + 2, none⟩ x2).setCell ⟨gn, k * 6 + 3, none⟩ x3).setCell ⟨gn, k * 6 + 4, none⟩ x4).setCell ⟨gn, k * 6 + 5, none⟩ x5) = w3 at *
  have hw3 : Chg (fun j => j = gt ∨ j = gn) wr w3 := (hw2.mono (S' := fun j => j = gt ∨ j = gn) (fun x hx _ => .inl hx)).trans qe (fun x hx _ => .inr hx)
  refine ⟨h.ne, h.chg.trans hw3 (fun _ h _ => h), (hb.chg hd (fun h => h)).chg qe h.ne, ⟨_, upd A k A', upd ca k c', hbe, by simpa using hsz, fun j hj => ?_⟩, ?_⟩
  · by_cases hjk : j = k
    · subst hjk
      refine ⟨?_, ?_⟩
      · rw [Array.getElem?_setIfInBounds_ne (by omega), Array.getElem?_setIfInBounds_ne (by omega), Array.getElem?_setIfInBounds_ne (by omega), Array.getElem?_setIfInBounds_ne (by omega), Array.getElem?_setIfInBounds_ne (by omega), Array.getElem?_setIfInBounds_self_of_lt (by omega), upd_same, upd_same, upd_same]
      · rw [upd_same, upd_same]
        exact (hr.chg qe (fun x hx _ e => by have h3 : x = gn := e; omega)).mono (fun x hx _ => ⟨by omega, by omega⟩)
    · refine ⟨?_, ?_⟩
      · rw [Array.getElem?_setIfInBounds_ne (by omega), Array.getElem?_setIfInBounds_ne (by omega), Array.getElem?_setIfInBounds_ne (by omega), Array.getElem?_setIfInBounds_ne (by omega), Array.getElem?_setIfInBounds_ne (by omega), Array.getElem?_setIfInBounds_ne (by omega), upd_ne _ _ hjk, upd_ne _ _ hjk, upd_ne _ _ hjk]
        exact (hrow j hj).1
      · rw [upd_ne _ _ hjk, upd_ne _ _ hjk]
        exact (hrow j hj).2.chg hw3 (fun x hx _ e => e.elim (fun e => hx.1 e) (fun e => hx.2 e))
  · obtain ⟨gw, e, h1, h2, h3, h4, h5⟩ := h.want
    have hx : ∀ i, w3.cell? ⟨gw, i, none⟩ = wr.cell? ⟨gw, i, none⟩ := fun i => hw3.cell (p := ⟨gw, i, none⟩) h3 (fun e => e.elim (fun e => h1 e) (fun e => h2 e))
    exact ⟨gw, e, h1, h2, Nat.lt_of_lt_of_le h3 hw3.size, (hx 0).trans h4, (hx 1).trans h5⟩
/-- What is wanted is laid anew. -/
theorem grow (h : JMemR wb gt gn at_ nl wv want wr) (hc : Chg (fun _ => False) wr W) (wv' : Nat → Bool) {b0 b1 : Bool} (h0 : wv' 0 = b0) (h1 : wv' 1 = b1) : JMemR wb gt gn at_ nl wv' (.slice (some ⟨W.heap.size, 0, none⟩) 2 2) (W.alloc (.cells #[.bool b0, .bool b1] 4)) := by
  obtain ⟨cs, A, ca, hbn, hsz, hrow⟩ := h.now
  subst h0 h1
  have hgt : gt < wr.heap.size := h.bat.lt
  have hgn : gn < wr.heap.size := hbn.lt
  have hs := hc.size
  have hc2 : Chg (fun _ => False) wr (W.alloc (.cells #[.bool (wv' 0), .bool (wv' 1)] 4)) := hc.alloc _
  have hbw := Blk.new W 4 #[.bool (wv' 0), .bool (wv' 1)]
  exact ⟨h.ne, h.chg.trans hc2 (fun _ h _ => h.elim), h.bat.chg hc2 (fun h => h), ⟨cs, A, ca, hbn.chg hc2 (fun h => h), hsz, fun k hk => ⟨(hrow k hk).1, (hrow k hk).2.chg hc2 (fun _ _ _ h => h)⟩⟩, W.heap.size, rfl, by omega, by omega, hbw.lt, (hbw.cell 0).trans rfl, (hbw.cell 1).trans rfl⟩
end JMemR

/-- What Lines answers, in a world that has grown out of w. -/
def LnsPost (w W : World) (r : RdL) (e : Ending) (w' : World) : Prop :=
  ∃ A c, e = .returned (.agg #[.slice A r.lines.length c, .bool r.all, .int .i64 r.code, .int .i64 r.stage, .int .i64 r.id]) ∧ Rd w' (fun k => w.heap.size ≤ k) 1 A r.lines.length (strs r.lines) ∧ Chg (fun _ => False) w w' ∧ Chg (fun _ => False) W w'

/-- What read answers, in a world that has grown out of W. -/
def RdgPost (W : World) (r : RdL) (G : GR) (e : Ending) (w' : World) : Prop :=
  ∃ A c no wh x1 x2 x3, e = .returned (.agg #[.slice A G.ls.length c, .bool no, .bool wh, .int .i64 x1, .int .i64 x2, .int .i64 x3]) ∧ Rd w' (fun j => W.heap.size ≤ j) 1 A G.ls.length (strs G.ls) ∧ Chg (fun _ => False) W w' ∧ GAns r G no wh x1 x2 x3

set_option maxHeartbeats 4000000 in
set_option maxRecDepth 100000 in
theorem rounds_any (D : Nat → Prop) (κ : Int) (N : Nat) (c : UInt8) (ins : List Strm) (hl2 : ins.length = 2) (hN1 : 1 ≤ N) (hN14 : N ≤ 14) (hl : ∀ s ∈ ins, s.bs.length ≤ 4000) (V1 V2 : Value) (ga oa : Nat) (ca ci : Nat) (A : Option Addr) (w : World)
    (hV : V1 = .slice (some ⟨ga, oa, none⟩) 1 ca) (hga : ga < w.heap.size) (hca : w.cell? ⟨ga, oa, none⟩ = some (.int .u8 c.toNat)) (hins : StrmsAt w D (.slice A ins.length ci) ins) :
    Calls Try.prog 20 #[.agg #[.int .i64 κ, .int .i64 N, V1, V2], .slice A ins.length ci] w (OutPost w (joMeans c N ins)) := by
  have hT64 : ∀ k, k < 2 → ∀ l ∈ insT ins k, l.length ≤ 64 := fun k _ l hlj => refLines_len (sAt ins k) l hlj
  have hlen : ∀ k, k < 2 → (refLines (sAt ins k)).lines.length ≤ 4000 := fun k hk => by
    have h3 := (refLines_sum (sAt ins k)).2
    have h4 := hl _ (List.getElem_mem (show k < ins.length by omega))
    rw [sAt_get (by omega)] at h3 ⊢
    omega
  subst hV
  obtain ⟨_, g2, o2, A2, c2, rfl, hg2, _, q0, q1, q2, q3, q4, hr2, hc2⟩ := hins.at_ (show 0 < ins.length by omega)
  obtain ⟨_, g3, o3, A3, c3, e3, hg3, _, s0, s1, s2, s3, s4, hr3, hc3⟩ := hins.at_ (show 1 < ins.length by omega)
  cases e3
  have hk0 : sAt ins 0 = ins[0] := sAt_get (by omega)
  have hk1 : sAt ins 1 = ins[1] := sAt_get (by omega)
  rw [← hk0] at q0 q1 q2 q3 q4 hr2 hc2
  rw [← hk1] at s0 s1 s2 s3 s4 hr3 hc3
  have hI : (ins.length : Int) = 2 := by omega
  simp only [Nat.zero_mul, Nat.add_zero, Nat.one_mul] at q0 q1 q2 q3 q4 s0 s1 s2 s3 s4
  have hst : Blk (w.alloc (.cells #[.int .i64 κ, .int .i64 N, .slice (some ⟨ga, oa, none⟩) 1 ca, V2] 24)) w.heap.size 24 #[.int .i64 κ, .int .i64 N, .slice (some ⟨ga, oa, none⟩) 1 ca, V2] := Blk.new _ _ _
  have hch0 : Chg (fun _ => False) w (w.alloc (.cells #[.int .i64 κ, .int .i64 N, .slice (some ⟨ga, oa, none⟩) 1 ca, V2] 24)) := (Chg.refl _ _).alloc _
  generalize hw0 : w.alloc (.cells #[.int .i64 κ, .int .i64 N, .slice (some ⟨ga, oa, none⟩) 1 ca, V2] 24) = w0 at hst hch0
  have hL : ∀ (k : Nat) (A : Option Addr) (c : Nat), k < 2 → Rd w D 1 A (sAt ins k).bs.length (u8s (sAt ins k).bs) → (sAt ins k).bs.length ≤ c → ∀ W, Chg (fun _ => False) w0 W → Calls Try.prog 32 #[.agg #[.slice A (sAt ins k).bs.length c, .bool (sAt ins k).ended, .int .i64 (sAt ins k).code, .int .i64 (sAt ins k).stage, .int .i64 (sAt ins k).id]] W (LnsPost w0 W (refLines (sAt ins k))) := fun k A c hk h1 h2 W hW => by
    have hcw := hch0.trans hW (fun _ h _ => h)
    refine (lines_any D _ _ W ⟨A, c, rfl, h1.chg hcw (fun _ _ _ h => h), h2⟩ (by rw [sAt_get (by omega)]; have := hl _ (List.getElem_mem (show k < ins.length by omega)); omega)).mono ?_
    rintro e w' ⟨v, rfl, hown, hb⟩
    obtain ⟨A', c', rfl, hrd⟩ := own_rd hown
    have hd : Chg (fun _ => False) W w' := Chg.of_below hb
    exact ⟨A', c', rfl, hrd.mono (fun k hk _ => Nat.le_trans hW.size hk), hW.trans hd (fun _ h _ => h), hd⟩
  have hL0 := hL 0 _ _ (by omega) hr2 hc2
  have hL1 := hL 1 _ _ (by omega) hr3 hc3
  have hlen0 := hlen 0 (by omega)
  have hlen1 := hlen 1 (by omega)
  generalize hR0 : refLines (sAt ins 0) = r0 at hL0 hlen0
  generalize hR1 : refLines (sAt ins 1) = r1 at hL1 hlen1
  have hS : ∀ W, Chg (fun _ => False) w0 W → (W.cell? ⟨g2, o2, none⟩ = some (.slice A2 (sAt ins 0).bs.length c2) ∧ W.cell? ⟨g2, o2 + 1, none⟩ = some (.bool (sAt ins 0).ended) ∧ W.cell? ⟨g2, o2 + 2, none⟩ = some (.int .i64 (sAt ins 0).code) ∧ W.cell? ⟨g2, o2 + 3, none⟩ = some (.int .i64 (sAt ins 0).stage) ∧ W.cell? ⟨g2, o2 + 4, none⟩ = some (.int .i64 (sAt ins 0).id)) ∧
      (W.cell? ⟨g2, o2 + 5, none⟩ = some (.slice A3 (sAt ins 1).bs.length c3) ∧ W.cell? ⟨g2, o2 + 5 + 1, none⟩ = some (.bool (sAt ins 1).ended) ∧ W.cell? ⟨g2, o2 + 5 + 2, none⟩ = some (.int .i64 (sAt ins 1).code) ∧ W.cell? ⟨g2, o2 + 5 + 3, none⟩ = some (.int .i64 (sAt ins 1).stage) ∧ W.cell? ⟨g2, o2 + 5 + 4, none⟩ = some (.int .i64 (sAt ins 1).id)) ∧ Chg (fun _ => False) w0 W := fun W hW => by
    have hcw := hch0.trans hW (fun _ h _ => h)
    have hx : ∀ i, W.cell? ⟨g2, i, none⟩ = w.cell? ⟨g2, i, none⟩ := fun i => hcw.cell (p := ⟨g2, i, none⟩) hg2 (fun h => h)
    exact ⟨⟨(hx _).trans q0, (hx _).trans q1, (hx _).trans q2, (hx _).trans q3, (hx _).trans q4⟩, ⟨(hx _).trans s0, (hx _).trans s1, (hx _).trans s2, (hx _).trans s3, (hx _).trans s4⟩, hW⟩
  have hP : w0.cell? ⟨w.heap.size, 2, none⟩ = some (.slice (some ⟨ga, oa, none⟩) 1 ca) := (hst.cell 2).trans rfl
  have hPa : w0.cell? ⟨ga, oa, none⟩ = some (.int .u8 c.toNat) := (hch0.cell (p := ⟨ga, oa, none⟩) hga (fun h => h)).trans hca
  have c0 : Chg (fun _ => False) w0 w0 := Chg.refl _ _
  have hS0 := hS w0 c0
  replace hR0 := Lib.hid hR0
  replace hR1 := Lib.hid hR1
  replace hL0 := Lib.hid hL0
  replace hL1 := Lib.hid hL1
  replace hS := Lib.hid hS
  replace hT64 := Lib.hid hT64
  replace hlen := Lib.hid hlen
  replace hk0 := Lib.hid hk0
  replace hk1 := Lib.hid hk1
  clear hL hr2 hr3 hc2 hc3 q0 q1 q2 q3 q4 s0 s1 s2 s3 s4
  replace hl2 := Lib.hid hl2
  go_enter Try.func20, Try.ntmps20
  go_wp2
  go_region_held3 (fun W => (W.cell? ⟨g2, o2, none⟩ = some (.slice A2 (sAt ins 0).bs.length c2) ∧ W.cell? ⟨g2, o2 + 1, none⟩ = some (.bool (sAt ins 0).ended) ∧ W.cell? ⟨g2, o2 + 2, none⟩ = some (.int .i64 (sAt ins 0).code) ∧ W.cell? ⟨g2, o2 + 3, none⟩ = some (.int .i64 (sAt ins 0).stage) ∧ W.cell? ⟨g2, o2 + 4, none⟩ = some (.int .i64 (sAt ins 0).id)) ∧
      (W.cell? ⟨g2, o2 + 5, none⟩ = some (.slice A3 (sAt ins 1).bs.length c3) ∧ W.cell? ⟨g2, o2 + 5 + 1, none⟩ = some (.bool (sAt ins 1).ended) ∧ W.cell? ⟨g2, o2 + 5 + 2, none⟩ = some (.int .i64 (sAt ins 1).code) ∧ W.cell? ⟨g2, o2 + 5 + 3, none⟩ = some (.int .i64 (sAt ins 1).stage) ∧ W.cell? ⟨g2, o2 + 5 + 4, none⟩ = some (.int .i64 (sAt ins 1).id)) ∧ Chg (fun _ => False) w0 W)
    (first
      | with_reducible exact hS0
      | with_reducible exact hS.out _ c0.drew
      | with_reducible exact hS.out _ dX
      | with_reducible exact hS.out _ dX.drew
      | with_reducible exact hS.out _ (dX.alloc _))
    (first
      | (go_at_call 32
         first
           | with_reducible refine Calls.mono (hL0.out _ c0) ?_
           | with_reducible refine Calls.mono (hL0.out _ c0.drew) ?_
           | with_reducible refine Calls.mono (hL0.out _ dX) ?_
           | with_reducible refine Calls.mono (hL0.out _ dX.drew) ?_
         rintro e7 w7 ⟨A7, c7, rfl, rd7, dX, dY⟩)
      | (go_at_call 32
         first
           | with_reducible refine Calls.mono (hL1.out _ c0) ?_
           | with_reducible refine Calls.mono (hL1.out _ c0.drew) ?_
           | with_reducible refine Calls.mono (hL1.out _ dX) ?_
           | with_reducible refine Calls.mono (hL1.out _ dX.drew) ?_
         rintro e8 w8 ⟨A8, c8, rfl, rd8, dX, dZ⟩))
  go_wp2
  have rd7' := rd7.chg dZ (fun _ _ _ h => h)
  have hs8 := dX.size
  obtain ⟨LC, hLC⟩ : ∃ LC : Array Value, LC = #[.slice A7 r0.lines.length c7, .bool r0.all, .int .i64 r0.code, .int .i64 r0.stage, .int .i64 r0.id, .slice A8 r1.lines.length c8, .bool r1.all, .int .i64 r1.code, .int .i64 r1.stage, .int .i64 r1.id] := ⟨_, rfl⟩
  rw [← hLC]
  generalize hwb : (((w8.alloc (.cells LC 97)).alloc (.cells #[.int .i64 0, .int .i64 0] 82)).alloc (.cells #[.slice none 0 0, .bool false, .bool false, .int .i64 0, .int .i64 0, .int .i64 0, .slice none 0 0, .bool false, .bool false, .int .i64 0, .int .i64 0, .int .i64 0] 102)).alloc (.cells #[.bool true, .bool true] 4) = wb
  have b0 : Blk wb w8.heap.size 97 LC := by rw [← hwb]; exact (((Blk.new w8 _ _).alloc _).alloc _).alloc _
  have b1 : Blk wb (w8.heap.size + 1) 82 #[.int .i64 0, .int .i64 0] := by
    have := Blk.new (w8.alloc (.cells LC 97)) 82 #[.int .i64 0, .int .i64 0]
    rw [show (w8.alloc (.cells LC 97)).heap.size = w8.heap.size + 1 by simp] at this
    rw [← hwb]; exact (this.alloc _).alloc _
  have b2 : Blk wb (w8.heap.size + 1 + 1) 102 #[.slice none 0 0, .bool false, .bool false, .int .i64 0, .int .i64 0, .int .i64 0, .slice none 0 0, .bool false, .bool false, .int .i64 0, .int .i64 0, .int .i64 0] := by
    have := Blk.new ((w8.alloc (.cells LC 97)).alloc (.cells #[.int .i64 0, .int .i64 0] 82)) 102 #[.slice none 0 0, .bool false, .bool false, .int .i64 0, .int .i64 0, .int .i64 0, .slice none 0 0, .bool false, .bool false, .int .i64 0, .int .i64 0, .int .i64 0]
    rw [show ((w8.alloc (.cells LC 97)).alloc (.cells #[.int .i64 0, .int .i64 0] 82)).heap.size = w8.heap.size + 1 + 1 by simp] at this
    rw [← hwb]; exact this.alloc _
  have b3 : Blk wb (w8.heap.size + 1 + 1 + 1) 4 #[.bool true, .bool true] := by
    have := Blk.new (((w8.alloc (.cells LC 97)).alloc (.cells #[.int .i64 0, .int .i64 0] 82)).alloc (.cells #[.slice none 0 0, .bool false, .bool false, .int .i64 0, .int .i64 0, .int .i64 0, .slice none 0 0, .bool false, .bool false, .int .i64 0, .int .i64 0, .int .i64 0] 102)) 4 #[.bool true, .bool true]
    rw [show (((w8.alloc (.cells LC 97)).alloc (.cells #[.int .i64 0, .int .i64 0] 82)).alloc (.cells #[.slice none 0 0, .bool false, .bool false, .int .i64 0, .int .i64 0, .int .i64 0, .slice none 0 0, .bool false, .bool false, .int .i64 0, .int .i64 0, .int .i64 0] 102)).heap.size = w8.heap.size + 1 + 1 + 1 by simp] at this
    rw [← hwb]; exact this
  have d8 : Chg (fun _ => False) w8 wb := by rw [← hwb]; exact ((((Chg.refl _ _).alloc _).alloc _).alloc _).alloc _
  have hcb : Chg (fun _ => False) w0 wb := dX.trans d8 (fun _ h _ => h)
  have rdA := (rd7'.mono (D' := fun j => j < w8.heap.size) (fun j _ h => h)).chg d8 (fun _ _ _ h => h)
  have rdB := (rd8.mono (D' := fun j => j < w8.heap.size) (fun j _ h => h)).chg d8 (fun _ _ _ h => h)
  clear hwb
  have hlt3 := b3.lt
  generalize hg3 : w8.heap.size + 1 + 1 + 1 = g3 at b3 hlt3 ⊢
  generalize hgn : w8.heap.size + 1 + 1 = gn at b2 ⊢
  generalize hgt : w8.heap.size + 1 = gt at b1 ⊢
  generalize hgl : w8.heap.size = gl at *
  have p1 : wb.cell? ⟨w.heap.size, 1, none⟩ = some (.int .i64 N) := ((hst.chg hcb (fun h => h)).cell 1).trans rfl
  have hstl := hst.lt
  have hcw : Chg (fun _ => False) w wb := hch0.trans hcb (fun _ h _ => h)
  have m0 : JMemR wb gt gn (fun _ => 0) (fun _ => []) (fun _ => true) (.slice (some ⟨g3, 0, none⟩) 2 2) wb := by
    refine ⟨by omega, Chg.refl _ _, b1, ⟨_, fun _ => none, fun _ => 0, b2, rfl, fun k hk => ?_⟩, g3, rfl, by omega, by omega, hlt3, (b3.cell 0).trans rfl, (b3.cell 1).trans rfl⟩
    obtain rfl | rfl : k = 0 ∨ k = 1 := by omega
    · exact ⟨rfl, Rd.nil _ _ _ _⟩
    · exact ⟨rfl, Rd.nil _ _ _ _⟩
  have hst' := hst.chg hcb (fun h => h)
  have hltb := b0.lt
  have hgg : gl < gt ∧ gt < gn ∧ w.heap.size < gt ∧ w.heap.size < gl := by omega
  obtain ⟨hg1, hg2', hg4, hg5⟩ := hgg
  have hmne : ¬ gt = gn := by omega
  have hdA : ∀ j, j < gl → ¬ (j = gt ∨ j = gn) := fun j hj => by omega
  replace hgl := Lib.hid hgl
  replace hgt := Lib.hid hgt
  replace hgn := Lib.hid hgn
  replace hg3 := Lib.hid hg3
  replace hLC := Lib.hid hLC
  clear hst hch0 hS hS0 hL0 hL1 rd7 rd7' rd8 dX dY dZ d8 hP hPa c0 b1 b2 b3 hlt3
  replace b0 := Lib.hid b0
  go_loopw [10, 9] (fun s want wr => ∃ a at_ nl out wv, s = strv (joinS out) ∧ JN c N (insT ins) (insE ins) a at_ nl out ∧ (∀ k, k < 2 → a.want k = wv k) ∧ (wv 0 = true ∨ wv 1 = true) ∧ JMemR wb gt gn at_ nl wv want wr) (fun _ _ wr => 8000 - muR gt gn wr)
  case atStart => exact ⟨_, _, _, [], fun _ => true, rfl, JN.start hT64.out, fun _ _ => rfl, .inl rfl, m0⟩
  case round =>
    obtain ⟨a, at_, nl, out, wv, rfl, hjn, hwv, hor, hmem⟩ := hrel
    clear m0
    replace hmem := Lib.hid hmem
    go_wp2
    go_loopw [11] (fun i wq => ∃ (k : Nat) (a' : JA) (at' : Nat → Nat) (nl' : Nat → List Bs), k ≤ 2 ∧ i = .int .i64 k ∧ JN c N (insT ins) (insE ins) a' at' nl' out ∧ (∀ j, j < 2 → a'.want j = if j < k then false else wv j) ∧ JMemR wb gt gn at' nl' wv u9 wq ∧ sumR2 at_ nl ≤ sumR2 at' nl' ∧ ((∃ j, j < k ∧ wv j = true) → sumR2 at_ nl < sumR2 at' nl')) (fun i _ => 2 - (intOf i).toNat)
    case atStart => exact ⟨0, a, at_, nl, by omega, rfl, hjn, fun j hj => by rw [if_neg (by omega)]; exact hwv j hj, hmem.out, Nat.le_refl _, fun ⟨j, hj, _⟩ => by omega⟩
    case round =>
      obtain ⟨k, a', at', nl', hk, rfl, hjn', hw', hm', hsum, hprog⟩ := hrel
      obtain ⟨gw, rfl, hw1, hw2, hw3, hw4, hw5⟩ := hm'.want
      by_cases hk2 : k < 2
      · obtain rfl | rfl : k = 0 ∨ k = 1 := by omega
        -- the two sides
        · cases hwk : wv 0 with
          | false =>
            rw [hwk] at hw4
            replace hm' := Lib.hid hm'
            replace hw5 := Lib.hid hw5
            go_wp2
            go_roundw
            case rel =>
              refine ⟨0 + 1, a', at', nl', by omega, rfl, hjn', fun j hj => ?_, hm'.out, hsum, fun ⟨j, hj, hj2⟩ => ?_⟩
              · rw [hw' j hj]
                by_cases hjk : j = 0
                · subst hjk; rw [if_neg (by omega), if_pos (by omega), hwk]
                · by_cases hj3 : j < 0
                  · rw [if_pos hj3, if_pos (by omega)]
                  · rw [if_neg hj3, if_neg (by omega)]
              · by_cases hjk : j = 0
                · subst hjk; rw [hwk] at hj2; cases hj2
                · exact hprog ⟨j, by omega, hj2⟩
            case measure => simp [intOf]
          | true =>
            rw [hwk] at hw4
            have hwant : a'.want 0 = true := (hw' 0 (by omega)).trans (by rw [if_neg (by omega)]; exact hwk)
            have hwant0 : (0 : Nat) = 1 → a'.want 0 = false := fun h => by cases h
            have hle := hjn'.le 0 (by omega)
            have hG : JN.G c N (insT ins) (insE ins) at' nl' 0 = jgo c N r0.all [] [] (r0.lines.drop (at' 0 + (nl' 0).length)) := by rw [← hR0.out]; rfl
            have hle0 : at' 0 + (nl' 0).length ≤ r0.lines.length := by rw [← hR0.out]; exact hle
            have hleI : (at' 0 : Int) + ((nl' 0).length : Int) ≤ 4000 := by omega
            have hl00 : (0 : Int) ≤ (at' 0 : Int) := by omega
            have hl01 : (0 : Int) ≤ ((nl' 0).length : Int) := by omega
            have hadd : ((at' 0 : Nat) : Int) + (((nl' 0).length : Nat) : Int) = ((at' 0 + (nl' 0).length : Nat) : Int) := by omega
            obtain ⟨cs, An, cn, hbn, hsz, hrow⟩ := hm'.now
            have hcell0 := (hrow 0 (by omega)).1
            have f0 : wr.cell? ⟨gt, 0, none⟩ = some (.int .i64 (at' 0 : Nat)) := (hm'.bat.cell 0).trans rfl
            have f1 : wr.cell? ⟨gn, 0, none⟩ = some (.slice (An 0) (nl' 0).length (cn 0)) := (hbn.cell 0).trans hcell0
            have f2 : wr.frozen? ⟨gt, 0, none⟩ = false := hm'.bat.frozen 0
            have hc1 := hm'.chg
            have hgnl := hbn.lt
            have hgtl := hm'.bat.lt
            have hb11 := hm'.bat.set 0 (.int .i64 (((at' 0 : Nat) : Int) + (((nl' 0).length : Nat) : Int)))
            have hc11 := ((Chg.refl (fun j => j = gt) wr).setCell (p := ⟨gt, 0, none⟩) (.inl rfl) (.int .i64 (((at' 0 : Nat) : Int) + (((nl' 0).length : Nat) : Int)))).drew
            have hbn11 := ((hbn.far (p := ⟨gt, 0, none⟩) (Ne.symm hm'.ne) (.int .i64 (((at' 0 : Nat) : Int) + (((nl' 0).length : Nat) : Int)))).drew)
            replace hm' := Lib.hid hm'
            replace hG := Lib.hid hG
            replace hw5 := Lib.hid hw5
            replace hadd := Lib.hid hadd
            replace hwant := Lib.hid hwant
            replace hwant0 := Lib.hid hwant0
            replace hb11 := Lib.hid hb11
            replace hc11 := Lib.hid hc11
            replace hbn11 := Lib.hid hbn11
            replace hc1 := Lib.hid hc1
            go_wp2
            go_region
            clear f0 f1 f2
            generalize hW11 : (wr.setCell ⟨gt, 0, none⟩ (.int .i64 (((at' 0 : Nat) : Int) + (((nl' 0).length : Nat) : Int)))).drew = W11 at hc11 hbn11 ⊢
            have hb11' : Blk W11 gt 82 #[.int .i64 (upd at' 0 (at' 0 + (nl' 0).length) 0 : Nat), .int .i64 (upd at' 0 (at' 0 + (nl' 0).length) 1 : Nat)] := by
              rw [← hW11]
              have := hb11.out
              rw [hadd.out] at this
              exact this
            clear hW11 hb11
            obtain ⟨m, hm⟩ : ∃ m, m = at' 0 + (nl' 0).length := ⟨_, rfl⟩
            rw [← hm] at hb11' hle0 hadd
            replace hm := Lib.hid hm
            obtain ⟨v0, k0⟩ : ∃ v, cs[0]? = some v := ⟨_, Array.getElem?_eq_getElem (by omega)⟩
            obtain ⟨v1, k1⟩ : ∃ v, cs[1]? = some v := ⟨_, Array.getElem?_eq_getElem (by omega)⟩
            obtain ⟨v2, k2⟩ : ∃ v, cs[2]? = some v := ⟨_, Array.getElem?_eq_getElem (by omega)⟩
            obtain ⟨v3, k3⟩ : ∃ v, cs[3]? = some v := ⟨_, Array.getElem?_eq_getElem (by omega)⟩
            obtain ⟨v4, k4⟩ : ∃ v, cs[4]? = some v := ⟨_, Array.getElem?_eq_getElem (by omega)⟩
            obtain ⟨v5, k5⟩ : ∃ v, cs[5]? = some v := ⟨_, Array.getElem?_eq_getElem (by omega)⟩
            have hY : ∀ W, Chg (fun _ => False) W11 W → (W.cell? ⟨gn, 0, none⟩ = some v0 ∧ W.cell? ⟨gn, 1, none⟩ = some v1 ∧ W.cell? ⟨gn, 2, none⟩ = some v2 ∧ W.cell? ⟨gn, 3, none⟩ = some v3 ∧ W.cell? ⟨gn, 4, none⟩ = some v4 ∧ W.cell? ⟨gn, 5, none⟩ = some v5) ∧ ∀ i, W.frozen? ⟨gn, i, none⟩ = false := fun W hW => by
              have hb := hbn11.out.chg hW (fun h => h)
              exact ⟨⟨(hb.cell _).trans k0, (hb.cell _).trans k1, (hb.cell _).trans k2, (hb.cell _).trans k3, (hb.cell _).trans k4, (hb.cell _).trans k5⟩, fun i => hb.frozen i⟩
            clear k0 k1 k2 k3 k4 k5
            have hcwb : ∀ W, Chg (fun j => j = gn) W11 W → Chg (fun j => j = gt ∨ j = gn) wb W := fun W hW => (hc1.out.trans (hc11.out.mono (S' := fun j => j = gt ∨ j = gn) (fun _ h _ => .inl h)) (fun _ h _ => h)).trans hW (fun _ h _ => .inr h)
            have hS12 : ∀ W, Chg (fun j => j = gn) W11 W → (W.cell? ⟨gl, 0, none⟩ = some (.slice A7 r0.lines.length c7) ∧ W.cell? ⟨gl, 1, none⟩ = some (.bool r0.all) ∧ W.cell? ⟨gl, 2, none⟩ = some (.int .i64 r0.code) ∧ W.cell? ⟨gl, 3, none⟩ = some (.int .i64 r0.stage) ∧ W.cell? ⟨gl, 4, none⟩ = some (.int .i64 r0.id)) ∧ W.cell? ⟨gt, 0, none⟩ = some (.int .i64 (m : Int)) ∧ W.cell? ⟨w.heap.size, 1, none⟩ = some (.int .i64 (N : Int)) ∧ Chg (fun j => j = gn) W11 W := fun W hW => by
              have hcx := hcwb W hW
              have hbl := b0.out.chg hcx (fun h => by omega)
              have hbt := hb11'.chg hW hmne
              have hbp := hst'.chg hcx (fun h => by omega)
              refine ⟨⟨(hbl.cell _).trans ?_, (hbl.cell _).trans ?_, (hbl.cell _).trans ?_, (hbl.cell _).trans ?_, (hbl.cell _).trans ?_⟩, (hbt.cell _).trans ?_, (hbp.cell _).trans rfl, hW⟩
              · rw [hLC.out]; rfl
              · rw [hLC.out]; rfl
              · rw [hLC.out]; rfl
              · rw [hLC.out]; rfl
              · rw [hLC.out]; rfl
              · have e : upd at' 0 m 0 = m := upd_same _ _ _
                rw [show (#[Value.int .i64 (upd at' 0 m 0 : Nat), .int .i64 (upd at' 0 m 1 : Nat)] : Array Value)[0]? = some (.int .i64 (upd at' 0 m 0 : Nat)) from rfl, e]
            obtain ⟨G, hGe⟩ : ∃ G, G = JN.G c N (insT ins) (insE ins) at' nl' 0 := ⟨_, rfl⟩
            have hread : ∀ W, Chg (fun _ => False) W11 W → Calls Try.prog 33 #[.agg #[.slice A7 r0.lines.length c7, .bool r0.all, .int .i64 r0.code, .int .i64 r0.stage, .int .i64 r0.id], .int .i64 (m : Int), .int .i64 (N : Int), .int .u8 c.toNat] W (RdgPost W11 r0 G) := fun W hW => by
              have hrd := rdA.chg (hcwb W (hW.mono (fun _ h _ => h.elim))) (fun j hj _ => hdA j hj)
              refine (read_any _ r0 c N m A7 c7 W hrd hN1 (by omega) hle0 (by omega) (by rw [← hR0.out]; exact hT64.out 0 (by omega))).mono ?_
              rintro e w' ⟨v, no, wh, x1, x2, x3, rfl, hown, hb, hans⟩
              obtain ⟨A5, c5, rfl, hr5⟩ := own_rd hown
              rw [hGe, hG.out, ← hm.out]
              exact ⟨A5, c5, no, wh, x1, x2, x3, rfl, hr5.mono (fun j hj _ => Nat.le_trans hW.size hj), hW.trans (Chg.of_below hb) (fun _ h _ => h), hans⟩
            have cN := Chg.refl (fun j => j = gn) W11
            have cF := Chg.refl (fun _ => False) W11
            have hS120 := hS12 W11 cN
            have hfin : ∀ W, Chg (fun j => j = gn) W11 W → ∀ e w', OutPost W (joMeans c N ins) e w' → OutPost w (joMeans c N ins) e w' := fun W hW e w' ho => by
              have hx : Chg (fun _ => False) w W := hcw.trans ((hcwb W hW).mono (S' := fun j => w.heap.size ≤ j) (fun j h _ => by omega)) (fun j h1 h2 => by have h1 : w.heap.size ≤ j := h1; omega)
              exact out_of' ho hx.size hx
            replace hS12 := Lib.hid hS12
            replace hY := Lib.hid hY
            replace hread := Lib.hid hread
            replace hfin := Lib.hid hfin
            replace hcwb := Lib.hid hcwb
            replace hb11' := Lib.hid hb11'
            replace hGe := Lib.hid hGe
            replace hsum := Lib.hid hsum
            replace hw' := Lib.hid hw'
            replace hprog := Lib.hid hprog
            replace hmem := Lib.hid hmem
            by_cases hE : G.err = 0 ∧ G.what = 2
            · have hmeans : joMeans c N ins = refOut (joinS out) true 0 0 0 := hjn'.none_ (by omega) hwant.out hwant0.out (by rw [← hGe.out]; exact hE.1) (by rw [← hGe.out]; exact hE.2)
              replace hmeans := Lib.hid hmeans
              go_wp2
              go_region_held3 (fun W => (W.cell? ⟨gl, 0, none⟩ = some (.slice A7 r0.lines.length c7) ∧ W.cell? ⟨gl, 1, none⟩ = some (.bool r0.all) ∧ W.cell? ⟨gl, 2, none⟩ = some (.int .i64 r0.code) ∧ W.cell? ⟨gl, 3, none⟩ = some (.int .i64 r0.stage) ∧ W.cell? ⟨gl, 4, none⟩ = some (.int .i64 r0.id)) ∧ W.cell? ⟨gt, 0, none⟩ = some (.int .i64 (m : Int)) ∧ W.cell? ⟨w.heap.size, 1, none⟩ = some (.int .i64 (N : Int)) ∧ Chg (fun j => j = gn) W11 W)
                (first
                  | with_reducible exact hS120
                  | with_reducible exact hS12.out _ cN.drew
                  | with_reducible exact hS12.out _ dN
                  | with_reducible exact hS12.out _ cE)
                (first
                  | (go_at_call 33
                     first
                       | with_reducible refine Calls.mono (hread.out _ cF) ?_
                       | with_reducible refine Calls.mono (hread.out _ cF.drew) ?_
                     rintro e7 w7 ⟨A5, c5, no, wh, x1, x2, x3, rfl, rd5, dF, hans⟩
                     have hno : no = true := hans.no_.2 hE
                     have hwh : wh = false := by (cases wh with | false => rfl | true => have := hans.wh_.1 rfl; omega)
                     subst hno hwh
                     have dN : Chg (fun j => j = gn) W11 w7 := dF.mono (fun _ h _ => h.elim)
                     have cE := ((((((dN.setCell (p := ⟨gn, 0, none⟩) (.inl rfl) (.slice A5 G.ls.length c5)).setCell (p := ⟨gn, 1, none⟩) (.inl rfl) (.bool true)).setCell (p := ⟨gn, 2, none⟩) (.inl rfl) (.bool false)).setCell (p := ⟨gn, 3, none⟩) (.inl rfl) (.int .i64 x1)).setCell (p := ⟨gn, 4, none⟩) (.inl rfl) (.int .i64 x2)).setCell (p := ⟨gn, 5, none⟩) (.inl rfl) (.int .i64 x3))
                     obtain ⟨⟨y0, y1, y2, y3, y4, y5⟩, yf⟩ := hY.out w7 dF))
              go_wp2_with (first
                | (go_at_call 34
                   refine (out_any (joinS out) true 0 0 0 _).mono ?_
                   rw [← hmeans.out]
                   intro e8 w8 ho8
                   have ho9 := hfin.out _ cE _ _ ho8
                   obtain ⟨v8, rfl, h8, b8⟩ := ho9))
              go_ret
              exact ⟨_, rfl, h8, b8⟩
            · by_cases hE2 : G.err = 0 ∧ G.what = 0
              · obtain ⟨hjn2, hne⟩ := hjn'.whole hN1 (by omega) hwant.out hwant0.out (by rw [← hGe.out]; exact hE2.1) (by rw [← hGe.out]; exact hE2.2)
                replace hjn2 := Lib.hid hjn2
                replace hne := Lib.hid hne
                go_wp2
                go_region_held3 (fun W => (W.cell? ⟨gl, 0, none⟩ = some (.slice A7 r0.lines.length c7) ∧ W.cell? ⟨gl, 1, none⟩ = some (.bool r0.all) ∧ W.cell? ⟨gl, 2, none⟩ = some (.int .i64 r0.code) ∧ W.cell? ⟨gl, 3, none⟩ = some (.int .i64 r0.stage) ∧ W.cell? ⟨gl, 4, none⟩ = some (.int .i64 r0.id)) ∧ W.cell? ⟨gt, 0, none⟩ = some (.int .i64 (m : Int)) ∧ W.cell? ⟨w.heap.size, 1, none⟩ = some (.int .i64 (N : Int)) ∧ Chg (fun j => j = gn) W11 W)
                  (first
                    | with_reducible exact hS120
                    | with_reducible exact hS12.out _ cN.drew
                    | with_reducible exact hS12.out _ dN
                    | with_reducible exact hS12.out _ cE)
                  (first
                    | (go_at_call 33
                       first
                         | with_reducible refine Calls.mono (hread.out _ cF) ?_
                         | with_reducible refine Calls.mono (hread.out _ cF.drew) ?_
                       rintro e7 w7 ⟨A5, c5, no, wh, x1, x2, x3, rfl, rd5, dF, hans⟩
                       have hno : no = false := by (cases no with | false => rfl | true => have := hans.no_.1 rfl; omega)
                       have hwh : wh = true := hans.wh_.2 hE2
                       subst hno hwh
                       have dN : Chg (fun j => j = gn) W11 w7 := dF.mono (fun _ h _ => h.elim)
                       have cE := ((((((dN.setCell (p := ⟨gn, 0, none⟩) (.inl rfl) (.slice A5 G.ls.length c5)).setCell (p := ⟨gn, 1, none⟩) (.inl rfl) (.bool false)).setCell (p := ⟨gn, 2, none⟩) (.inl rfl) (.bool true)).setCell (p := ⟨gn, 3, none⟩) (.inl rfl) (.int .i64 x1)).setCell (p := ⟨gn, 4, none⟩) (.inl rfl) (.int .i64 x2)).setCell (p := ⟨gn, 5, none⟩) (.inl rfl) (.int .i64 x3))
                       obtain ⟨⟨y0, y1, y2, y3, y4, y5⟩, yf⟩ := hY.out w7 dF))
                go_wp2
                go_roundw
                case rel =>
                  have hput := hm'.out.put (k := 0) (by omega) (m := m) (x1 := .bool false) (x2 := .bool true) (x3 := .int .i64 x1) (x4 := .int .i64 x2) (x5 := .int .i64 x3) (c' := c5) hc11.out hb11'.out dF rd5
                  have hls := hne.out
                  rw [← hGe.out] at hls
                  have hpos := List.length_pos_iff.2 hls
                  have hj3 := hjn2.out
                  rw [← hGe.out, ← hm.out] at hj3
                  have hsu : sumR2 at' nl' < sumR2 (upd at' 0 m) (upd nl' 0 G.ls) := by
                    have e1 := hm.out
                    have e2 : upd at' 0 m 0 = m := upd_same _ _ _
                    have e3 : upd nl' 0 G.ls 0 = G.ls := upd_same _ _ _
                    have e4 : upd at' 0 m 1 = at' 1 := upd_ne _ _ (by decide)
                    have e5 : upd nl' 0 G.ls 1 = nl' 1 := upd_ne _ _ (by decide)
                    unfold sumR2
                    rw [e2, e3, e4, e5]
                    omega
                  have hs2 := hsum.out
                  refine ⟨0 + 1, _, upd at' 0 m, upd nl' 0 G.ls, by omega, rfl, hj3, fun j hj => ?_, hput, by omega, fun _ => by omega⟩
                  show upd a'.want 0 false j = _
                  by_cases hjk : j = 0
                  · subst hjk; rw [upd_same, if_pos (by omega)]
                  · rw [upd_ne _ _ hjk, hw'.out j hj]
                    by_cases hj3 : j < 0
                    · rw [if_pos hj3, if_pos (by omega)]
                    · rw [if_neg hj3, if_neg (by omega)]
                case measure => simp [intOf]
              · have hmeans : ∀ x1 x2 x3, GAns r0 G false false x1 x2 x3 → joMeans c N ins = refOut (joinS out) false x1 x2 x3 := fun x1 x2 x3 hans => by
                  by_cases hE3 : G.err = 0
                  · have hw1 : G.what = 1 := by
                      have := (jgo_what c N (insE ins 0) ((insT ins 0).drop (at' 0 + (nl' 0).length)) [] []).1
                      have e : G.what = (jgo c N (insE ins 0) [] [] ((insT ins 0).drop (at' 0 + (nl' 0).length))).what := by rw [hGe.out]; rfl
                      omega
                    obtain ⟨rfl, rfl, rfl⟩ := hans.rest hE3 (by omega)
                    rw [← hR0.out]
                    exact hjn'.wait_ (by omega) hwant.out hwant0.out (by rw [← hGe.out]; exact hE3) (by rw [← hGe.out]; exact hw1)
                  · obtain ⟨rfl, rfl, rfl⟩ := hans.bad hE3
                    have := hjn'.bad_ (k := 0) (by omega) hwant.out hwant0.out (by rw [← hGe.out]; exact hE3)
                    rw [← hGe.out] at this
                    exact this
                replace hmeans := Lib.hid hmeans
                go_wp2
                go_region_held3 (fun W => (W.cell? ⟨gl, 0, none⟩ = some (.slice A7 r0.lines.length c7) ∧ W.cell? ⟨gl, 1, none⟩ = some (.bool r0.all) ∧ W.cell? ⟨gl, 2, none⟩ = some (.int .i64 r0.code) ∧ W.cell? ⟨gl, 3, none⟩ = some (.int .i64 r0.stage) ∧ W.cell? ⟨gl, 4, none⟩ = some (.int .i64 r0.id)) ∧ W.cell? ⟨gt, 0, none⟩ = some (.int .i64 (m : Int)) ∧ W.cell? ⟨w.heap.size, 1, none⟩ = some (.int .i64 (N : Int)) ∧ Chg (fun j => j = gn) W11 W)
                  (first
                    | with_reducible exact hS120
                    | with_reducible exact hS12.out _ cN.drew
                    | with_reducible exact hS12.out _ dN
                    | with_reducible exact hS12.out _ cE)
                  (first
                    | (go_at_call 33
                       first
                         | with_reducible refine Calls.mono (hread.out _ cF) ?_
                         | with_reducible refine Calls.mono (hread.out _ cF.drew) ?_
                       rintro e7 w7 ⟨A5, c5, no, wh, x1, x2, x3, rfl, rd5, dF, hans⟩
                       have hno : no = false := by (cases no with | false => rfl | true => exact absurd (hans.no_.1 rfl) hE)
                       have hwh : wh = false := by (cases wh with | false => rfl | true => exact absurd (hans.wh_.1 rfl) hE2)
                       subst hno hwh
                       have dN : Chg (fun j => j = gn) W11 w7 := dF.mono (fun _ h _ => h.elim)
                       have cE := ((((((dN.setCell (p := ⟨gn, 0, none⟩) (.inl rfl) (.slice A5 G.ls.length c5)).setCell (p := ⟨gn, 1, none⟩) (.inl rfl) (.bool false)).setCell (p := ⟨gn, 2, none⟩) (.inl rfl) (.bool false)).setCell (p := ⟨gn, 3, none⟩) (.inl rfl) (.int .i64 x1)).setCell (p := ⟨gn, 4, none⟩) (.inl rfl) (.int .i64 x2)).setCell (p := ⟨gn, 5, none⟩) (.inl rfl) (.int .i64 x3))
                       obtain ⟨⟨y0, y1, y2, y3, y4, y5⟩, yf⟩ := hY.out w7 dF))
                go_wp2_with (first
                  | (go_at_call 34
                     refine (out_any (joinS out) false x1 x2 x3 _).mono ?_
                     rw [← hmeans.out _ _ _ hans]
                     intro e8 w8 ho8
                     have ho9 := hfin.out _ cE _ _ ho8
                     obtain ⟨v8, rfl, h8, b8⟩ := ho9))
                go_ret
                exact ⟨_, rfl, h8, b8⟩
        · cases hwk : wv 1 with
          | false =>
            rw [hwk] at hw5
            replace hm' := Lib.hid hm'
            replace hw4 := Lib.hid hw4
            go_wp2
            go_roundw
            case rel =>
              refine ⟨1 + 1, a', at', nl', by omega, rfl, hjn', fun j hj => ?_, hm'.out, hsum, fun ⟨j, hj, hj2⟩ => ?_⟩
              · rw [hw' j hj]
                by_cases hjk : j = 1
                · subst hjk; rw [if_neg (by omega), if_pos (by omega), hwk]
                · by_cases hj3 : j < 1
                  · rw [if_pos hj3, if_pos (by omega)]
                  · rw [if_neg hj3, if_neg (by omega)]
              · by_cases hjk : j = 1
                · subst hjk; rw [hwk] at hj2; cases hj2
                · exact hprog ⟨j, by omega, hj2⟩
            case measure => simp [intOf]
          | true =>
            rw [hwk] at hw5
            have hwant : a'.want 1 = true := (hw' 1 (by omega)).trans (by rw [if_neg (by omega)]; exact hwk)
            have hwant0 : (1 : Nat) = 1 → a'.want 0 = false := fun _ => (hw' 0 (by omega)).trans (by rw [if_pos (by omega)])
            have hle := hjn'.le 1 (by omega)
            have hG : JN.G c N (insT ins) (insE ins) at' nl' 1 = jgo c N r1.all [] [] (r1.lines.drop (at' 1 + (nl' 1).length)) := by rw [← hR1.out]; rfl
            have hle0 : at' 1 + (nl' 1).length ≤ r1.lines.length := by rw [← hR1.out]; exact hle
            have hleI : (at' 1 : Int) + ((nl' 1).length : Int) ≤ 4000 := by omega
            have hl00 : (0 : Int) ≤ (at' 1 : Int) := by omega
            have hl01 : (0 : Int) ≤ ((nl' 1).length : Int) := by omega
            have hadd : ((at' 1 : Nat) : Int) + (((nl' 1).length : Nat) : Int) = ((at' 1 + (nl' 1).length : Nat) : Int) := by omega
            obtain ⟨cs, An, cn, hbn, hsz, hrow⟩ := hm'.now
            have hcell0 := (hrow 1 (by omega)).1
            have f0 : wr.cell? ⟨gt, 1, none⟩ = some (.int .i64 (at' 1 : Nat)) := (hm'.bat.cell 1).trans rfl
            have f1 : wr.cell? ⟨gn, 6, none⟩ = some (.slice (An 1) (nl' 1).length (cn 1)) := (hbn.cell 6).trans hcell0
            have f2 : wr.frozen? ⟨gt, 1, none⟩ = false := hm'.bat.frozen 1
            have hc1 := hm'.chg
            have hgnl := hbn.lt
            have hgtl := hm'.bat.lt
            have hb11 := hm'.bat.set 1 (.int .i64 (((at' 1 : Nat) : Int) + (((nl' 1).length : Nat) : Int)))
            have hc11 := ((Chg.refl (fun j => j = gt) wr).setCell (p := ⟨gt, 1, none⟩) (.inl rfl) (.int .i64 (((at' 1 : Nat) : Int) + (((nl' 1).length : Nat) : Int)))).drew
            have hbn11 := ((hbn.far (p := ⟨gt, 1, none⟩) (Ne.symm hm'.ne) (.int .i64 (((at' 1 : Nat) : Int) + (((nl' 1).length : Nat) : Int)))).drew)
            replace hm' := Lib.hid hm'
            replace hG := Lib.hid hG
            replace hw4 := Lib.hid hw4
            replace hadd := Lib.hid hadd
            replace hwant := Lib.hid hwant
            replace hwant0 := Lib.hid hwant0
            replace hb11 := Lib.hid hb11
            replace hc11 := Lib.hid hc11
            replace hbn11 := Lib.hid hbn11
            replace hc1 := Lib.hid hc1
            go_wp2
            go_region
            clear f0 f1 f2
            generalize hW11 : (wr.setCell ⟨gt, 1, none⟩ (.int .i64 (((at' 1 : Nat) : Int) + (((nl' 1).length : Nat) : Int)))).drew = W11 at hc11 hbn11 ⊢
            have hb11' : Blk W11 gt 82 #[.int .i64 (upd at' 1 (at' 1 + (nl' 1).length) 0 : Nat), .int .i64 (upd at' 1 (at' 1 + (nl' 1).length) 1 : Nat)] := by
              rw [← hW11]
              have := hb11.out
              rw [hadd.out] at this
              exact this
            clear hW11 hb11
            obtain ⟨m, hm⟩ : ∃ m, m = at' 1 + (nl' 1).length := ⟨_, rfl⟩
            rw [← hm] at hb11' hle0 hadd
            replace hm := Lib.hid hm
            obtain ⟨v0, k0⟩ : ∃ v, cs[6]? = some v := ⟨_, Array.getElem?_eq_getElem (by omega)⟩
            obtain ⟨v1, k1⟩ : ∃ v, cs[7]? = some v := ⟨_, Array.getElem?_eq_getElem (by omega)⟩
            obtain ⟨v2, k2⟩ : ∃ v, cs[8]? = some v := ⟨_, Array.getElem?_eq_getElem (by omega)⟩
            obtain ⟨v3, k3⟩ : ∃ v, cs[9]? = some v := ⟨_, Array.getElem?_eq_getElem (by omega)⟩
            obtain ⟨v4, k4⟩ : ∃ v, cs[10]? = some v := ⟨_, Array.getElem?_eq_getElem (by omega)⟩
            obtain ⟨v5, k5⟩ : ∃ v, cs[11]? = some v := ⟨_, Array.getElem?_eq_getElem (by omega)⟩
            have hY : ∀ W, Chg (fun _ => False) W11 W → (W.cell? ⟨gn, 6, none⟩ = some v0 ∧ W.cell? ⟨gn, 7, none⟩ = some v1 ∧ W.cell? ⟨gn, 8, none⟩ = some v2 ∧ W.cell? ⟨gn, 9, none⟩ = some v3 ∧ W.cell? ⟨gn, 10, none⟩ = some v4 ∧ W.cell? ⟨gn, 11, none⟩ = some v5) ∧ ∀ i, W.frozen? ⟨gn, i, none⟩ = false := fun W hW => by
              have hb := hbn11.out.chg hW (fun h => h)
              exact ⟨⟨(hb.cell _).trans k0, (hb.cell _).trans k1, (hb.cell _).trans k2, (hb.cell _).trans k3, (hb.cell _).trans k4, (hb.cell _).trans k5⟩, fun i => hb.frozen i⟩
            clear k0 k1 k2 k3 k4 k5
            have hcwb : ∀ W, Chg (fun j => j = gn) W11 W → Chg (fun j => j = gt ∨ j = gn) wb W := fun W hW => (hc1.out.trans (hc11.out.mono (S' := fun j => j = gt ∨ j = gn) (fun _ h _ => .inl h)) (fun _ h _ => h)).trans hW (fun _ h _ => .inr h)
            have hS12 : ∀ W, Chg (fun j => j = gn) W11 W → (W.cell? ⟨gl, 5, none⟩ = some (.slice A8 r1.lines.length c8) ∧ W.cell? ⟨gl, 6, none⟩ = some (.bool r1.all) ∧ W.cell? ⟨gl, 7, none⟩ = some (.int .i64 r1.code) ∧ W.cell? ⟨gl, 8, none⟩ = some (.int .i64 r1.stage) ∧ W.cell? ⟨gl, 9, none⟩ = some (.int .i64 r1.id)) ∧ W.cell? ⟨gt, 1, none⟩ = some (.int .i64 (m : Int)) ∧ W.cell? ⟨w.heap.size, 1, none⟩ = some (.int .i64 (N : Int)) ∧ Chg (fun j => j = gn) W11 W := fun W hW => by
              have hcx := hcwb W hW
              have hbl := b0.out.chg hcx (fun h => by omega)
              have hbt := hb11'.chg hW hmne
              have hbp := hst'.chg hcx (fun h => by omega)
              refine ⟨⟨(hbl.cell _).trans ?_, (hbl.cell _).trans ?_, (hbl.cell _).trans ?_, (hbl.cell _).trans ?_, (hbl.cell _).trans ?_⟩, (hbt.cell _).trans ?_, (hbp.cell _).trans rfl, hW⟩
              · rw [hLC.out]; rfl
              · rw [hLC.out]; rfl
              · rw [hLC.out]; rfl
              · rw [hLC.out]; rfl
              · rw [hLC.out]; rfl
              · have e : upd at' 1 m 1 = m := upd_same _ _ _
                rw [show (#[Value.int .i64 (upd at' 1 m 0 : Nat), .int .i64 (upd at' 1 m 1 : Nat)] : Array Value)[1]? = some (.int .i64 (upd at' 1 m 1 : Nat)) from rfl, e]
            obtain ⟨G, hGe⟩ : ∃ G, G = JN.G c N (insT ins) (insE ins) at' nl' 1 := ⟨_, rfl⟩
            have hread : ∀ W, Chg (fun _ => False) W11 W → Calls Try.prog 33 #[.agg #[.slice A8 r1.lines.length c8, .bool r1.all, .int .i64 r1.code, .int .i64 r1.stage, .int .i64 r1.id], .int .i64 (m : Int), .int .i64 (N : Int), .int .u8 c.toNat] W (RdgPost W11 r1 G) := fun W hW => by
              have hrd := rdB.chg (hcwb W (hW.mono (fun _ h _ => h.elim))) (fun j hj _ => hdA j hj)
              refine (read_any _ r1 c N m A8 c8 W hrd hN1 (by omega) hle0 (by omega) (by rw [← hR1.out]; exact hT64.out 1 (by omega))).mono ?_
              rintro e w' ⟨v, no, wh, x1, x2, x3, rfl, hown, hb, hans⟩
              obtain ⟨A5, c5, rfl, hr5⟩ := own_rd hown
              rw [hGe, hG.out, ← hm.out]
              exact ⟨A5, c5, no, wh, x1, x2, x3, rfl, hr5.mono (fun j hj _ => Nat.le_trans hW.size hj), hW.trans (Chg.of_below hb) (fun _ h _ => h), hans⟩
            have cN := Chg.refl (fun j => j = gn) W11
            have cF := Chg.refl (fun _ => False) W11
            have hS120 := hS12 W11 cN
            have hfin : ∀ W, Chg (fun j => j = gn) W11 W → ∀ e w', OutPost W (joMeans c N ins) e w' → OutPost w (joMeans c N ins) e w' := fun W hW e w' ho => by
              have hx : Chg (fun _ => False) w W := hcw.trans ((hcwb W hW).mono (S' := fun j => w.heap.size ≤ j) (fun j h _ => by omega)) (fun j h1 h2 => by have h1 : w.heap.size ≤ j := h1; omega)
              exact out_of' ho hx.size hx
            replace hS12 := Lib.hid hS12
            replace hY := Lib.hid hY
            replace hread := Lib.hid hread
            replace hfin := Lib.hid hfin
            replace hcwb := Lib.hid hcwb
            replace hb11' := Lib.hid hb11'
            replace hGe := Lib.hid hGe
            replace hsum := Lib.hid hsum
            replace hw' := Lib.hid hw'
            replace hprog := Lib.hid hprog
            replace hmem := Lib.hid hmem
            by_cases hE : G.err = 0 ∧ G.what = 2
            · have hmeans : joMeans c N ins = refOut (joinS out) true 0 0 0 := hjn'.none_ (by omega) hwant.out (fun _ => hwant0.out trivial) (by rw [← hGe.out]; exact hE.1) (by rw [← hGe.out]; exact hE.2)
              replace hmeans := Lib.hid hmeans
              go_wp2
              go_region_held3 (fun W => (W.cell? ⟨gl, 5, none⟩ = some (.slice A8 r1.lines.length c8) ∧ W.cell? ⟨gl, 6, none⟩ = some (.bool r1.all) ∧ W.cell? ⟨gl, 7, none⟩ = some (.int .i64 r1.code) ∧ W.cell? ⟨gl, 8, none⟩ = some (.int .i64 r1.stage) ∧ W.cell? ⟨gl, 9, none⟩ = some (.int .i64 r1.id)) ∧ W.cell? ⟨gt, 1, none⟩ = some (.int .i64 (m : Int)) ∧ W.cell? ⟨w.heap.size, 1, none⟩ = some (.int .i64 (N : Int)) ∧ Chg (fun j => j = gn) W11 W)
                (first
                  | with_reducible exact hS120
                  | with_reducible exact hS12.out _ cN.drew
                  | with_reducible exact hS12.out _ dN
                  | with_reducible exact hS12.out _ cE)
                (first
                  | (go_at_call 33
                     first
                       | with_reducible refine Calls.mono (hread.out _ cF) ?_
                       | with_reducible refine Calls.mono (hread.out _ cF.drew) ?_
                     rintro e7 w7 ⟨A5, c5, no, wh, x1, x2, x3, rfl, rd5, dF, hans⟩
                     have hno : no = true := hans.no_.2 hE
                     have hwh : wh = false := by (cases wh with | false => rfl | true => have := hans.wh_.1 rfl; omega)
                     subst hno hwh
                     have dN : Chg (fun j => j = gn) W11 w7 := dF.mono (fun _ h _ => h.elim)
                     have cE := ((((((dN.setCell (p := ⟨gn, 6, none⟩) (.inl rfl) (.slice A5 G.ls.length c5)).setCell (p := ⟨gn, 7, none⟩) (.inl rfl) (.bool true)).setCell (p := ⟨gn, 8, none⟩) (.inl rfl) (.bool false)).setCell (p := ⟨gn, 9, none⟩) (.inl rfl) (.int .i64 x1)).setCell (p := ⟨gn, 10, none⟩) (.inl rfl) (.int .i64 x2)).setCell (p := ⟨gn, 11, none⟩) (.inl rfl) (.int .i64 x3))
                     obtain ⟨⟨y0, y1, y2, y3, y4, y5⟩, yf⟩ := hY.out w7 dF))
              go_wp2_with (first
                | (go_at_call 34
                   refine (out_any (joinS out) true 0 0 0 _).mono ?_
                   rw [← hmeans.out]
                   intro e8 w8 ho8
                   have ho9 := hfin.out _ cE _ _ ho8
                   obtain ⟨v8, rfl, h8, b8⟩ := ho9))
              go_ret
              exact ⟨_, rfl, h8, b8⟩
            · by_cases hE2 : G.err = 0 ∧ G.what = 0
              · obtain ⟨hjn2, hne⟩ := hjn'.whole hN1 (by omega) hwant.out (fun _ => hwant0.out trivial) (by rw [← hGe.out]; exact hE2.1) (by rw [← hGe.out]; exact hE2.2)
                replace hjn2 := Lib.hid hjn2
                replace hne := Lib.hid hne
                go_wp2
                go_region_held3 (fun W => (W.cell? ⟨gl, 5, none⟩ = some (.slice A8 r1.lines.length c8) ∧ W.cell? ⟨gl, 6, none⟩ = some (.bool r1.all) ∧ W.cell? ⟨gl, 7, none⟩ = some (.int .i64 r1.code) ∧ W.cell? ⟨gl, 8, none⟩ = some (.int .i64 r1.stage) ∧ W.cell? ⟨gl, 9, none⟩ = some (.int .i64 r1.id)) ∧ W.cell? ⟨gt, 1, none⟩ = some (.int .i64 (m : Int)) ∧ W.cell? ⟨w.heap.size, 1, none⟩ = some (.int .i64 (N : Int)) ∧ Chg (fun j => j = gn) W11 W)
                  (first
                    | with_reducible exact hS120
                    | with_reducible exact hS12.out _ cN.drew
                    | with_reducible exact hS12.out _ dN
                    | with_reducible exact hS12.out _ cE)
                  (first
                    | (go_at_call 33
                       first
                         | with_reducible refine Calls.mono (hread.out _ cF) ?_
                         | with_reducible refine Calls.mono (hread.out _ cF.drew) ?_
                       rintro e7 w7 ⟨A5, c5, no, wh, x1, x2, x3, rfl, rd5, dF, hans⟩
                       have hno : no = false := by (cases no with | false => rfl | true => have := hans.no_.1 rfl; omega)
                       have hwh : wh = true := hans.wh_.2 hE2
                       subst hno hwh
                       have dN : Chg (fun j => j = gn) W11 w7 := dF.mono (fun _ h _ => h.elim)
                       have cE := ((((((dN.setCell (p := ⟨gn, 6, none⟩) (.inl rfl) (.slice A5 G.ls.length c5)).setCell (p := ⟨gn, 7, none⟩) (.inl rfl) (.bool false)).setCell (p := ⟨gn, 8, none⟩) (.inl rfl) (.bool true)).setCell (p := ⟨gn, 9, none⟩) (.inl rfl) (.int .i64 x1)).setCell (p := ⟨gn, 10, none⟩) (.inl rfl) (.int .i64 x2)).setCell (p := ⟨gn, 11, none⟩) (.inl rfl) (.int .i64 x3))
                       obtain ⟨⟨y0, y1, y2, y3, y4, y5⟩, yf⟩ := hY.out w7 dF))
                go_wp2
                go_roundw
                case rel =>
                  have hput := hm'.out.put (k := 1) (by omega) (m := m) (x1 := .bool false) (x2 := .bool true) (x3 := .int .i64 x1) (x4 := .int .i64 x2) (x5 := .int .i64 x3) (c' := c5) hc11.out hb11'.out dF rd5
                  have hls := hne.out
                  rw [← hGe.out] at hls
                  have hpos := List.length_pos_iff.2 hls
                  have hj3 := hjn2.out
                  rw [← hGe.out, ← hm.out] at hj3
                  have hsu : sumR2 at' nl' < sumR2 (upd at' 1 m) (upd nl' 1 G.ls) := by
                    have e1 := hm.out
                    have e2 : upd at' 1 m 1 = m := upd_same _ _ _
                    have e3 : upd nl' 1 G.ls 1 = G.ls := upd_same _ _ _
                    have e4 : upd at' 1 m 0 = at' 0 := upd_ne _ _ (by decide)
                    have e5 : upd nl' 1 G.ls 0 = nl' 0 := upd_ne _ _ (by decide)
                    unfold sumR2
                    rw [e2, e3, e4, e5]
                    omega
                  have hs2 := hsum.out
                  refine ⟨1 + 1, _, upd at' 1 m, upd nl' 1 G.ls, by omega, rfl, hj3, fun j hj => ?_, hput, by omega, fun _ => by omega⟩
                  show upd a'.want 1 false j = _
                  by_cases hjk : j = 1
                  · subst hjk; rw [upd_same, if_pos (by omega)]
                  · rw [upd_ne _ _ hjk, hw'.out j hj]
                    by_cases hj3 : j < 1
                    · rw [if_pos hj3, if_pos (by omega)]
                    · rw [if_neg hj3, if_neg (by omega)]
                case measure => simp [intOf]
              · have hmeans : ∀ x1 x2 x3, GAns r1 G false false x1 x2 x3 → joMeans c N ins = refOut (joinS out) false x1 x2 x3 := fun x1 x2 x3 hans => by
                  by_cases hE3 : G.err = 0
                  · have hw1 : G.what = 1 := by
                      have := (jgo_what c N (insE ins 1) ((insT ins 1).drop (at' 1 + (nl' 1).length)) [] []).1
                      have e : G.what = (jgo c N (insE ins 1) [] [] ((insT ins 1).drop (at' 1 + (nl' 1).length))).what := by rw [hGe.out]; rfl
                      omega
                    obtain ⟨rfl, rfl, rfl⟩ := hans.rest hE3 (by omega)
                    rw [← hR1.out]
                    exact hjn'.wait_ (by omega) hwant.out (fun _ => hwant0.out trivial) (by rw [← hGe.out]; exact hE3) (by rw [← hGe.out]; exact hw1)
                  · obtain ⟨rfl, rfl, rfl⟩ := hans.bad hE3
                    have := hjn'.bad_ (k := 1) (by omega) hwant.out (fun _ => hwant0.out trivial) (by rw [← hGe.out]; exact hE3)
                    rw [← hGe.out] at this
                    exact this
                replace hmeans := Lib.hid hmeans
                go_wp2
                go_region_held3 (fun W => (W.cell? ⟨gl, 5, none⟩ = some (.slice A8 r1.lines.length c8) ∧ W.cell? ⟨gl, 6, none⟩ = some (.bool r1.all) ∧ W.cell? ⟨gl, 7, none⟩ = some (.int .i64 r1.code) ∧ W.cell? ⟨gl, 8, none⟩ = some (.int .i64 r1.stage) ∧ W.cell? ⟨gl, 9, none⟩ = some (.int .i64 r1.id)) ∧ W.cell? ⟨gt, 1, none⟩ = some (.int .i64 (m : Int)) ∧ W.cell? ⟨w.heap.size, 1, none⟩ = some (.int .i64 (N : Int)) ∧ Chg (fun j => j = gn) W11 W)
                  (first
                    | with_reducible exact hS120
                    | with_reducible exact hS12.out _ cN.drew
                    | with_reducible exact hS12.out _ dN
                    | with_reducible exact hS12.out _ cE)
                  (first
                    | (go_at_call 33
                       first
                         | with_reducible refine Calls.mono (hread.out _ cF) ?_
                         | with_reducible refine Calls.mono (hread.out _ cF.drew) ?_
                       rintro e7 w7 ⟨A5, c5, no, wh, x1, x2, x3, rfl, rd5, dF, hans⟩
                       have hno : no = false := by (cases no with | false => rfl | true => exact absurd (hans.no_.1 rfl) hE)
                       have hwh : wh = false := by (cases wh with | false => rfl | true => exact absurd (hans.wh_.1 rfl) hE2)
                       subst hno hwh
                       have dN : Chg (fun j => j = gn) W11 w7 := dF.mono (fun _ h _ => h.elim)
                       have cE := ((((((dN.setCell (p := ⟨gn, 6, none⟩) (.inl rfl) (.slice A5 G.ls.length c5)).setCell (p := ⟨gn, 7, none⟩) (.inl rfl) (.bool false)).setCell (p := ⟨gn, 8, none⟩) (.inl rfl) (.bool false)).setCell (p := ⟨gn, 9, none⟩) (.inl rfl) (.int .i64 x1)).setCell (p := ⟨gn, 10, none⟩) (.inl rfl) (.int .i64 x2)).setCell (p := ⟨gn, 11, none⟩) (.inl rfl) (.int .i64 x3))
                       obtain ⟨⟨y0, y1, y2, y3, y4, y5⟩, yf⟩ := hY.out w7 dF))
                go_wp2_with (first
                  | (go_at_call 34
                     refine (out_any (joinS out) false x1 x2 x3 _).mono ?_
                     rw [← hmeans.out _ _ _ hans]
                     intro e8 w8 ho8
                     have ho9 := hfin.out _ cE _ _ ho8
                     obtain ⟨v8, rfl, h8, b8⟩ := ho9))
                go_ret
                exact ⟨_, rfl, h8, b8⟩
      · obtain rfl : k = 2 := by omega
        have h0 : a'.want 0 = false := (hw' 0 (by omega)).trans (by rw [if_pos (by omega)])
        have h1 : a'.want 1 = false := (hw' 1 (by omega)).trans (by rw [if_pos (by omega)])
        obtain ⟨hjn2, e0, e1, n0, n1, l0, l1, s0, s1⟩ := hjn'.next_ hN1 h0 h1
        have hfew := hjn2.few hN1 hT64.out
        have hle0 := hjn'.le 0 (by omega)
        have hle1 := hjn'.le 1 (by omega)
        have hT0 : (insT ins 0).length ≤ 4000 := by have := hlen0; rw [← hR0.out] at this; exact this
        have hT1 : (insT ins 1).length ≤ 4000 := by have := hlen1; rw [← hR1.out] at this; exact this
        have hB : (joinS (out ++ JN.rows c (nl' 0) (nl' 1))).length ≤ 14 * 4000 * 201 := Nat.le_trans hfew (Nat.mul_le_mul_right _ (Nat.mul_le_mul hN14 hT0))
        rw [joinS_append, List.length_append] at hB
        have hsu8 : sumR2 at' nl' ≤ 8000 := by unfold sumR2; omega
        have hlt2 : sumR2 at_ nl < sumR2 at' nl' := hprog (by
          rcases hor with h | h
          · exact ⟨0, by omega, h⟩
          · exact ⟨1, by omega, h⟩)
        obtain ⟨cs, An, cn, hbn, hsz, hrow⟩ := hm'.now
        obtain ⟨hcl0, hrd0⟩ := hrow 0 (by omega)
        obtain ⟨hcl1, hrd1⟩ := hrow 1 (by omega)
        have hp0 := List.length_pos_iff.2 n0
        have hp1 := List.length_pos_iff.2 n1
        obtain ⟨gA, oA, vA, eA, hgA, _, hvA, hcA⟩ := hrd0.at_ hp0
        obtain ⟨gB, oB, vB, eB, hgB, _, hvB, hcB⟩ := hrd1.at_ hp1
        obtain ⟨x, lx, hx⟩ := List.exists_cons_of_ne_nil n0
        obtain ⟨y, ly, hy⟩ := List.exists_cons_of_ne_nil n1
        have hx64 := s0 x (by rw [hx]; simp)
        have hy64 := s1 y (by rw [hy]; simp)
        obtain rfl : strv x = vA := by rw [hx] at hvA; injection hvA
        obtain rfl : strv y = vB := by rw [hy] at hvB; injection hvB
        have hkx := fun W => key_any x c W (by omega)
        have hky := fun W => key_any y c W (by omega)
        unfold KeyPost at hkx hky
        have hrows : JN.rows c (nl' 0) (nl' 1) = if keyS c x = keyS c y then (nl' 0).flatMap fun z => (nl' 1).map (plS c (keyS c x) z) else [] := by
          unfold JN.rows
          rw [show (nl' 0).headD [] = x by rw [hx]; rfl, show (nl' 1).headD [] = y by rw [hy]; rfl]
        rw [show (nl' 0).headD [] = x by rw [hx]; rfl, show (nl' 1).headD [] = y by rw [hy]; rfl] at e0 e1
        rw [hrows] at hB hjn2
        have hF : ∀ W, Chg (fun _ => False) wr W → W.cell? ⟨gn, 0, none⟩ = some (.slice (some ⟨gA, oA, none⟩) (nl' 0).length (cn 0)) ∧ W.cell? ⟨gn, 6, none⟩ = some (.slice (some ⟨gB, oB, none⟩) (nl' 1).length (cn 1)) ∧ W.cell? ⟨gA, oA, none⟩ = some (strv x) ∧ W.cell? ⟨gB, oB, none⟩ = some (strv y) := fun W hW =>
          ⟨((hbn.chg hW (fun h => h)).cell _).trans (by rw [hcl0, eA]), ((hbn.chg hW (fun h => h)).cell _).trans (by rw [hcl1, eB]), (hW.cell (p := ⟨gA, oA, none⟩) hgA (fun h => h)).trans hcA, (hW.cell (p := ⟨gB, oB, none⟩) hgB (fun h => h)).trans hcB⟩
        have cc := Chg.refl (fun _ => False) wr
        obtain ⟨f0, f1, f2, f3⟩ := hF wr cc
        have hklen := (cutBy_len c x).1
        have hI0 : (0 : Int) < ((nl' 0).length : Int) := by omega
        have hI1 : (0 : Int) < ((nl' 1).length : Int) := by omega
        have hsumL : (joinS out).length ≤ 100000000 := by omega
        have hpairs : keyS c x = keyS c y → ∀ W, Chg (fun _ => False) wr W → Calls Try.prog 36 #[strv (keyS c x), .slice (some ⟨gA, oA, none⟩) (nl' 0).length (cn 0), .slice (some ⟨gB, oB, none⟩) (nl' 1).length (cn 1), .int .u8 c.toNat] W fun e w' => e = .returned (strv (joinS ((nl' 0).flatMap fun z => (nl' 1).map (plS c (keyS c x) z)))) ∧ Chg (fun _ => False) W w' := fun hk W hW => by
          rw [if_pos hk] at hB
          rw [eA] at hrd0
          rw [eB] at hrd1
          exact pairs_any (keyS c x) (nl' 0) (nl' 1) c _ _ (cn 0) (cn 1) _ W (hrd0.chg hW (fun _ _ _ h => h)) (hrd1.chg hW (fun _ _ _ h => h)) (by omega) (by omega) s0 s1 (by omega) (by omega)
        replace hkx := Lib.hid hkx
        replace hky := Lib.hid hky
        replace hF := Lib.hid hF
        replace hpairs := Lib.hid hpairs
        replace hm' := Lib.hid hm'
        replace hmem := Lib.hid hmem
        replace hjn2 := Lib.hid hjn2
        replace e0 := Lib.hid e0
        replace e1 := Lib.hid e1
        replace hrows := Lib.hid hrows
        replace hw4 := Lib.hid hw4
        replace hw5 := Lib.hid hw5
        replace hlt2 := Lib.hid hlt2
        replace hsu8 := Lib.hid hsu8
        replace hT0 := Lib.hid hT0
        replace hT1 := Lib.hid hT1
        clear hcA hcB hvA hvB hx hy hfew hbn hrow hcl0 hcl1 hrd0 hrd1 h0 h1 eA eB hw' hwv
        generalize hkxe : keyS c x = kx at *
        generalize hkye : keyS c y = ky at *
        replace hkxe := Lib.hid hkxe
        replace hkye := Lib.hid hkye
        by_cases hk : kx = ky
        · have b1 : (kx == ky) = true := by simpa using hk
          have b2 : (ky == kx) = true := by simpa using hk.symm
          have hpr := hpairs.out hk
          rw [if_pos hk] at hB hjn2
          replace hk := Lib.hid hk
          generalize hPS : joinS ((nl' 0).flatMap fun z => (nl' 1).map (plS c kx z)) = PS at *
          replace hpr := Lib.hid hpr
          have c1 : ∀ W : World, (Op.stringOp .add ⟨(joinS out).toArray⟩ ⟨PS.toArray⟩).run Try.prog W = .ok (strv (joinS out ++ PS)) W := fun W => by rw [run_string_add_sum W _ _ (by simp [ByteArray.size]; omega), ByteArray.mk_append_mk]
          replace hPS := Lib.hid hPS
          generalize hJS : joinS out = JS at *
          replace hJS := Lib.hid hJS
          generalize hRS : JS ++ PS = RS at *
          replace hRS := Lib.hid hRS
          clear hsumL hB
          go_wp2_with (first
            | (go_at_call 35
               with_reducible refine Calls.mono (hkx.out _) ?_
               rintro e1 w1 ⟨rfl, m1, rfl⟩
               obtain ⟨f0, f1, f2, f3⟩ := hF.out _ (cc.drewN m1))
            | (go_at_call 35
               with_reducible refine Calls.mono (hky.out _) ?_
               rintro e2 w2 ⟨rfl, m2, rfl⟩
               have cM := cc.drewN (m1 + m2)
               obtain ⟨f0, f1, f2, f3⟩ := hF.out _ cM)
            | (go_at_call 36
               with_reducible refine Calls.mono (hpr.out _ cM) ?_
               rintro e3 w3 ⟨rfl, d3⟩))
          have hm2 := hm'.out.grow (cM.trans d3 (fun _ h _ => h)) a'.next.want (b0 := true) (b1 := true) (by rw [e0.out]; unfold leB; rw [b1]; simp) (by rw [e1.out]; unfold leB; rw [b2]; simp)
          replace hm2 := Lib.hid hm2
          go_roundw
          case rel =>
            refine ⟨a'.next, at', nl', _, a'.next.want, ?_, hjn2.out, fun _ _ => rfl, ?_, hm2.out⟩
            · rw [joinS_append, hJS.out, hPS.out, hRS.out]
            · rw [e0.out, e1.out]
              exact leB_total kx ky
          case measure =>
            rw [hm2.out.mu, hmem.out.mu]
            have q1 := hlt2.out
            have q2 := hsu8.out
            omega
        · have b1 : (kx == ky) = false := by simpa using hk
          have b2 : (ky == kx) = false := by simpa using fun e => hk e.symm
          rw [if_neg hk] at hB hjn2
          replace hk := Lib.hid hk
          generalize hJS : joinS out = JS at *
          replace hJS := Lib.hid hJS
          clear hsumL hB
          go_wp2_with (first
            | (go_at_call 35
               with_reducible refine Calls.mono (hkx.out _) ?_
               rintro e1 w1 ⟨rfl, m1, rfl⟩
               obtain ⟨f0, f1, f2, f3⟩ := hF.out _ (cc.drewN m1))
            | (go_at_call 35
               with_reducible refine Calls.mono (hky.out _) ?_
               rintro e2 w2 ⟨rfl, m2, rfl⟩
               have cM := cc.drewN (m1 + m2)
               obtain ⟨f0, f1, f2, f3⟩ := hF.out _ cM))
          have hm2 := hm'.out.grow cM a'.next.want (b0 := Op.bytesLess kx ky) (b1 := Op.bytesLess ky kx) (by rw [e0.out]; unfold leB ltB; rw [b1]; simp) (by rw [e1.out]; unfold leB ltB; rw [b2]; simp)
          replace hm2 := Lib.hid hm2
          go_roundw
          case rel =>
            refine ⟨a'.next, at', nl', _, a'.next.want, ?_, hjn2.out, fun _ _ => rfl, ?_, hm2.out⟩
            · rw [List.append_nil, hJS.out]
            · rw [e0.out, e1.out]
              exact leB_total kx ky
          case measure =>
            rw [hm2.out.mu, hmem.out.mu]
            have q1 := hlt2.out
            have q2 := hsu8.out
            omega
end Go.Proofs.Ytkgmbomfkdkofaa
