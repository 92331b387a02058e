namespace Go.Proofs.Ytkgmbomfkdkofaa

abbrev Bs := List UInt8

/-! ## Lines, cut out of bytes -/

/-- The begun line and more bytes: the lines that end, what is begun then, and whether a line was too long. -/
def cutS : Bs → Bs → List Bs × Bs × Bool
  | g, [] => ([], g, false)
  | g, x :: r =>
    if x = 10 then (g :: (cutS [] r).1, (cutS [] r).2)
    else if g.length = 64 then ([], [], true)
    else cutS (g ++ [x]) r

theorem cutS_append (a : Bs) : ∀ (g b : Bs), cutS g (a ++ b) =
    if (cutS g a).2.2 = true then cutS g a else ((cutS g a).1 ++ (cutS (cutS g a).2.1 b).1, (cutS (cutS g a).2.1 b).2) := by
  induction a with
  | nil => intro g b; simp [cutS]
  | cons x r ih =>
    intro g b
    simp only [List.cons_append, cutS]
    by_cases hx : x = 10
    · simp only [hx, if_true]
      rw [ih]
      by_cases hf : (cutS [] r).2.2 = true
      · simp [hf]
      · simp [hf]
    · simp only [hx, if_false]
      by_cases hg : g.length = 64
      · simp [hg]
      · simp only [hg, if_false]
        exact ih _ _

theorem cutS_len (a : Bs) : ∀ (g : Bs), g.length ≤ 64 → (cutS g a).2.1.length ≤ 64 ∧ ∀ l ∈ (cutS g a).1, l.length ≤ 64 := by
  induction a with
  | nil => intro g h; exact ⟨h, by simp [cutS]⟩
  | cons x r ih =>
    intro g h
    simp only [cutS]
    by_cases hx : x = 10
    · simp only [hx, if_true]
      have := ih [] (by simp)
      refine ⟨this.1, ?_⟩
      intro l hl
      rcases List.mem_cons.1 hl with rfl | hl
      · exact h
      · exact this.2 l hl
    · simp only [hx, if_false]
      by_cases hg : g.length = 64
      · simp [hg]
      · simp only [hg, if_false]
        exact ih _ (by simp; omega)

theorem cutS_failed (a : Bs) : ∀ (g : Bs), (cutS g a).2.2 = true → (cutS g a).2.1 = [] := by
  induction a with
  | nil => intro g h; simp [cutS] at h
  | cons x r ih =>
    intro g
    simp only [cutS]
    by_cases hx : x = 10
    · simp only [hx, if_true]; exact ih []
    · simp only [hx, if_false]
      by_cases hg : g.length = 64
      · simp [hg]
      · simp only [hg, if_false]; exact ih _

/-- How many bytes the lines of a cut have together. -/
theorem cutS_sum (a : Bs) : ∀ (g : Bs), ((cutS g a).1.map List.length).sum + (cutS g a).1.length + (cutS g a).2.1.length ≤ g.length + a.length := by
  induction a with
  | nil => intro g; simp [cutS]
  | cons x r ih =>
    intro g
    simp only [cutS]
    by_cases hx : x = 10
    · simp only [hx, if_true, List.map_cons, List.sum_cons, List.length_cons]
      have := ih []
      simp at this ⊢
      omega
    · simp only [hx, if_false]
      by_cases hg : g.length = 64
      · simp [hg]
      · simp only [hg, if_false]
        have := ih (g ++ [x])
        simp at this ⊢
        omega

theorem cutS_count (a : Bs) : ∀ (g : Bs), (cutS g a).1.length ≤ a.length := by
  induction a with
  | nil => intro g; simp [cutS]
  | cons x r ih =>
    intro g
    simp only [cutS]
    by_cases hx : x = 10
    · simp only [hx, if_true, List.length_cons]
      have := ih []
      omega
    · simp only [hx, if_false]
      by_cases hg : g.length = 64
      · simp [hg]
      · simp only [hg, if_false]
        have := ih (g ++ [x])
        simp only [List.length_cons]
        omega

/-! ## Machines -/

abbrev Outs := List (Int × Bs)

structure Mach where
  σ : Type
  need : σ → Int
  held : σ → Int
  feed : σ → Int → Bs → Outs × Int × σ
  fin : σ → Int → Outs × Int × σ
  more : σ → Outs × Int × σ

/-- A stream: its bytes, whether it has ended, and its error. -/
structure Strm where
  bs : Bs
  ended : Bool
  code : Int
  stage : Int
  id : Int

/-- What Drive keeps. -/
structure DS (σ : Type) where
  st : σ
  outs : Nat → Bs
  need : Int
  err : Int
  held : Int
  taken : Nat → Nat
  bad : Bool
  told : Nat → Bool

def upd {α : Type} (f : Nat → α) (i : Nat) (x : α) : Nat → α := fun j => if j = i then x else f j

/-- One Out is put: (outs, bad, sum). -/
def put1 (s : (Nat → Bs) × Bool × Nat) (o : Int × Bs) : (Nat → Bs) × Bool × Nat :=
  if o.1 < 0 ∨ o.1 > 3 ∨ o.2 = [] then (s.1, true, s.2.2 + o.2.length)
  else (upd s.1 o.1.toNat (s.1 o.1.toNat ++ o.2), s.2.1 || decide (s.2.2 + o.2.length > 1024), s.2.2 + o.2.length)

def putAll (s : (Nat → Bs) × Bool × Nat) (l : Outs) : (Nat → Bs) × Bool × Nat := l.foldl put1 s

/-- put: what an answer does to what Drive keeps. -/
def DS.put {σ : Type} (d : DS σ) (a : Outs × Int × σ) : DS σ :=
  { d with st := a.2.2, outs := (putAll (d.outs, d.bad, 0) a.1).1, bad := (putAll (d.outs, d.bad, 0) a.1).2.1, err := a.2.1 }

/-- The most bytes that it held, and its Need. -/
def DS.look (M : Mach) (d : DS M.σ) : DS M.σ := { d with held := max d.held (M.held d.st), need := M.need d.st }

/-- How many bytes go at once, the n-th time. -/
def cutN (cuts : List Int) (n : Nat) : Nat :=
  if cuts.length = 0 then 32 else ((cuts.getD (n % cuts.length) 0).tmod 32).natAbs + 1

theorem cutN_bd (cuts : List Int) (n : Nat) : 1 ≤ cutN cuts n ∧ cutN cuts n ≤ 32 := by
  unfold cutN
  split
  · omega
  · have := Int.natAbs_tmod (cuts.getD (n % cuts.length) 0) 32
    rw [this]
    have h2 : (cuts.getD (n % cuts.length) 0).natAbs % (32 : Int).natAbs < 32 := Nat.mod_lt _ (by decide)
    omega

/-- One round of Drive: what is kept then, and whether it goes on. -/
def dstep (M : Mach) (ins : List Strm) (cuts : List Int) (n : Nat) (d : DS M.σ) : DS M.σ × Bool :=
  if d.need = -2 then ((d.put (M.more d.st)).look M, true)
  else if d.need < 0 then ({ d with bad := true }, false)
  else if d.need ≥ ins.length ∨ d.need > 3 then ({ d with bad := true }, false)
  else match ins[d.need.toNat]? with
    | none => (d, false)
    | some s =>
      let k := d.need.toNat
      if d.taken k < s.bs.length then
        let to := min s.bs.length (d.taken k + cutN cuts n)
        ((({ d with taken := upd d.taken k to } : DS M.σ).put (M.feed d.st d.need ((s.bs.take to).drop (d.taken k)))).look M, true)
      else if s.ended = true ∧ d.told k = false then
        ((({ d with told := upd d.told k true } : DS M.σ).put (M.fin d.st d.need)).look M, true)
      else (d, false)

def dloop (M : Mach) (ins : List Strm) (cuts : List Int) : Nat → Nat → DS M.σ → DS M.σ
  | 0, _, d => d
  | f + 1, n, d =>
    if d.err = 0 ∧ d.need ≠ -1 then
      (if (dstep M ins cuts n d).2 = true then dloop M ins cuts f (n + 1) (dstep M ins cuts n d).1 else (dstep M ins cuts n d).1)
    else d

theorem dloop_go {M : Mach} {ins : List Strm} {cuts : List Int} {f n : Nat} {d d' : DS M.σ} (h1 : d.err = 0) (h2 : d.need ≠ -1) (h : dstep M ins cuts n d = (d', true)) :
    dloop M ins cuts (f + 1) n d = dloop M ins cuts f (n + 1) d' := by
  rw [dloop, if_pos ⟨h1, h2⟩, h]; rfl
theorem dloop_stop {M : Mach} {ins : List Strm} {cuts : List Int} {f n : Nat} {d d' : DS M.σ} (h1 : d.err = 0) (h2 : d.need ≠ -1) (h : dstep M ins cuts n d = (d', false)) :
    dloop M ins cuts (f + 1) n d = d' := by
  rw [dloop, if_pos ⟨h1, h2⟩, h]; rfl
theorem dloop_end {M : Mach} {ins : List Strm} {cuts : List Int} {f n : Nat} {d : DS M.σ} (h : d.err ≠ 0 ∨ d.need = -1) : dloop M ins cuts f n d = d := by
  cases f with
  | zero => rfl
  | succ f => rw [dloop, if_neg (by rcases h with h | h <;> simp [h])]

def dinit (M : Mach) (s : M.σ) : DS M.σ :=
  { st := s, outs := fun _ => [], need := M.need s, err := 0, held := 0, taken := fun _ => 0, bad := false, told := fun _ => false }

def drive (M : Mach) (s : M.σ) (ins : List Strm) (cuts : List Int) : DS M.σ := dloop M ins cuts 100000 0 (dinit M s)

/-! ## Machines of lines -/

/-- What a kind does with a line, and at the end. -/
structure LK where
  τ : Type
  each : τ → Bs → Outs × τ
  last : τ → Outs × τ
  heldX : τ → Int

/-- The state: over, the begun line, and the kind's own. -/
structure LS (τ : Type) where
  over : Bool
  beg : Bs
  t : τ

def eachAll (k : LK) : k.τ → List Bs → Outs × k.τ
  | t, [] => ([], t)
  | t, l :: r => ((k.each t l).1 ++ (eachAll k (k.each t l).2 r).1, (eachAll k (k.each t l).2 r).2)

def LK.feed (k : LK) (s : LS k.τ) (port : Int) (b : Bs) : Outs × Int × LS k.τ :=
  if s.over = true then ([], 4, s)
  else if port ≠ 0 then ([], 1, s)
  else if b.length = 0 ∨ b.length > 32 then ([], 1, s)
  else
    let c := cutS s.beg b
    let a := eachAll k s.t c.1
    if c.2.2 = true then (a.1, 20, { over := true, beg := [], t := a.2 })
    else (a.1, 0, { over := false, beg := c.2.1, t := a.2 })

def LK.fin (k : LK) (s : LS k.τ) (port : Int) : Outs × Int × LS k.τ :=
  if s.over = true then ([], 4, s)
  else if port ≠ 0 then ([], 1, s)
  else
    let a := if s.beg = [] then ([], s.t) else k.each s.t s.beg
    let z := k.last a.2
    (a.1 ++ z.1, 0, { over := true, beg := [], t := z.2 })

abbrev LK.mach (k : LK) : Mach where
  σ := LS k.τ
  need s := if s.over = true then -1 else 0
  held s := s.beg.length + k.heldX s.t
  feed := k.feed
  fin := k.fin
  more s := ([], if s.over = true then 4 else 1, s)

theorem eachAll_append (k : LK) (a : List Bs) : ∀ (t : k.τ) (b : List Bs), eachAll k t (a ++ b) = ((eachAll k t a).1 ++ (eachAll k (eachAll k t a).2 b).1, (eachAll k (eachAll k t a).2 b).2) := by
  induction a with
  | nil => intro t b; simp [eachAll]
  | cons x r ih => intro t b; simp [eachAll, ih]

end Go.Proofs.Ytkgmbomfkdkofaa
