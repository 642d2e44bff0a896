/- Plain: records, their bytes, and that what is read off the bytes of a record is the record. No program in sight. -/
set_option autoImplicit false
namespace Go.Proofs.Ytgnlhjphmaikkaa

/-- A row of a transaction table. -/
structure PTxn where
  id : Int
  st : Int
  last : Int
deriving DecidableEq, Inhabited
/-- A row of a table of dirty pages. -/
structure PDirty where
  page : Int
  rc : Int
deriving DecidableEq, Inhabited
/-- A change. -/
structure PAct where
  kind : Int
  key : List UInt8
  old : List UInt8
  new : List UInt8
deriving DecidableEq, Inhabited
/-- A record. -/
structure PRec where
  kind : Int
  lsn : Int
  txn : Int
  prev : Int
  undo : Int
  page : Int
  act : PAct
  txns : List PTxn
  dirty : List PDirty
deriving DecidableEq, Inhabited

/-! ### Numbers as bytes -/
def le (n : Nat) : Nat → List UInt8
  | 0 => []
  | k + 1 => UInt8.ofNat (n % 256) :: le (n / 256) k
def leNum : List UInt8 → Nat
  | [] => 0
  | b :: t => b.toNat + 256 * leNum t

theorem le_length (k : Nat) : ∀ n, (le n k).length = k := by
  induction k with
  | zero => intro n; rfl
  | succ k ih => intro n; simp [le, ih]

theorem leNum_le (k : Nat) : ∀ n, n < 256 ^ k → leNum (le n k) = n := by
  induction k with
  | zero => intro n h; simp at h; subst h; rfl
  | succ k ih =>
    intro n h
    have h1 : n / 256 < 256 ^ k := by
      rw [Nat.pow_succ] at h
      exact Nat.div_lt_of_lt_mul (by rw [Nat.mul_comm]; exact h)
    have h2 : (UInt8.ofNat (n % 256)).toNat = n % 256 := by
      simp
    simp only [le, leNum, ih _ h1, h2]
    omega

theorem leNum_lt : ∀ l : List UInt8, leNum l < 256 ^ l.length := by
  intro l
  induction l with
  | nil => simp [leNum]
  | cons b t ih =>
    have := b.toNat_lt
    simp only [leNum, List.length_cons, Nat.pow_succ]
    omega

/-! ### A reader: what is left, and the first error (0: none) -/
structure Rd where
  b : List UInt8
  err : Int
def Rd.num (k : Nat) (s : Rd) : Nat × Rd :=
  if s.err ≠ 0 then (0, s)
  else if s.b.length < k then (0, ⟨s.b, 4⟩)
  else (leNum (s.b.take k), ⟨s.b.drop k, 0⟩)
def Rd.take (n : Nat) (s : Rd) : List UInt8 × Rd :=
  if s.err ≠ 0 then ([], s)
  else if s.b.length < n then ([], ⟨s.b, 4⟩)
  else (s.b.take n, ⟨s.b.drop n, 0⟩)
def Rd.text (most : Nat) (s : Rd) : List UInt8 × Rd :=
  if s.err ≠ 0 then ([], s)
  else
    let x := s.num 2
    let s1 : Rd := if x.2.err = 0 ∧ most < x.1 then ⟨x.2.b, 3⟩ else x.2
    let y := s1.take x.1
    if y.2.err ≠ 0 then ([], ⟨s.b, y.2.err⟩) else y
def Rd.txn (s : Rd) : PTxn × Rd :=
  let a := s.num 4
  let b := a.2.num 1
  let c := b.2.num 8
  (⟨a.1, b.1, c.1⟩, c.2)
def Rd.dirty (s : Rd) : PDirty × Rd :=
  let a := s.num 2
  let b := a.2.num 8
  (⟨a.1, b.1⟩, b.2)
/-- So many things, one behind the other. -/
def Rd.many {α : Type} (f : Rd → α × Rd) : Nat → Rd → List α × Rd
  | 0, s => ([], s)
  | n + 1, s =>
    let x := f s
    let y := Rd.many f n x.2
    (x.1 :: y.1, y.2)

theorem Rd.num_le (k n : Nat) (rest : List UInt8) (h : n < 256 ^ k) : Rd.num k ⟨le n k ++ rest, 0⟩ = (n, ⟨rest, 0⟩) := by
  have hl := le_length k n
  simp only [Rd.num]
  rw [if_neg (by simp), if_neg (by simp [hl])]
  rw [List.take_append_of_le_length (by omega), List.drop_append_of_le_length (by omega), List.take_of_length_le (by omega),
    List.drop_of_length_le (by omega), leNum_le k n h]
  rfl

def textOf (s : List UInt8) : List UInt8 := le s.length 2 ++ s

theorem Rd.text_of (most : Nat) (s rest : List UInt8) (h : s.length ≤ most) (hm : most < 65536) : Rd.text most ⟨textOf s ++ rest, 0⟩ = (s, ⟨rest, 0⟩) := by
  unfold Rd.text textOf
  rw [if_neg (by simp), List.append_assoc, Rd.num_le 2 s.length _ (by omega)]
  have h1 : ¬ (((0 : Int) = 0) ∧ most < s.length) := by omega
  dsimp only
  rw [if_neg h1]
  have h2 : ¬ (s.length + rest.length < s.length) := by omega
  simp [Rd.take, h2]

/-! ### A record's bytes -/
def changes (k : Int) : Prop := k = 1 ∨ k = 2
instance (k : Int) : Decidable (changes k) := by unfold changes; infer_instance
def points (k : Int) : Prop := k = 7 ∨ k = 8
instance (k : Int) : Decidable (points k) := by unfold points; infer_instance
def numbered (l : Int) : Prop := 16 ≤ l ∧ l ≤ 1152921504606846991
instance (k : Int) : Decidable (numbered k) := by unfold numbered; infer_instance
def mayAct (a : PAct) : Prop :=
  1 ≤ a.key.length ∧ a.key.length ≤ 16 ∧ a.old.length ≤ 32 ∧ a.new.length ≤ 32 ∧ ((a.kind = 1 ∧ a.old = []) ∨ a.kind = 2 ∨ (a.kind = 3 ∧ a.new = []))
instance (a : PAct) : Decidable (mayAct a) := by unfold mayAct; infer_instance
def okTxn (t : PTxn) : Prop := 1 ≤ t.id ∧ t.id ≤ 1073741824 ∧ 0 ≤ t.st ∧ t.st < 3 ∧ numbered t.last
instance (a : PTxn) : Decidable (okTxn a) := by unfold okTxn; infer_instance
def okDirty (t : PDirty) : Prop := 0 ≤ t.page ∧ t.page < 16 ∧ numbered t.rc
instance (a : PDirty) : Decidable (okDirty a) := by unfold okDirty; infer_instance
def okTxns (l : List PTxn) : Prop := l.length ≤ 64 ∧ (∀ t, t ∈ l → okTxn t) ∧ ∀ i (h : i + 1 < l.length), (l[i]'(by omega)).id < (l[i + 1]).id
def okDirties (l : List PDirty) : Prop := l.length ≤ 16 ∧ (∀ t, t ∈ l → okDirty t) ∧ ∀ i (h : i + 1 < l.length), (l[i]'(by omega)).page < (l[i + 1]).page
def noAct : PAct := ⟨0, [], [], []⟩
/-- May a record be? -/
def PRec.may (r : PRec) : Prop :=
  0 < r.kind ∧ r.kind < 9 ∧ numbered r.lsn ∧ r.prev < r.lsn ∧ r.undo < r.lsn ∧
  (if changes r.kind then 0 ≤ r.page ∧ r.page < 16 ∧ mayAct r.act else r.page = 0 ∧ r.act = noAct) ∧
  (if points r.kind then r.txn = 0 ∧ r.prev = 0 else 1 ≤ r.txn ∧ r.txn ≤ 1073741824) ∧
  (r.kind ≠ 8 → r.txns = [] ∧ r.dirty = []) ∧ (r.kind ≠ 2 → r.undo = 0) ∧ okTxns r.txns ∧ okDirties r.dirty
/-- What the kinds of its numbers alone say. -/
structure PRec.wf (r : PRec) : Prop where
  prev0 : 0 ≤ r.prev
  undo0 : 0 ≤ r.undo

def txnBytes (t : PTxn) : List UInt8 := le t.id.toNat 4 ++ (le t.st.toNat 1 ++ le t.last.toNat 8)
def dirtyBytes (t : PDirty) : List UInt8 := le t.page.toNat 2 ++ le t.rc.toNat 8
def flat {α : Type} (f : α → List UInt8) : List α → List UInt8
  | [] => []
  | t :: l => f t ++ flat f l
def body (r : PRec) : List UInt8 :=
  le r.kind.toNat 1 ++ (le r.lsn.toNat 8 ++ (le r.txn.toNat 4 ++ (le r.prev.toNat 8 ++
    ((if changes r.kind then le r.page.toNat 2 ++ (le r.act.kind.toNat 1 ++ (textOf r.act.key ++ (textOf r.act.old ++ textOf r.act.new))) else []) ++
    ((if r.kind = 2 then le r.undo.toNat 8 else []) ++
    (if r.kind = 8 then le r.txns.length 1 ++ (flat txnBytes r.txns ++ (le r.dirty.length 1 ++ flat dirtyBytes r.dirty)) else []))))))

def readAct (k : Int) (s : Rd) : (Int × PAct) × Rd :=
  if changes k then
    let a := s.num 2
    let b := a.2.num 1
    let c := b.2.text 16
    let d := c.2.text 32
    let e := d.2.text 32
    (((a.1 : Int), ⟨(b.1 : Int), c.1, d.1, e.1⟩), e.2)
  else ((0, noAct), s)
def readUndo (k : Int) (s : Rd) : Int × Rd :=
  if k = 2 then (((s.num 8).1 : Int), (s.num 8).2) else (0, s)
def readRows (k : Int) (s : Rd) : (List PTxn × List PDirty) × Rd :=
  if k = 8 then
    let a := s.num 1
    let b := Rd.many Rd.txn a.1 a.2
    let c := b.2.num 1
    let d := Rd.many Rd.dirty c.1 c.2
    ((b.1, d.1), d.2)
  else (([], []), s)
/-- What a reader takes off: the record, and the reader behind it; none where the head ends too early. -/
def readRec (s : Rd) : Option (PRec × Rd) :=
  let a := s.num 1
  let b := a.2.num 8
  let c := b.2.num 4
  let d := c.2.num 8
  if d.2.err ≠ 0 then none
  else
    let k : Int := (a.1 : Int)
    let e := readAct k d.2
    let f := readUndo k e.2
    let g := readRows k f.2
    some (⟨k, (b.1 : Int), (c.1 : Int), (d.1 : Int), f.1, e.1.1, e.1.2, g.1.1, g.1.2⟩, g.2)
open Classical in
/-- The record of some bytes. -/
noncomputable def decode (b : List UInt8) : Option PRec :=
  match readRec ⟨b, 0⟩ with
  | none => none
  | some (r, s) => if s.err = 0 ∧ s.b = [] ∧ r.may then some r else none

theorem Rd.many_flat {α : Type} (f : Rd → α × Rd) (g : α → List UInt8) : ∀ (l : List α) (rest : List UInt8),
    (∀ x, x ∈ l → ∀ rest, f ⟨g x ++ rest, 0⟩ = (x, ⟨rest, 0⟩)) → Rd.many f l.length ⟨flat g l ++ rest, 0⟩ = (l, ⟨rest, 0⟩)
  | [], rest, _ => rfl
  | x :: l, rest, h => by
    simp only [List.length_cons, flat, Rd.many, List.append_assoc]
    rw [h x (List.mem_cons_self ..)]
    simp only
    rw [Rd.many_flat f g l rest (fun y hy => h y (List.mem_cons_of_mem _ hy))]

theorem Rd.txn_of (t : PTxn) (h : okTxn t) (rest : List UInt8) : Rd.txn ⟨txnBytes t ++ rest, 0⟩ = (t, ⟨rest, 0⟩) := by
  obtain ⟨h1, h2, h3, h4, h5, h6⟩ := h
  unfold Rd.txn txnBytes
  simp only [List.append_assoc]
  rw [Rd.num_le 4 _ _ (by omega)]
  simp only
  rw [Rd.num_le 1 _ _ (by omega)]
  simp only
  rw [Rd.num_le 8 _ _ (by omega)]
  simp only [Int.toNat_of_nonneg (show 0 ≤ t.id by omega), Int.toNat_of_nonneg (show 0 ≤ t.st by omega), Int.toNat_of_nonneg (show 0 ≤ t.last by omega)]
theorem Rd.dirty_of (t : PDirty) (h : okDirty t) (rest : List UInt8) : Rd.dirty ⟨dirtyBytes t ++ rest, 0⟩ = (t, ⟨rest, 0⟩) := by
  obtain ⟨h1, h2, h5, h6⟩ := h
  unfold Rd.dirty dirtyBytes
  simp only [List.append_assoc]
  rw [Rd.num_le 2 _ _ (by omega)]
  simp only
  rw [Rd.num_le 8 _ _ (by omega)]
  simp only [Int.toNat_of_nonneg (show 0 ≤ t.page by omega), Int.toNat_of_nonneg (show 0 ≤ t.rc by omega)]

theorem readAct_of (r : PRec) (rest : List UInt8)
    (h : if changes r.kind then 0 ≤ r.page ∧ r.page < 16 ∧ mayAct r.act else r.page = 0 ∧ r.act = noAct) :
    readAct r.kind ⟨(if changes r.kind then le r.page.toNat 2 ++ (le r.act.kind.toNat 1 ++ (textOf r.act.key ++ (textOf r.act.old ++ textOf r.act.new))) else []) ++ rest, 0⟩
      = ((r.page, r.act), ⟨rest, 0⟩) := by
  unfold readAct
  by_cases hc : changes r.kind
  · simp only [if_pos hc] at h ⊢
    obtain ⟨p0, p1, a1, a2, a3, a4, a5⟩ := h
    simp only [List.append_assoc]
    rw [Rd.num_le 2 _ _ (by omega)]
    simp only
    rw [Rd.num_le 1 _ _ (by omega)]
    simp only
    rw [Rd.text_of 16 _ _ a2 (by omega)]
    simp only
    rw [Rd.text_of 32 _ _ a3 (by omega)]
    simp only
    rw [Rd.text_of 32 _ _ a4 (by omega)]
    simp only [Int.toNat_of_nonneg p0, Int.toNat_of_nonneg (show 0 ≤ r.act.kind by omega)]
  · simp only [if_neg hc] at h ⊢
    obtain ⟨p0, p1⟩ := h
    simp [p0, p1]

theorem decode_body (r : PRec) (hw : r.wf) (h : r.may) : decode (body r) = some r := by
  obtain ⟨k0, k1, ⟨l0, l1⟩, pv, ud, ha, hp, hn, hu, ht, hd⟩ := h
  have e : readRec ⟨body r, 0⟩ = some (r, ⟨[], 0⟩) := by
    unfold readRec body
    have hp0 := hw.prev0
    have hu0 := hw.undo0
    have htx : 0 ≤ r.txn ∧ r.txn ≤ 1073741824 := by split at hp <;> omega
    rw [Rd.num_le 1 _ _ (by omega)]
    simp only
    rw [Rd.num_le 8 _ _ (by omega)]
    simp only
    rw [Rd.num_le 4 _ _ (by omega)]
    simp only
    rw [Rd.num_le 8 _ _ (by omega)]
    simp only
    rw [if_neg (by simp)]
    simp only [Int.toNat_of_nonneg (show 0 ≤ r.kind by omega)]
    rw [readAct_of r _ ha]
    have eu : readUndo r.kind ⟨(if r.kind = 2 then le r.undo.toNat 8 else []) ++ (if r.kind = 8 then le r.txns.length 1 ++ (flat txnBytes r.txns ++ (le r.dirty.length 1 ++ flat dirtyBytes r.dirty)) else []), 0⟩
        = (r.undo, ⟨if r.kind = 8 then le r.txns.length 1 ++ (flat txnBytes r.txns ++ (le r.dirty.length 1 ++ flat dirtyBytes r.dirty)) else [], 0⟩) := by
      unfold readUndo
      by_cases h2 : r.kind = 2
      · simp only [if_pos h2]
        rw [Rd.num_le 8 _ _ (by omega)]
        simp only [Int.toNat_of_nonneg hu0]
      · simp only [if_neg h2, hu h2, List.nil_append]
    simp only
    rw [eu]
    have er : readRows r.kind ⟨if r.kind = 8 then le r.txns.length 1 ++ (flat txnBytes r.txns ++ (le r.dirty.length 1 ++ flat dirtyBytes r.dirty)) else [], 0⟩
        = ((r.txns, r.dirty), ⟨[], 0⟩) := by
      unfold readRows
      by_cases h8 : r.kind = 8
      · simp only [if_pos h8]
        rw [Rd.num_le 1 _ _ (by have := ht.1; omega)]
        simp only
        rw [Rd.many_flat Rd.txn txnBytes r.txns _ (fun x hx rest => Rd.txn_of x (ht.2.1 x hx) rest)]
        simp only
        rw [Rd.num_le 1 _ _ (by have := hd.1; omega)]
        simp only
        have := Rd.many_flat Rd.dirty dirtyBytes r.dirty [] (fun x hx rest => Rd.dirty_of x (hd.2.1 x hx) rest)
        rw [List.append_nil] at this
        rw [this]
      · simp only [if_neg h8, hn h8]
    simp only
    rw [er]
    simp only [Int.toNat_of_nonneg hp0, Int.toNat_of_nonneg (show 0 ≤ r.lsn by omega), Int.toNat_of_nonneg htx.1]
  unfold decode
  rw [e]
  simp only
  rw [if_pos ⟨rfl, rfl, k0, k1, ⟨l0, l1⟩, pv, ud, ha, hp, hn, hu, ht, hd⟩]
end Go.Proofs.Ytgnlhjphmaikkaa
