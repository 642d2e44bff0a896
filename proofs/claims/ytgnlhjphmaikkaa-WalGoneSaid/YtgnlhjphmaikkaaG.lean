/- Package rec, walked: may a record be. Conditions: the record's slices read, its numbers are of their kinds. -/
import Derived.Test.YtgnlhjphmaikkaaB
import Derived.Laws.Tables
import Derived.Deep.DeepCutAuto
import Derived.Deep.Cut
set_option linter.unusedVariables false
set_option linter.unusedSimpArgs false
namespace Go.Proofs.Ytgnlhjphmaikkaa
open Go.RowKit

def numB (l : Int) : Bool := decide (numbered l)
def pageB (p : Int) : Bool := decide (0 ≤ p ∧ p < 16)
def txnB (p : Int) : Bool := decide (1 ≤ p ∧ p ≤ 1073741824)
def chgB (k : Int) : Bool := decide (changes k)
def ptsB (k : Int) : Bool := decide (points k)
def actB (a : PAct) : Bool := decide (mayAct a)
theorem ret_bool {b c : Bool} {p : Prop} (hc : c = true ↔ p) (h : b = true ↔ p) : Ending.returned (.bool b) = Ending.returned (.bool c) := by
  congr 2
  rw [Bool.eq_iff_iff, h, hc]

theorem numB_iff (p : Int) : numB p = true ↔ 16 ≤ p ∧ p ≤ 1152921504606846991 := by unfold numB; exact decide_eq_true_iff
set_option maxRecDepth 100000 in
set_option maxHeartbeats 400000 in
theorem numbered_any (p : Int) (w : World) : Calls Try.prog 107 #[.int .u64 p] w fun e w' => e = .returned (.bool (numB p)) ∧ w = w' := by
  have Hu := Sec.mk (numB_iff p)
  go_enter Try.func107, Try.ntmps107
  go_wp2
  all_goals
    go_ret
    exact ⟨ret_bool Hu.out (by simp <;> omega), rfl⟩

theorem pageB_iff (p : Int) : pageB p = true ↔ 0 ≤ p ∧ p < 16 := by unfold pageB; exact decide_eq_true_iff
set_option maxRecDepth 100000 in
set_option maxHeartbeats 400000 in
theorem page_any (p : Int) (w : World) : Calls Try.prog 108 #[.int .i64 p] w fun e w' => e = .returned (.bool (pageB p)) ∧ w = w' := by
  have Hu := Sec.mk (pageB_iff p)
  go_enter Try.func108, Try.ntmps108
  go_wp2
  all_goals
    go_ret
    exact ⟨ret_bool Hu.out (by simp <;> omega), rfl⟩

theorem txnB_iff (p : Int) : txnB p = true ↔ 1 ≤ p ∧ p ≤ 1073741824 := by unfold txnB; exact decide_eq_true_iff
set_option maxRecDepth 100000 in
set_option maxHeartbeats 400000 in
theorem txn_any (p : Int) (w : World) : Calls Try.prog 111 #[.int .i64 p] w fun e w' => e = .returned (.bool (txnB p)) ∧ w = w' := by
  have Hu := Sec.mk (txnB_iff p)
  go_enter Try.func111, Try.ntmps111
  go_wp2
  all_goals
    go_ret
    exact ⟨ret_bool Hu.out (by simp <;> omega), rfl⟩

theorem chgB_iff (p : Int) : chgB p = true ↔ p = 1 ∨ p = 2 := by unfold chgB; exact decide_eq_true_iff
set_option maxRecDepth 100000 in
set_option maxHeartbeats 400000 in
theorem changes_any (p : Int) (w : World) : Calls Try.prog 96 #[.int .i64 p] w fun e w' => e = .returned (.bool (chgB p)) ∧ w = w' := by
  have Hu := Sec.mk (chgB_iff p)
  go_enter Try.func96, Try.ntmps96
  go_wp2
  all_goals
    go_ret
    exact ⟨ret_bool Hu.out (by simp <;> omega), rfl⟩

theorem ptsB_iff (p : Int) : ptsB p = true ↔ p = 7 ∨ p = 8 := by unfold ptsB; exact decide_eq_true_iff
set_option maxRecDepth 100000 in
set_option maxHeartbeats 400000 in
theorem points_any (p : Int) (w : World) : Calls Try.prog 110 #[.int .i64 p] w fun e w' => e = .returned (.bool (ptsB p)) ∧ w = w' := by
  have Hu := Sec.mk (ptsB_iff p)
  go_enter Try.func110, Try.ntmps110
  go_wp2
  all_goals
    go_ret
    exact ⟨ret_bool Hu.out (by simp <;> omega), rfl⟩

/-- A change's cells. -/
def actCells (a : PAct) : Array Value := #[.int .i64 a.kind, .string ⟨a.key.toArray⟩, .string ⟨a.old.toArray⟩, .string ⟨a.new.toArray⟩]
theorem size_str (l : List UInt8) : (⟨l.toArray⟩ : ByteArray).size = l.length := by simp [ByteArray.size]
theorem actB_iff (a : PAct) : actB a = true ↔ 1 ≤ a.key.length ∧ a.key.length ≤ 16 ∧ a.old.length ≤ 32 ∧ a.new.length ≤ 32 ∧ ((a.kind = 1 ∧ a.old = []) ∨ a.kind = 2 ∨ (a.kind = 3 ∧ a.new = [])) := by
  unfold actB; exact decide_eq_true_iff
set_option maxRecDepth 100000 in
set_option maxHeartbeats 1600000 in
theorem mayAct_any (a : PAct) (w : World) : Calls Try.prog 109 #[.agg #[.int .i64 a.kind, .string ⟨a.key.toArray⟩, .string ⟨a.old.toArray⟩, .string ⟨a.new.toArray⟩]] w fun e w' => e = .returned (.bool (actB a)) ∧ Below w.heap.size w w' := by
  have Hu := Sec.mk (actB_iff a)
  have hl1 := size_str a.key
  have hl2 := size_str a.old
  have hl3 := size_str a.new
  go_enter Try.func109, Try.ntmps109
  go_wp2
  all_goals
    go_ret
    refine ⟨ret_bool Hu.out ?_, (Below.refl _ _).alloc (Nat.le_refl _) _⟩
    clear Hu hl1 hl2 hl3
    by_cases e1 : a.old = [] <;> by_cases e2 : a.new = [] <;> simp [e1, e2] at * <;> omega

/-! ### A record in memory -/
def txCells (l : List PTxn) : List Value := l.flatMap fun t => [.int .i64 t.id, .int .i64 t.st, .int .u64 t.last]
def dyCells (l : List PDirty) : List Value := l.flatMap fun t => [.int .i64 t.page, .int .u64 t.rc]
theorem txCells_length (l : List PTxn) : (txCells l).length = l.length * 3 := by
  induction l with
  | nil => rfl
  | cons t l ih => simp [txCells] at *; omega
theorem dyCells_length (l : List PDirty) : (dyCells l).length = l.length * 2 := by
  induction l with
  | nil => rfl
  | cons t l ih => simp [dyCells] at *; omega
theorem txCells_get (l : List PTxn) : ∀ (i : Nat) (h : i < l.length), (txCells l)[i * 3]? = some (.int .i64 (l[i]).id) ∧ (txCells l)[i * 3 + 1]? = some (.int .i64 (l[i]).st) ∧ (txCells l)[i * 3 + 2]? = some (.int .u64 (l[i]).last) := by
  induction l with
  | nil => intro i h; simp at h
  | cons t l ih =>
    intro i h
    cases i with
    | zero => simp [txCells]
    | succ i =>
      have := ih i (by simpa using h)
      have e : txCells (t :: l) = [.int .i64 t.id, .int .i64 t.st, .int .u64 t.last] ++ txCells l := rfl
      rw [e, show (i + 1) * 3 = i * 3 + 3 by omega]
      simp only [List.getElem_cons_succ]
      simpa using this
theorem dyCells_get (l : List PDirty) : ∀ (i : Nat) (h : i < l.length), (dyCells l)[i * 2]? = some (.int .i64 (l[i]).page) ∧ (dyCells l)[i * 2 + 1]? = some (.int .u64 (l[i]).rc) := by
  induction l with
  | nil => intro i h; simp at h
  | cons t l ih =>
    intro i h
    cases i with
    | zero => simp [dyCells]
    | succ i =>
      have := ih i (by simpa using h)
      have e : dyCells (t :: l) = [.int .i64 t.page, .int .u64 t.rc] ++ dyCells l := rfl
      rw [e, show (i + 1) * 2 = i * 2 + 2 by omega]
      simp only [List.getElem_cons_succ]
      simpa using this
/-- A record's cells. -/
def rcs (r : PRec) (vt vd : Value) : List Value := [.int .i64 r.kind, .int .u64 r.lsn, .int .i64 r.txn, .int .u64 r.prev, .int .u64 r.undo, .int .i64 r.page,
  .int .i64 r.act.kind, .string ⟨r.act.key.toArray⟩, .string ⟨r.act.old.toArray⟩, .string ⟨r.act.new.toArray⟩, vt, vd]
/-- The slices of a record read its rows. -/
structure RecSl (w : World) (ok : Nat → Prop) (r : PRec) (vt vd : Value) : Prop where
  t : Sl w ok 3 vt r.txns.length (txCells r.txns)
  d : Sl w ok 2 vd r.dirty.length (dyCells r.dirty)
theorem RecSl.move {w w1 : World} {ok : Nat → Prop} {r : PRec} {vt vd : Value} (h : RecSl w ok r vt vd) (hm : ∀ b, ok b → b < w.heap.size → w1.heap[b]? = w.heap[b]?) : RecSl w1 ok r vt vd := ⟨h.t.move hm, h.d.move hm⟩
theorem RecSl.below {w w1 : World} {ok : Nat → Prop} {r : PRec} {vt vd : Value} (h : RecSl w ok r vt vd) (hb : Below w.heap.size w w1) : RecSl w1 ok r vt vd := ⟨h.t.below hb, h.d.below hb⟩
theorem RecSl.imp {w : World} {ok ok' : Nat → Prop} {r : PRec} {vt vd : Value} (h : RecSl w ok r vt vd) (hi : ∀ b, ok b → ok' b) : RecSl w ok' r vt vd := ⟨h.t.imp hi, h.d.imp hi⟩
end Go.Proofs.Ytgnlhjphmaikkaa
