/- Package rec, walked: the reading of a record. Conditions: the bytes are few. -/
import Derived.Test.YtgnlhjphmaikkaaI
import Derived.Test.YtgnlhjphmaikkaaF
set_option linter.unusedVariables false
set_option linter.unusedSimpArgs false
namespace Go.Proofs.Ytgnlhjphmaikkaa
open Go.RowKit

set_option maxHeartbeats 400000 in
theorem must_yes (w : World) : Calls Try.prog 104 #[.bool true] w fun e w' => e = .returned (.tuple #[]) ∧ w = w' := by
  go_enter Try.func104, Try.ntmps104
  go_wp2
  go_end0
  exact ⟨rfl, rfl⟩
set_option maxHeartbeats 400000 in
theorem must_no (w : World) : Calls Try.prog 104 #[.bool false] w fun e w' => e = .panicked [{ v := .iface 166 (.agg #[.int .i64 5]), recovered := false }] ∧ w = w' := by
  go_enter Try.func104, Try.ntmps104
  go_wp2
  exact ⟨rfl, rfl, rfl⟩
/-! READ -/

theorem decode_eq (b : List UInt8) (r : PRec) (s : Rd) (h : readRec ⟨b, 0⟩ = some (r, s)) : (s.fin = 0 ∧ r.may → decode b = some r) ∧ (¬ (s.fin = 0 ∧ r.may) → decode b = none) := by
  have hf : s.fin = 0 ↔ s.err = 0 ∧ s.b = [] := by
    unfold Rd.fin
    split
    · rename_i hc
      constructor
      · intro h; omega
      · intro h; rw [h.2] at hc; simp at hc
    · rename_i hc
      constructor
      · intro h; exact ⟨h, List.eq_nil_of_length_eq_zero (by omega)⟩
      · intro h; exact h.1
  unfold decode
  rw [h]
  simp only [hf]
  constructor
  · intro hh; rw [if_pos ⟨hh.1.1, hh.1.2, hh.2⟩]
  · intro hh; rw [if_neg (fun k => hh ⟨⟨k.1, k.2.1⟩, k.2.2⟩)]
theorem decode_head (b : List UInt8) {x1 x2 x3 x4 : Nat × Rd} (h1 : (⟨b, 0⟩ : Rd).num 1 = x1) (h2 : x1.2.num 8 = x2) (h3 : x2.2.num 4 = x3) (h4 : x3.2.num 8 = x4) (he : x4.2.err ≠ 0) : decode b = none := by
  unfold decode readRec
  simp only [h1, h2, h3, h4]
  rw [if_pos he]
theorem RdAt.setNew {w : World} {g k : Nat} {s : Rd} (h : RdAt w g s) (hk : g < k) (i : Nat) (u : Value) : RdAt (w.setCell ⟨k, i, none⟩ u) g s :=
  h.kept fun j hj => Below.heap_setCell w ⟨k, i, none⟩ u j (by simp; omega)

def fault : List PanicEntry := [{ v := .iface 166 (.agg #[.int .i64 5]), recovered := false }]
/-- A record's slices are rows of one's own. -/
structure RecRow (w : World) (B : Nat) (r : PRec) (vt vd : Value) : Prop where
  t : w.ownsRow B 136 3 vt r.txns.length (txCells r.txns)
  d : w.ownsRow B 138 2 vd r.dirty.length (dyCells r.dirty)
theorem RecRow.move {w w1 : World} {B : Nat} {r : PRec} {vt vd : Value} (h : RecRow w B r vt vd) (hm : ∀ k, B ≤ k → k < w.heap.size → w1.heap[k]? = w.heap[k]?) : RecRow w1 B r vt vd :=
  ⟨row_kept h.t fun k hk => hm k (h.t.lt k hk).1 (h.t.lt k hk).2, row_kept h.d fun k hk => hm k (h.d.lt k hk).1 (h.d.lt k hk).2⟩
theorem RecRow.under {w w1 : World} {B : Nat} {r : PRec} {vt vd : Value} (h : RecRow w B r vt vd) (hb : Below w.heap.size w w1) : RecRow w1 B r vt vd := h.move fun k _ hk => hb.block k hk
theorem RecRow.lower {w : World} {B B' : Nat} {r : PRec} {vt vd : Value} (h : RecRow w B r vt vd) (hb : B' ≤ B) : RecRow w B' r vt vd := ⟨row_lower h.t hb, row_lower h.d hb⟩
theorem RecRow.recSl {w : World} {B : Nat} {r : PRec} {vt vd : Value} (h : RecRow w B r vt vd) (h1 : r.txns.length ≤ 1000000) (h2 : r.dirty.length ≤ 1000000) : RecSl w (fun b => B ≤ b) r vt vd := ⟨Sl.of_row h.t (by omega), Sl.of_row h.d (by omega)⟩
theorem RecRow.shape {w : World} {B : Nat} {r : PRec} {vt vd : Value} (h : RecRow w B r vt vd) : (∃ A c, vt = .slice A r.txns.length c) ∧ ∃ A c, vd = .slice A r.dirty.length c := ⟨row_shape h.t, row_shape h.d⟩
/-- What a reading comes to. -/
def ReadPost (g : Nat) (d : Option PRec) (w : World) (e : Ending) (w' : World) : Prop :=
  w.grownBy w' (some g) ∧ ((d = none ∧ e = .panicked fault) ∨ ∃ r vt vd, d = some r ∧ e = .returned (.agg (rcs r vt vd).toArray) ∧ RecRow w' w.heap.size r vt vd)
theorem num_keep (k : Nat) (s : Rd) (h : s.err = 0) : (s.num k).2.err = 0 ∨ (s.num k).2.err = 4 := by
  rw [num_eq]; unfold Rd.take; split
  · exact .inl h
  · split
    · exact .inr rfl
    · exact .inl rfl
theorem grown_alloc {w w1 : World} {r : Option Nat} (h : w.grownBy w1 r) (o : Obj) : w.grownBy (w1.alloc o) r := World.grownBy.trans h (World.grownBy_alloc w1 o r)
theorem grown_new {w w1 : World} {g k : Nat} (h : w.grownBy w1 (some g)) (hk : w.heap.size ≤ k) (i : Nat) (u : Value) : w.grownBy (w1.setCell ⟨k, i, none⟩ u) (some g) :=
  ⟨h.os, h.tape, h.output, by simpa [World.setCell] using h.size, fun j hj hne => (Below.heap_setCell w1 ⟨k, i, none⟩ u j (by simp; omega)).trans (h.block j hj hne)⟩
theorem grown_row {w w1 : World} {g k : Nat} (h : w.grownBy w1 (some g)) (hk : w.heap.size ≤ k) (cs : Array Value) : w.grownBy (w1.setRow k cs) (some g) :=
  ⟨h.os, h.tape, h.output, by simpa [World.setRow] using h.size, fun j hj hne => (setRow_other w1 k j cs (by omega)).trans (h.block j hj hne)⟩
theorem bk_gr {w w1 : World} {g k : Nat} {o : Obj} (hg : w.grownBy w1 (some g)) (h : w.heap[k]? = some o) (hne : k ≠ g) : w1.heap[k]? = some o := bk_grown h hg (by simpa using hne)

theorem grown_grow {w W W1 : World} {g : Nat} {v : Option Nat} (h : w.grownBy W (some g)) (hg : W.grownBy W1 v) (hv : ∀ k, v = some k → w.heap.size ≤ k) : w.grownBy W1 (some g) :=
  ⟨hg.os.trans h.os, hg.tape.trans h.tape, hg.output.trans h.output, Nat.le_trans h.size hg.size, fun k hk hne => (hg.block k (Nat.lt_of_lt_of_le hk h.size) (fun e => by have := hv k e.symm; omega)).trans (h.block k hk hne)⟩
theorem info136 : (Try.prog.info? 136).map (fun i => (i.zero, i.size, i.bytes)) = some (some (.agg #[.int .i64 0, .int .i64 0, .int .u64 0]), 3, 24) := by kernel_rfl
theorem info138 : (Try.prog.info? 138).map (fun i => (i.zero, i.size, i.bytes)) = some (some (.agg #[.int .i64 0, .int .u64 0]), 2, 16) := by kernel_rfl
theorem tx_snoc (l : List PTxn) (a b c : Nat) (ha : a < 4294967296) (hb : b < 256) : txCells l ++ [.int .i64 (IntKind.i64.wrap (a : Int)), .int .i64 (IntKind.i64.wrap (b : Int)), .int .u64 (c : Int)] = txCells (l ++ [⟨(a : Int), (b : Int), (c : Int)⟩]) := by
  rw [IntWalk.i64_in _ (by omega), IntWalk.i64_in _ (by omega)]
  simp [txCells]
theorem dy_snoc (l : List PDirty) (a c : Nat) (ha : a < 65536) : dyCells l ++ [.int .i64 (IntKind.i64.wrap (a : Int)), .int .u64 (c : Int)] = dyCells (l ++ [⟨(a : Int), (c : Int)⟩]) := by
  rw [IntWalk.i64_in _ (by omega)]
  simp [dyCells]
theorem many_step {α : Type} (f : Rd → α × Rd) (n j : Nat) (h : j < n) (s : Rd) (x : α) (s1 : Rd) (hf : f s = (x, s1)) : Rd.many f (n - j) s = (x :: (Rd.many f (n - (j + 1)) s1).1, (Rd.many f (n - (j + 1)) s1).2) := by
  rw [show n - j = (n - (j + 1)) + 1 by omega]
  simp only [Rd.many, hf]
theorem many_next {α : Type} (f : Rd → α × Rd) (n j : Nat) (h : j < n) (l : List α) (s0 s : Rd) (x : α) (s1 : Rd) (hf : f s = (x, s1)) (hm : Rd.many f n s0 = (l ++ (Rd.many f (n - j) s).1, (Rd.many f (n - j) s).2)) :
    Rd.many f n s0 = ((l ++ [x]) ++ (Rd.many f (n - (j + 1)) s1).1, (Rd.many f (n - (j + 1)) s1).2) := by
  rw [hm, many_step f n j h s x s1 hf]; simp
theorem many_end {α : Type} (f : Rd → α × Rd) (n j : Nat) (h : ¬ j < n) (l : List α) (s0 s : Rd) (hm : Rd.many f n s0 = (l ++ (Rd.many f (n - j) s).1, (Rd.many f (n - j) s).2)) : Rd.many f n s0 = (l, s) := by
  rw [hm, show n - j = 0 by omega]; simp [Rd.many]
/-- Where a reading stands: the reader, the result's cell, the record's cell, the rows that were laid. -/
structure RL (w W : World) (g R1 : Nat) (s : Rd) (r : PRec) (vt vd : Value) : Prop where
  rd : RdAt W g s
  gr : w.grownBy W (some g)
  r0 : W.heap[w.heap.size]? = some (.cells (rcs ⟨0, 0, 0, 0, 0, 0, noAct, [], []⟩ (.slice none 0 0) (.slice none 0 0)).toArray 41)
  r1 : W.heap[R1]? = some (.cells (rcs r vt vd).toArray 41)
  lt : w.heap.size < R1
  gl : g < w.heap.size
  t : W.ownsRow w.heap.size 136 3 vt r.txns.length (txCells r.txns)
  d : W.ownsRow w.heap.size 138 2 vd r.dirty.length (dyCells r.dirty)
theorem RL.call {w W W1 : World} {g R1 : Nat} {s s1 : Rd} {r : PRec} {vt vd : Value} (h : RL w W g R1 s r vt vd) (h1 : RdAt W1 g s1) (hg : W.grownBy W1 (some g)) : RL w W1 g R1 s1 r vt vd :=
  ⟨h1, h.gr.trans hg, bk_gr hg h.r0 (by have := h.gl; omega), bk_gr hg h.r1 (by have := h.gl; have := h.lt; omega), h.lt, h.gl,
    row_kept h.t fun k hk => hg.block k (h.t.lt k hk).2 (by have := (h.t.lt k hk).1; have := h.gl; simp; omega), row_kept h.d fun k hk => hg.block k (h.d.lt k hk).2 (by have := (h.d.lt k hk).1; have := h.gl; simp; omega)⟩
theorem RL.below {w W W1 : World} {g R1 : Nat} {s : Rd} {r : PRec} {vt vd : Value} (h : RL w W g R1 s r vt vd) (hb : Below W.heap.size W W1) : RL w W1 g R1 s r vt vd :=
  h.call (h.rd.below hb) ⟨hb.os, hb.tape, hb.output, hb.size, fun k hk _ => hb.block k hk⟩
theorem RL.set {w W : World} {g R1 : Nat} {s : Rd} {r r1 : PRec} {vt vd : Value} (h : RL w W g R1 s r vt vd) (i : Nat) (u : Value) (e : (rcs r vt vd).toArray.setIfInBounds i u = (rcs r1 vt vd).toArray) (et : r1.txns = r.txns) (ed : r1.dirty = r.dirty) :
    RL w (W.setCell ⟨R1, i, none⟩ u) g R1 s r1 vt vd :=
  ⟨h.rd.setNew (by have := h.gl; have := h.lt; omega) i u, grown_new h.gr (by have := h.lt; omega) i u, bk_far h.r0 (by have := h.lt; simp; omega) u, by rw [← e]; exact bk_set h.r1 i u, h.lt, h.gl,
    by rw [et]; exact row_set h.t (row_ne h.t h.r1 (by decide)) u, by rw [ed]; exact row_set h.d (row_ne h.d h.r1 (by decide)) u⟩
theorem RL.frozen {w W : World} {g R1 : Nat} {s : Rd} {r : PRec} {vt vd : Value} (h : RL w W g R1 s r vt vd) (i : Nat) : W.frozen? ⟨R1, i, none⟩ = false := bk_frozen h.r1 i
theorem RL.cell {w W : World} {g R1 : Nat} {s : Rd} {r : PRec} {vt vd : Value} (h : RL w W g R1 s r vt vd) : Box12 W R1 r vt vd := box12 h.r1
theorem RL.recSl {w W : World} {g R1 : Nat} {s : Rd} {r : PRec} {vt vd : Value} (h : RL w W g R1 s r vt vd) (h1 : r.txns.length ≤ 1000000) (h2 : r.dirty.length ≤ 1000000) : RecSl W (fun b => w.heap.size ≤ b) r vt vd :=
  ⟨Sl.of_row h.t (by omega), Sl.of_row h.d (by omega)⟩
theorem RL.done {w W : World} {g R1 : Nat} {s : Rd} {r : PRec} {vt vd : Value} (h : RL w W g R1 s r vt vd) (h1 : r.txns.length ≤ 1000000) (h2 : r.dirty.length ≤ 1000000) (cs : Array Value) : RecRow (W.setRow w.heap.size cs) w.heap.size r vt vd :=
  ⟨row_kept h.t fun k hk => setRow_other W w.heap.size k cs (fun e => row_ne h.t h.r0 (by decide) (by rw [hk, e])), row_kept h.d fun k hk => setRow_other W w.heap.size k cs (fun e => row_ne h.d h.r0 (by decide) (by rw [hk, e]))⟩
/-- A row laid anew in the record's cell. -/
theorem RL.txns {w W W1 : World} {g R1 : Nat} {s : Rd} {r : PRec} {vt vt1 vd : Value} {l : List PTxn} (h : RL w W g R1 s r vt vd) (hg : W.grownBy W1 vt.ownBlock) (hr : W1.ownsRow w.heap.size 136 3 vt1 l.length (txCells l)) (hb : vt1.ownBlock = vt.ownBlock ∨ vt1.ownBlock = some W.heap.size) :
    RL w (W1.setCell ⟨R1, 10, none⟩ vt1) g R1 s { r with txns := l } vt1 vd := by
  have hn : ∀ k, vt.ownBlock = some k → g < k := fun k hk => by have := (h.t.lt k hk).1; have := h.gl; omega
  have hd1 : W1.ownsRow w.heap.size 138 2 vd r.dirty.length (dyCells r.dirty) := row_kept h.d fun k hk => hg.block k (h.d.lt k hk).2 (fun e => by
    rcases h.t.2 with ⟨rfl, _⟩ | ⟨g1, c1, cur, rfl, _, hh, _⟩
    · simp [Value.ownBlock] at e
    · rcases h.d.2 with ⟨rfl, _⟩ | ⟨g2, c2, cur2, rfl, _, hh2, _⟩
      · simp [Value.ownBlock] at hk
      · simp [Value.ownBlock] at hk e
        exact bk_ne hh hh2 (by decide) (by omega))
  have h1 : W1.heap[R1]? = some (.cells (rcs r vt vd).toArray 41) := bk_grown h.r1 hg (row_ne h.t h.r1 (by decide))
  have h0 : W1.heap[w.heap.size]? = some (.cells (rcs ⟨0, 0, 0, 0, 0, 0, noAct, [], []⟩ (.slice none 0 0) (.slice none 0 0)).toArray 41) := bk_grown h.r0 hg (row_ne h.t h.r0 (by decide))
  refine ⟨(h.rd.grown hg hn).setNew (by have := h.gl; have := h.lt; omega) _ _, grown_new (grown_grow h.gr hg (fun k hk => (h.t.lt k hk).1)) (by have := h.lt; omega) _ _, bk_far h0 (by have := h.lt; simp; omega) _, ?_, h.lt, h.gl, row_set hr (row_ne hr h1 (by decide)) _, row_set hd1 (row_ne hd1 h1 (by decide)) _⟩
  have := bk_set h1 10 vt1
  simpa [rcs] using this
theorem RL.dirties {w W W1 : World} {g R1 : Nat} {s : Rd} {r : PRec} {vt vd1 vd : Value} {l : List PDirty} (h : RL w W g R1 s r vt vd) (hg : W.grownBy W1 vd.ownBlock) (hr : W1.ownsRow w.heap.size 138 2 vd1 l.length (dyCells l)) (hb : vd1.ownBlock = vd.ownBlock ∨ vd1.ownBlock = some W.heap.size) :
    RL w (W1.setCell ⟨R1, 11, none⟩ vd1) g R1 s { r with dirty := l } vt vd1 := by
  have hn : ∀ k, vd.ownBlock = some k → g < k := fun k hk => by have := (h.d.lt k hk).1; have := h.gl; omega
  have hd1 : W1.ownsRow w.heap.size 136 3 vt r.txns.length (txCells r.txns) := row_kept h.t fun k hk => hg.block k (h.t.lt k hk).2 (fun e => by
    rcases h.d.2 with ⟨rfl, _⟩ | ⟨g1, c1, cur, rfl, _, hh, _⟩
    · simp [Value.ownBlock] at e
    · rcases h.t.2 with ⟨rfl, _⟩ | ⟨g2, c2, cur2, rfl, _, hh2, _⟩
      · simp [Value.ownBlock] at hk
      · simp [Value.ownBlock] at hk e
        exact bk_ne hh hh2 (by decide) (by omega))
  have h1 : W1.heap[R1]? = some (.cells (rcs r vt vd).toArray 41) := bk_grown h.r1 hg (row_ne h.d h.r1 (by decide))
  have h0 : W1.heap[w.heap.size]? = some (.cells (rcs ⟨0, 0, 0, 0, 0, 0, noAct, [], []⟩ (.slice none 0 0) (.slice none 0 0)).toArray 41) := bk_grown h.r0 hg (row_ne h.d h.r0 (by decide))
  refine ⟨(h.rd.grown hg hn).setNew (by have := h.gl; have := h.lt; omega) _ _, grown_new (grown_grow h.gr hg (fun k hk => (h.d.lt k hk).1)) (by have := h.lt; omega) _ _, bk_far h0 (by have := h.lt; simp; omega) _, ?_, h.lt, h.gl, row_set hd1 (row_ne hd1 h1 (by decide)) _, row_set hr (row_ne hr h1 (by decide)) _⟩
  have := bk_set h1 11 vd1
  simpa [rcs] using this

set_option maxRecDepth 100000 in
set_option maxHeartbeats 4000000 in
theorem read_try (g : Nat) (b : List UInt8) (w : World) (H : RdAt w g ⟨b, 0⟩) :
    Calls Try.prog 92 #[.pointer (some ⟨g, 0, none⟩)] w (ReadPost g (decode b) w) := by
  have hlt := H.lt
  have hr0 := H.below ((Below.refl _ _).alloc (Nat.le_refl _) (.cells #[Value.int IntKind.i64 0, Value.int IntKind.u64 0, Value.int IntKind.i64 0, Value.int IntKind.u64 0, Value.int IntKind.u64 0, Value.int IntKind.i64 0, Value.int IntKind.i64 0, Value.string { data := #[] }, Value.string { data := #[] }, Value.string { data := #[] }, Value.slice none 0 0, Value.slice none 0 0] 41))
  have hg0 : w.grownBy (w.alloc (.cells #[Value.int IntKind.i64 0, Value.int IntKind.u64 0, Value.int IntKind.i64 0, Value.int IntKind.u64 0, Value.int IntKind.u64 0, Value.int IntKind.i64 0, Value.int IntKind.i64 0, Value.string { data := #[] }, Value.string { data := #[] }, Value.string { data := #[] }, Value.slice none 0 0, Value.slice none 0 0] 41)) (some g) := World.grownBy_alloc _ _ _
  have hR0 := bk_new w (.cells #[Value.int IntKind.i64 0, Value.int IntKind.u64 0, Value.int IntKind.i64 0, Value.int IntKind.u64 0, Value.int IntKind.u64 0, Value.int IntKind.i64 0, Value.int IntKind.i64 0, Value.string { data := #[] }, Value.string { data := #[] }, Value.string { data := #[] }, Value.slice none 0 0, Value.slice none 0 0] 41)
  obtain ⟨D, HD⟩ : ∃ D, Sec (decode b = D) := ⟨_, ⟨rfl⟩⟩
  rw [HD.out]
  go_enter Try.func92, Try.ntmps92
  have b1 := num_lt_1 ⟨b, 0⟩
  have hc1 := RByte_any g ⟨b, 0⟩ _ hr0
  generalize hx1 : (⟨b, 0⟩ : Rd).num 1 = x1 at *
  have Hx1 := Sec.mk hx1
  clear hx1
  go_wp2_with fail
  refine hc1.mono ?_
  clear hc1
  rintro e w1 ⟨rfl, hr1, hg1'⟩
  have hg1 := hg0.trans hg1'
  have hc2 := REight_any g x1.2 _ hr1
  generalize hx2 : x1.2.num 8 = x2 at *
  have Hx2 := Sec.mk hx2
  clear hx2
  go_wp2_with fail
  refine hc2.mono ?_
  clear hc2
  rintro e w2 ⟨rfl, hr2, hg2'⟩
  have hg2 := hg1.trans hg2'
  have b3 := num_lt_4 x2.2
  have hc3 := RFour_any g x2.2 _ hr2
  generalize hx3 : x2.2.num 4 = x3 at *
  have Hx3 := Sec.mk hx3
  clear hx3
  go_wp2_with fail
  refine hc3.mono ?_
  clear hc3
  rintro e w3 ⟨rfl, hr3, hg3'⟩
  have hg3 := hg2.trans hg3'
  have hc4 := REight_any g x3.2 _ hr3
  generalize hx4 : x3.2.num 8 = x4 at *
  have Hx4 := Sec.mk hx4
  clear hx4
  go_wp2_with fail
  refine hc4.mono ?_
  clear hc4
  rintro e w4 ⟨rfl, hr4, hg4'⟩
  have hg4 := hg3.trans hg4'
  go_wp2_with fail
  have hR0_1 := bk_gr hg1' hR0 (by omega)
  have hR0_2 := bk_gr hg2' hR0_1 (by omega)
  have hR0_3 := bk_gr hg3' hR0_2 (by omega)
  have hR0_4 := bk_gr hg4' hR0_3 (by omega)
  have hz4 := hg4.size
  have hz4' : w.heap.size < w4.heap.size := bk_lt hR0_4
  have hR0_5 := bk_alloc hR0_4 (.cells (rcs ⟨((x1.1 : Nat) : Int), ((x2.1 : Nat) : Int), ((x3.1 : Nat) : Int), ((x4.1 : Nat) : Int), 0, 0, noAct, [], []⟩ (.slice none 0 0) (.slice none 0 0)).toArray 41)
  have hR1_5 := bk_new w4 (.cells (rcs ⟨((x1.1 : Nat) : Int), ((x2.1 : Nat) : Int), ((x3.1 : Nat) : Int), ((x4.1 : Nat) : Int), 0, 0, noAct, [], []⟩ (.slice none 0 0) (.slice none 0 0)).toArray 41)
  have hr5 := hr4.below ((Below.refl _ _).alloc (Nat.le_refl _) (.cells (rcs ⟨((x1.1 : Nat) : Int), ((x2.1 : Nat) : Int), ((x3.1 : Nat) : Int), ((x4.1 : Nat) : Int), 0, 0, noAct, [], []⟩ (.slice none 0 0) (.slice none 0 0)).toArray 41))
  have hg5 := grown_alloc hg4 (.cells (rcs ⟨((x1.1 : Nat) : Int), ((x2.1 : Nat) : Int), ((x3.1 : Nat) : Int), ((x4.1 : Nat) : Int), 0, 0, noAct, [], []⟩ (.slice none 0 0) (.slice none 0 0)).toArray 41)
  have KL0 : RL w (w4.alloc (.cells (rcs ⟨((x1.1 : Nat) : Int), ((x2.1 : Nat) : Int), ((x3.1 : Nat) : Int), ((x4.1 : Nat) : Int), 0, 0, noAct, [], []⟩ (.slice none 0 0) (.slice none 0 0)).toArray 41)) g w4.heap.size x4.2 ⟨((x1.1 : Nat) : Int), ((x2.1 : Nat) : Int), ((x3.1 : Nat) : Int), ((x4.1 : Nat) : Int), 0, 0, noAct, [], []⟩ (.slice none 0 0) (.slice none 0 0) :=
    ⟨hr5, hg5, by simpa [rcs, noAct] using hR0_5, hR1_5, hz4', hlt, ⟨rfl, .inl ⟨rfl, rfl⟩⟩, ⟨rfl, .inl ⟨rfl, rfl⟩⟩⟩
  clear hR0 hR0_1 hR0_2 hR0_3 hR0_4 hr0 hr1 hr2 hr3 hr4 hg0 hg1 hg2 hg3 hg4 hg1' hg2' hg3' hg4' H hz4 hR1_5 hR0_5 hg5 hr5
  have KL := Sec.mk KL0
  clear KL0
  have HR : Sec (x4.2.err = 0 → readRec ⟨b, 0⟩ = some (⟨((x1.1 : Nat) : Int), ((x2.1 : Nat) : Int), ((x3.1 : Nat) : Int), ((x4.1 : Nat) : Int), (readUndo (x1.1 : Nat) (readAct (x1.1 : Nat) x4.2).2).1, (readAct (x1.1 : Nat) x4.2).1.1, (readAct (x1.1 : Nat) x4.2).1.2, (readRows (x1.1 : Nat) (readUndo (x1.1 : Nat) (readAct (x1.1 : Nat) x4.2).2).2).1.1, (readRows (x1.1 : Nat) (readUndo (x1.1 : Nat) (readAct (x1.1 : Nat) x4.2).2).2).1.2⟩, (readRows (x1.1 : Nat) (readUndo (x1.1 : Nat) (readAct (x1.1 : Nat) x4.2).2).2).2)) := ⟨fun h => by
    unfold readRec
    simp only [Hx1.out, Hx2.out, Hx3.out, Hx4.out]
    rw [if_neg (by simp [h])]⟩
  simp only [rcs, noAct] at KL
  generalize w4.alloc _ = W5 at *
  generalize w4.heap.size = R1 at *
  by_cases he : x4.2.err = 0
  · have hee : (x4.2.err == 0) = true := by simp [he]
    have HR2 := Sec.mk (HR.out he)
    clear he HR Hx1 Hx2 Hx3 Hx4
    refine (Err_any g x4.2 _ KL.out.rd).mono ?_
    rintro e w6 ⟨rfl, rfl⟩
    go_wp2_with fail
    refine (must_yes _).mono ?_
    rintro e w6 ⟨rfl, rfl⟩
    generalize x1.1 = k at *
    generalize x2.1 = k2 at *
    generalize x3.1 = k3 at *
    generalize x4.1 = k4 at *
    generalize x4.2 = s4 at *
    obtain ⟨E, HE⟩ : ∃ E, Sec (readAct (k : Nat) s4 = E) := ⟨_, ⟨rfl⟩⟩
    rw [HE.out] at HR2
    obtain ⟨F, HF⟩ : ∃ F, Sec (readUndo (k : Nat) E.2 = F) := ⟨_, ⟨rfl⟩⟩
    rw [HF.out] at HR2
    obtain ⟨G, HG⟩ : ∃ G, Sec (readRows (k : Nat) F.2 = G) := ⟨_, ⟨rfl⟩⟩
    rw [HG.out] at HR2
    have hcls := Sec.mk (KL.out.cell)
    obtain ⟨q0, q1, q2, q3, q4, q5, q6, q7, q8, q9, q10, q11⟩ := hcls.out
    clear hcls
    go_upto_if 21 with (go_at_call 96; refine (changes_any _ _).mono ?_; rintro e w6 ⟨rfl, rfl⟩)
    go_cut [] (fun wx => RL w wx g R1 E.2 ⟨(k : Int), (k2 : Int), (k3 : Int), (k4 : Int), 0, E.1.1, E.1.2, [], []⟩ (.slice none 0 0) (.slice none 0 0))
    case first =>
      cases hkc : chgB (k : Int)
      rotate_left
      · clear q0 q1 q2 q3 q4 q5 q6 q7 q8 q9 q10 q11
        have hE : Sec (((((s4.num 2).1 : Nat) : Int), (⟨(((s4.num 2).2.num 1).1 : Nat), (((s4.num 2).2.num 1).2.text 16).1, ((((s4.num 2).2.num 1).2.text 16).2.text 32).1, (((((s4.num 2).2.num 1).2.text 16).2.text 32).2.text 32).1⟩ : PAct)) = E.1 ∧ (((((s4.num 2).2.num 1).2.text 16).2.text 32).2.text 32).2 = E.2) := ⟨by
          rw [← HE.out]; unfold readAct; rw [if_pos (show changes (k : Int) from (chgB_iff _).1 hkc)]; exact ⟨rfl, rfl⟩⟩
        have KA5 := KL
        have d2 := num_lt_2 s4
        have d1 := num_lt_1 (s4.num 2).2
        go_wp2_with fail
        refine (RTwo_any g s4 _ KA5.out.rd).mono ?_
        rintro e u6 ⟨rfl, hrr, hgg⟩
        have KA6 := Sec.mk (KA5.out.call hrr hgg)
        clear hrr hgg
        generalize (s4.num 2).1 = y1 at *
        generalize (s4.num 2).2 = s5 at *
        have hcls := Sec.mk (KA6.out.cell)
        obtain ⟨q0, q1, q2, q3, q4, q5, q6, q7, q8, q9, q10, q11⟩ := hcls.out
        clear hcls
        have z5 := KA6.out.frozen 5
        have z6 := KA6.out.frozen 6
        have z7 := KA6.out.frozen 7
        have z8 := KA6.out.frozen 8
        have z9 := KA6.out.frozen 9
        go_wp2_with fail
        clear q0 q1 q2 q3 q4 q5 q6 q7 q8 q9 q10 q11 z5 z6 z7 z8 z9
        have KA7 := Sec.mk (KA6.out.set (r1 := ⟨(k : Int), (k2 : Int), (k3 : Int), (k4 : Int), 0, (y1 : Int), noAct, [], []⟩) 5 (.int .i64 (y1 : Int)) rfl rfl rfl)
        clear KA6
        generalize u6.setCell _ _ = u7 at *
        refine (RByte_any g s5 _ KA7.out.rd).mono ?_
        rintro e u8 ⟨rfl, hrr, hgg⟩
        have KA8 := Sec.mk (KA7.out.call hrr hgg)
        clear hrr hgg
        generalize (s5.num 1).1 = y2 at *
        generalize (s5.num 1).2 = s6 at *
        go_wp2_with fail
        refine (RText_any g 16 (by omega) s6 _ KA8.out.rd).mono ?_
        rintro e u9 ⟨rfl, hrr, hgg⟩
        have KA9 := Sec.mk (KA8.out.call hrr hgg)
        clear hrr hgg
        generalize (s6.text 16).1 = y3 at *
        generalize (s6.text 16).2 = s7 at *
        go_wp2_with fail
        refine (RText_any g 32 (by omega) s7 _ KA9.out.rd).mono ?_
        rintro e u10 ⟨rfl, hrr, hgg⟩
        have KA10 := Sec.mk (KA9.out.call hrr hgg)
        clear hrr hgg
        generalize (s7.text 32).1 = y4 at *
        generalize (s7.text 32).2 = s8 at *
        go_wp2_with fail
        refine (RText_any g 32 (by omega) s8 _ KA10.out.rd).mono ?_
        rintro e u11 ⟨rfl, hrr, hgg⟩
        have KA11 := Sec.mk (KA10.out.call hrr hgg)
        clear hrr hgg
        generalize (s8.text 32).1 = y5 at *
        generalize (s8.text 32).2 = s9 at *
        have hcls := Sec.mk (KA11.out.cell)
        obtain ⟨q0, q1, q2, q3, q4, q5, q6, q7, q8, q9, q10, q11⟩ := hcls.out
        clear hcls
        have z5 := KA11.out.frozen 5
        have z6 := KA11.out.frozen 6
        have z7 := KA11.out.frozen 7
        have z8 := KA11.out.frozen 8
        have z9 := KA11.out.frozen 9
        go_wp2
        clear q0 q1 q2 q3 q4 q5 q6 q7 q8 q9 q10 q11 z5 z6 z7 z8 z9
        go_meet
        case rel =>
          obtain ⟨⟨pg, ac⟩, sE⟩ := E
          obtain ⟨he1, rfl⟩ := hE.out
          injection he1 with he1 he2
          subst he1 he2
          have K1 := KA11.out.set (r1 := ⟨(k : Int), (k2 : Int), (k3 : Int), (k4 : Int), 0, (y1 : Int), ⟨(y2 : Int), [], [], []⟩, [], []⟩) 6 (.int .i64 (y2 : Int)) rfl rfl rfl
          have K2 := K1.set (r1 := ⟨(k : Int), (k2 : Int), (k3 : Int), (k4 : Int), 0, (y1 : Int), ⟨(y2 : Int), y3, [], []⟩, [], []⟩) 7 (.string ⟨y3.toArray⟩) rfl rfl rfl
          have K3 := K2.set (r1 := ⟨(k : Int), (k2 : Int), (k3 : Int), (k4 : Int), 0, (y1 : Int), ⟨(y2 : Int), y3, y4, []⟩, [], []⟩) 8 (.string ⟨y4.toArray⟩) rfl rfl rfl
          exact K3.set (r1 := ⟨(k : Int), (k2 : Int), (k3 : Int), (k4 : Int), 0, (y1 : Int), ⟨(y2 : Int), y3, y4, y5⟩, [], []⟩) 9 (.string ⟨y5.toArray⟩) rfl rfl rfl
      · go_wp2
        go_meet
        case rel =>
          have h2 : readAct (k : Int) s4 = ((0, noAct), s4) := by unfold readAct; rw [if_neg (fun h => by have := (chgB_iff _).2 h; rw [hkc] at this; cases this)]
          rw [HE.out] at h2
          subst h2
          exact KL.out
    case rest =>
      have KU := Sec.mk hcut
      clear hcut KL HE
      have HCU := Sec.mk (KU.out.cell)
      obtain ⟨q0, q1, q2, q3, q4, q5, q6, q7, q8, q9, q10, q11⟩ := HCU.out
      clear HCU
      have z4 := KU.out.frozen 4
      go_upto_if 39 with fail
      go_cut [] (fun wx => RL w wx g R1 F.2 ⟨(k : Int), (k2 : Int), (k3 : Int), (k4 : Int), F.1, E.1.1, E.1.2, [], []⟩ (.slice none 0 0) (.slice none 0 0))
      case first =>
        by_cases hk2 : k = 2
        · have hkb : ((k : Int) == 2) = true := by simp; omega
          have hF : F = ((((E.2.num 8).1 : Nat) : Int), (E.2.num 8).2) := by rw [← HF.out]; unfold readUndo; rw [if_pos (by omega)]
          have HF2 := Sec.mk hF
          clear hF hk2 HF
          clear q0 q1 q2 q3 q4 q5 q6 q7 q8 q9 q10 q11 z4
          go_wp2_with fail
          refine (REight_any g E.2 _ KU.out.rd).mono ?_
          rintro e u9 ⟨rfl, hrr, hgg⟩
          have KA9 := Sec.mk (KU.out.call hrr hgg)
          clear hrr hgg
          generalize (E.2.num 8).1 = y8 at *
          generalize (E.2.num 8).2 = s9 at *
          have HCU := Sec.mk (KA9.out.cell)
          obtain ⟨q0, q1, q2, q3, q4, q5, q6, q7, q8, q9, q10, q11⟩ := HCU.out
          clear HCU
          have z4 := KA9.out.frozen 4
          go_wp2
          go_meet
          case rel =>
            obtain rfl := HF2.out
            exact KA9.out.set (r1 := ⟨(k : Int), (k2 : Int), (k3 : Int), (k4 : Int), (y8 : Int), E.1.1, E.1.2, [], []⟩) 4 (.int .u64 (y8 : Int)) rfl rfl rfl
        · have hkb : ((k : Int) == 2) = false := by simp; omega
          have hF : F = (0, E.2) := by rw [← HF.out]; unfold readUndo; rw [if_neg (by omega)]
          have HF2 := Sec.mk hF
          clear hF hk2 HF
          go_wp2
          go_meet
          case rel =>
            obtain rfl := HF2.out
            exact KU.out
      case rest =>
        have KV := Sec.mk hcut
        clear hcut KU HF q0 q1 q2 q3 q4 q5 q6 q7 q8 q9 q10 q11 z4
        have HCU := Sec.mk (KV.out.cell)
        obtain ⟨q0, q1, q2, q3, q4, q5, q6, q7, q8, q9, q10, q11⟩ := HCU.out
        clear HCU
        go_upto_if 45 with fail
        go_cut [] (fun wx => ∃ vt vd, RL w wx g R1 G.2 ⟨(k : Int), (k2 : Int), (k3 : Int), (k4 : Int), F.1, E.1.1, E.1.2, G.1.1, G.1.2⟩ vt vd ∧ G.1.1.length ≤ 255 ∧ G.1.2.length ≤ 255)
        case first =>
          by_cases hk8 : k = 8
          · have hkb : ((k : Int) == 8) = true := by simp; omega
            have hG : Sec (((Rd.many Rd.txn (F.2.num 1).1 (F.2.num 1).2).1, (Rd.many Rd.dirty ((Rd.many Rd.txn (F.2.num 1).1 (F.2.num 1).2).2.num 1).1 ((Rd.many Rd.txn (F.2.num 1).1 (F.2.num 1).2).2.num 1).2).1) = G.1 ∧ (Rd.many Rd.dirty ((Rd.many Rd.txn (F.2.num 1).1 (F.2.num 1).2).2.num 1).1 ((Rd.many Rd.txn (F.2.num 1).1 (F.2.num 1).2).2.num 1).2).2 = G.2) := ⟨by
              rw [← HG.out]; unfold readRows; rw [if_pos (by omega)]; exact ⟨rfl, rfl⟩⟩
            clear hk8 HG
            have b5 := num_lt_1 F.2
            go_wp2_with fail
            refine (RByte_any g F.2 _ KV.out.rd).mono ?_
            rintro e u10 ⟨rfl, hrr, hgg⟩
            have KX0 := Sec.mk (KV.out.call hrr hgg)
            clear hrr hgg KV q0 q1 q2 q3 q4 q5 q6 q7 q8 q9 q10 q11
            generalize (F.2.num 1).1 = n at *
            generalize (F.2.num 1).2 = s10 at *
            go_wp2_with fail
            go_loopw [48] (fun i wr => ∃ j : Nat, ∃ (l : List PTxn) (s : Rd) (vt : Value), j ≤ n ∧ i = .int .u8 j ∧ l.length = j ∧ Rd.many Rd.txn n s10 = (l ++ (Rd.many Rd.txn (n - j) s).1, (Rd.many Rd.txn (n - j) s).2) ∧ RL w wr g R1 s ⟨(k : Int), (k2 : Int), (k3 : Int), (k4 : Int), F.1, E.1.1, E.1.2, l, []⟩ vt (.slice none 0 0)) (fun i _ => n - (intOf i).toNat)
            case atStart => exact ⟨0, [], s10, _, by omega, rfl, rfl, by simp, KX0.out⟩
            case round =>
              obtain ⟨j, l, s, vt, hj, rfl, hl, hm, hK⟩ := hrel
              have KX := Sec.mk hK
              have HM := Sec.mk hm
              have HL := Sec.mk hl
              clear hK hm hl KX0
              by_cases hlt2 : j < n
              · have hlt3 : (j : Int) < (n : Int) := by omega
                have c1' := num_lt_4 s
                have c2 := num_lt_1 (s.num 4).2
                obtain ⟨A, c, rfl⟩ := row_shape KX.out.t
                have KD := Sec.mk (KX.out.below ((Below.refl _ wr).drew))
                have HCU := Sec.mk KX.out.cell
                obtain ⟨q0, q1, q2, q3, q4, q5, q6, q7, q8, q9, q10, q11⟩ := HCU.out
                clear HCU q0 q1 q2 q3 q4 q5 q6 q7 q8 q9 q11
                go_wp2_with fail
                go_region_law (first
                  | (go_simp; go_at_call 78; refine (RFour_any g s _ KD.out.rd).mono ?_; rintro e v1 ⟨rfl, h1, h2⟩; have KV1 := Sec.mk (KD.out.call h1 h2); have q10 := (KV1.out.cell).2.2.2.2.2.2.2.2.2.2.1; clear h1 h2)
                  | (go_simp; go_at_call 102; refine (RByte_any g (s.num 4).2 _ KV1.out.rd).mono ?_; rintro e v2 ⟨rfl, h1, h2⟩; have KV2 := Sec.mk (KV1.out.call h1 h2); have q10 := (KV2.out.cell).2.2.2.2.2.2.2.2.2.2.1; clear h1 h2)
                  | (go_simp; go_at_call 103; refine (REight_any g ((s.num 4).2.num 1).2 _ KV2.out.rd).mono ?_; rintro e v3 ⟨rfl, h1, h2⟩; have KV3 := Sec.mk (KV2.out.call h1 h2); have q10 := (KV3.out.cell).2.2.2.2.2.2.2.2.2.2.1; have qa := fun ob => ((KV3.out.below ((Below.refl _ _).alloc (Nat.le_refl _) ob)).cell).2.2.2.2.2.2.2.2.2.2.1; clear h1 h2)
                  | (have KN := Sec.mk (KV3.out.below ((Below.refl _ _).alloc (Nat.le_refl _) (.cells #[.int .i64 (IntKind.i64.wrap ((s.num 4).1 : Nat)), .int .i64 (IntKind.i64.wrap (((s.num 4).2.num 1).1 : Nat)), .int .u64 ((((s.num 4).2.num 1).2.num 8).1 : Nat)] 136)))
                     refine step_app w.heap.size (by rfl) (.tmp 51) (.tmp 61) 38 136 (.agg #[.int .i64 0, .int .i64 0, .int .u64 0]) 3 24 (by rfl) Try.underlying38 info136 rfl (by decide) (by decide) (.slice A l.length c) (by rfl) (.slice (some ⟨v3.heap.size, 0, none⟩) 1 1) (by rfl) l.length (txCells l) KN.out.t (fun b => b = v3.heap.size) 1
                       [.int .i64 (IntKind.i64.wrap ((s.num 4).1 : Nat)), .int .i64 (IntKind.i64.wrap (((s.num 4).2.num 1).1 : Nat)), .int .u64 ((((s.num 4).2.num 1).2.num 8).1 : Nat)] (sl_box v3.heap.size 3 1 (bk_new v3 _) rfl (by omega)) (by simp [Value.oneCell']) KN.out.gr.size (by have := HL.out; omega) ?_
                     intro A1 c1 w1 h1 h2 h3
                     have q10 : w1.cell? ⟨R1, 10, none⟩ = some (.slice A l.length c) := bk_cell (bk_grown KN.out.r1 h2 (row_ne KN.out.t KN.out.r1 (by decide))) 10
                     have z10 : w1.frozen? ⟨R1, 10, none⟩ = false := bk_frozen (bk_grown KN.out.r1 h2 (row_ne KN.out.t KN.out.r1 (by decide))) 10
                     have KT := Sec.mk (KN.out.txns (l := l ++ [⟨((s.num 4).1 : Nat), (((s.num 4).2.num 1).1 : Nat), ((((s.num 4).2.num 1).2.num 8).1 : Nat)⟩]) h2 (by rw [← tx_snoc _ _ _ _ c1' c2]; simpa using h1) h3)
                     clear h1 h2 h3))
                all_goals
                  go_wp2
                  go_roundw
                  case rel => exact ⟨j + 1, _, _, _, by omega, by go_num, by simp [HL.out], many_next _ _ _ hlt2 _ _ _ _ _ rfl HM.out, KT.out⟩
                  case measure => simp [intOf]; omega
              · have hlt3 : ¬ (j : Int) < (n : Int) := by omega
                have HM2 := Sec.mk (many_end _ _ _ hlt2 _ _ _ HM.out)
                obtain ⟨M, HMM⟩ : ∃ M, Sec (Rd.many Rd.txn n s10 = M) := ⟨_, ⟨rfl⟩⟩
                rw [HMM.out] at hG HM2
                obtain rfl := HM2.out
                clear HM HM2 HMM
                have b6 := num_lt_1 s
                go_wp2_with fail
                refine (RByte_any g s _ KX.out.rd).mono ?_
                rintro e u11 ⟨rfl, hrr, hgg⟩
                have KY0 := Sec.mk (KX.out.call hrr hgg)
                clear hrr hgg KX
                generalize (s.num 1).1 = n2 at *
                generalize (s.num 1).2 = s11 at *
                go_wp2_with fail
                go_loopw [67] (fun i wr => ∃ j2 : Nat, ∃ (l2 : List PDirty) (s2 : Rd) (vd : Value), j2 ≤ n2 ∧ i = .int .u8 j2 ∧ l2.length = j2 ∧ Rd.many Rd.dirty n2 s11 = (l2 ++ (Rd.many Rd.dirty (n2 - j2) s2).1, (Rd.many Rd.dirty (n2 - j2) s2).2) ∧ RL w wr g R1 s2 ⟨(k : Int), (k2 : Int), (k3 : Int), (k4 : Int), F.1, E.1.1, E.1.2, l, l2⟩ vt vd) (fun i _ => n2 - (intOf i).toNat)
                case atStart => exact ⟨0, [], s11, _, by omega, rfl, rfl, by simp, KY0.out⟩
                case round =>
                  obtain ⟨j2, l2, s2, vd, hj2, rfl, hl2, hm2, hK2⟩ := hrel
                  have KX := Sec.mk hK2
                  have HM := Sec.mk hm2
                  have HL2 := Sec.mk hl2
                  clear hK2 hm2 hl2 KY0
                  by_cases hlt4 : j2 < n2
                  · have hlt5 : (j2 : Int) < (n2 : Int) := by omega
                    have c1' := num_lt_2 s2
                    obtain ⟨A, c, rfl⟩ := row_shape KX.out.d
                    have KD := Sec.mk (KX.out.below ((Below.refl _ wr).drew))
                    have HCU := Sec.mk KX.out.cell
                    obtain ⟨q0, q1, q2, q3, q4, q5, q6, q7, q8, q9, q10, q11⟩ := HCU.out
                    clear HCU q0 q1 q2 q3 q4 q5 q6 q7 q8 q9 q10
                    go_wp2_with fail
                    go_region_law (first
                      | (go_simp; go_at_call 79; refine (RTwo_any g s2 _ KD.out.rd).mono ?_; rintro e v1 ⟨rfl, h1, h2⟩; have KV1 := Sec.mk (KD.out.call h1 h2); have q11 := (KV1.out.cell).2.2.2.2.2.2.2.2.2.2.2; clear h1 h2)
                      | (go_simp; go_at_call 103; refine (REight_any g (s2.num 2).2 _ KV1.out.rd).mono ?_; rintro e v3 ⟨rfl, h1, h2⟩; have KV3 := Sec.mk (KV1.out.call h1 h2); have q11 := (KV3.out.cell).2.2.2.2.2.2.2.2.2.2.2; have qa := fun ob => ((KV3.out.below ((Below.refl _ _).alloc (Nat.le_refl _) ob)).cell).2.2.2.2.2.2.2.2.2.2.2; clear h1 h2)
                      | (have KN := Sec.mk (KV3.out.below ((Below.refl _ _).alloc (Nat.le_refl _) (.cells #[.int .i64 (IntKind.i64.wrap ((s2.num 2).1 : Nat)), .int .u64 (((s2.num 2).2.num 8).1 : Nat)] 138)))
                         refine step_app w.heap.size (by rfl) (.tmp 70) (.tmp 77) 39 138 (.agg #[.int .i64 0, .int .u64 0]) 2 16 (by rfl) Try.underlying39 info138 rfl (by decide) (by decide) (.slice A l2.length c) (by rfl) (.slice (some ⟨v3.heap.size, 0, none⟩) 1 1) (by rfl) l2.length (dyCells l2) KN.out.d (fun b => b = v3.heap.size) 1
                           [.int .i64 (IntKind.i64.wrap ((s2.num 2).1 : Nat)), .int .u64 (((s2.num 2).2.num 8).1 : Nat)] (sl_box v3.heap.size 2 1 (bk_new v3 _) rfl (by omega)) (by simp [Value.oneCell']) KN.out.gr.size (by have := HL2.out; omega) ?_
                         intro A1 c1 w1 h1 h2 h3
                         have q11 : w1.cell? ⟨R1, 11, none⟩ = some (.slice A l2.length c) := bk_cell (bk_grown KN.out.r1 h2 (row_ne KN.out.d KN.out.r1 (by decide))) 11
                         have z11 : w1.frozen? ⟨R1, 11, none⟩ = false := bk_frozen (bk_grown KN.out.r1 h2 (row_ne KN.out.d KN.out.r1 (by decide))) 11
                         have KT := Sec.mk (KN.out.dirties (l := l2 ++ [⟨((s2.num 2).1 : Nat), (((s2.num 2).2.num 8).1 : Nat)⟩]) h2 (by rw [← dy_snoc _ _ _ c1']; simpa using h1) h3)
                         clear h1 h2 h3))
                    all_goals
                      go_wp2
                      go_roundw
                      case rel => exact ⟨j2 + 1, _, _, _, by omega, by go_num, by simp [HL2.out], many_next _ _ _ hlt4 _ _ _ _ _ rfl HM.out, KT.out⟩
                      case measure => simp [intOf]; omega
                  · have hlt5 : ¬ (j2 : Int) < (n2 : Int) := by omega
                    have HM2 := Sec.mk (many_end _ _ _ hlt4 _ _ _ HM.out)
                    go_wp2
                    go_meet
                    case rel =>
                      obtain ⟨⟨g1, g2⟩, g3⟩ := G
                      obtain ⟨he1, he2⟩ := hG.out
                      rw [HM2.out] at he1 he2
                      injection he1 with he1 he3
                      simp only at he1 he2 he3
                      subst he1 he2 he3
                      exact ⟨_, _, KX.out, by simp only [HL.out]; omega, by simp only [HL2.out]; omega⟩
          · have hkb : ((k : Int) == 8) = false := by simp; omega
            have hG : G = (([], []), F.2) := by rw [← HG.out]; unfold readRows; rw [if_neg (by omega)]
            have HG2 := Sec.mk hG
            clear hG hk8 HG
            go_wp2
            go_meet
            case rel =>
              obtain rfl := HG2.out
              exact ⟨_, _, KV.out, by simp, by simp⟩
        case rest =>
          obtain ⟨vt, vd, hl, hn1, hn2⟩ := hcut
          clear KV HG q0 q1 q2 q3 q4 q5 q6 q7 q8 q9 q10 q11
          have KW := Sec.mk hl
          clear hl
          have HC := Sec.mk (Check_any _ _ vt vd wc (KW.out.recSl (by simp only; omega) (by simp only; omega)) (by simp only; omega) (by simp only; omega))
          simp only [rcs] at HC
          have HCU := Sec.mk (KW.out.cell)
          obtain ⟨q0, q1, q2, q3, q4, q5, q6, q7, q8, q9, q10, q11⟩ := HCU.out
          clear HCU
          have HZ := Sec.mk KW.out.r0
          have HDE := Sec.mk (decode_eq b _ _ HR2.out)
          rw [HD.out] at HDE
          have HN := Sec.mk hn1
          have HN2 := Sec.mk hn2
          clear hn1 hn2 HR2
          generalize hfe : G.2.fin = fe at *
          have HFE := Sec.mk hfe
          clear hfe
          by_cases hf : fe = 0
          · have hfb : (fe == 0) = true := by simp [hf]
            have HF0 := Sec.mk hf
            clear hf
            go_wp2_with (go_at_call 106; refine (End_any g G.2 _ KW.out.rd).mono ?_; rw [HFE.out]; rintro e w6 ⟨rfl, rfl⟩)
            refine HC.out.mono ?_
            rintro e w7 ⟨kk, rfl, hk1, hk2, hk3⟩
            have HK1 := Sec.mk hk1
            clear hk1
            have KY := Sec.mk (KW.out.below hk3)
            clear q0 q1 q2 q3 q4 q5 q6 q7 q8 q9 q10 q11 hk3
            rcases hk2 with rfl | rfl
            · go_wp2_with fail
              refine (must_yes _).mono ?_
              rintro e w8 ⟨rfl, rfl⟩
              obtain ⟨A1, c1, rfl⟩ := row_shape KY.out.t
              obtain ⟨A2, c2, rfl⟩ := row_shape KY.out.d
              have H1 := Sec.mk KY.out.r1
              have H0 := Sec.mk KY.out.r0
              simp only [rcs, noAct] at H1 H0
              go_wp2_with (first
                | (refine wpList_load_row rfl 41 _ rfl R1 rfl 41 _ (0, 0) _ H1.out Try.underlying41 rfl (by kernel_rfl) ?_)
                | (refine wpList_store_row rfl 41 _ _ rfl w.heap.size _ rfl rfl 41 _ H0.out (by kernel_rfl) rfl (by simp [Value.oneCell']) ?_))
              refine bodyPost_ret (results_cell_row rfl _ _ w.heap.size 41 _ (0, 0) _ rfl (setRow_heap _ _ _ _ _ _ H0.out) Try.underlying41 rfl (by kernel_rfl)) rfl ?_
              exact ⟨grown_row KY.out.gr (Nat.le_refl _) _, .inr ⟨_, _, _, HDE.out.1 ⟨HF0.out, HK1.out.1 trivial⟩, rfl, KY.out.done (Nat.le_trans HN.out (by omega)) (Nat.le_trans HN2.out (by omega)) _⟩⟩
            · go_wp2_with fail
              refine (must_no _).mono ?_
              rintro e w8 ⟨rfl, rfl⟩
              go_wp2
              refine ⟨rfl, KY.out.gr, .inl ⟨HDE.out.2 (fun h => ?_), rfl⟩⟩
              have := HK1.out.2 h.2
              omega
          · have hfb : (fe == 0) = false := by simp [hf]
            have HF0 := Sec.mk hf
            clear hf
            go_wp2_with (go_at_call 106; refine (End_any g G.2 _ KW.out.rd).mono ?_; rw [HFE.out]; rintro e w6 ⟨rfl, rfl⟩)
            refine (must_no _).mono ?_
            rintro e w8 ⟨rfl, rfl⟩
            go_wp2
            refine ⟨rfl, KW.out.gr, .inl ⟨HDE.out.2 (fun h => HF0.out h.1), rfl⟩⟩
  · have hee : (x4.2.err == 0) = false := by simp [he]
    have hno := decode_head b Hx1.out Hx2.out Hx3.out Hx4.out he
    rw [HD.out] at hno
    have Hno := Sec.mk hno
    clear he hno HR
    refine (Err_any g x4.2 _ KL.out.rd).mono ?_
    rintro e w6 ⟨rfl, rfl⟩
    go_wp2_with fail
    refine (must_no _).mono ?_
    rintro e w6 ⟨rfl, rfl⟩
    go_wp2
    exact ⟨rfl, KL.out.gr, .inl ⟨Hno.out, rfl⟩⟩
end Go.Proofs.Ytgnlhjphmaikkaa
