/- Records among the arguments: a reading opened. Conditions: none. -/
import Derived.Test.YtgnlhjphmaikkaaZE
import Derived.ProofKit
set_option linter.unusedVariables false
set_option linter.unusedSimpArgs false
namespace Go.Proofs.Ytgnlhjphmaikkaa
open Go.RowKit

theorem cel41 : Try.prog.cellsOf 41 = 12 := by kernel_rfl
theorem cel37 : Try.prog.cellsOf 37 = 4 := by kernel_rfl
theorem cel136 : Try.prog.cellsOf 136 = 3 := by kernel_rfl
theorem cel138 : Try.prog.cellsOf 138 = 2 := by kernel_rfl
theorem cel43 : Try.prog.cellsOf 43 = 15 := by kernel_rfl
theorem cel1 : Try.prog.cellsOf 3 = 1 ∧ Try.prog.cellsOf 33 = 1 ∧ Try.prog.cellsOf 34 = 1 ∧ Try.prog.cellsOf 35 = 1 ∧ Try.prog.cellsOf 9 = 1 ∧ Try.prog.cellsOf 38 = 1 ∧ Try.prog.cellsOf 39 = 1 ∧ Try.prog.cellsOf 134 = 1 ∧ Try.prog.cellsOf 32 = 1 := by
  refine ⟨?_, ?_, ?_, ?_, ?_, ?_, ?_, ?_, ?_⟩ <;> kernel_rfl
section
variable {H : Type} {enc : TypeId × Value → H} {w : World} {sp : Nat → Bool} {held : Bool}
/-- A slice of structs of k cells, element by element. -/
theorem sl_of_trod {α : Type} (k : Nat) (hk : 0 < k) (f : α → List Value) (hf : ∀ x, (f x).length = k) (a : Addr) (n cap : Nat) (hn : n ≤ cap) (hm : cap ≤ maxLen)
    (hel : ∀ i, i < n → ∃ (x : α), w.cells? 0 (a.add (i * k)) k = some (f x)) : ∃ l : List α, l.length = n ∧ (n ≤ 1000000 → Sl w (fun b => b < w.heap.size) k (.slice (some a) n cap) l.length (l.flatMap f)) ∧ ∀ x ∈ l, ∃ i, i < n ∧ w.cells? 0 (a.add (i * k)) k = some (f x) := by
  classical
  let g : Fin n → α := fun i => Classical.choose (hel i.1 i.2)
  have hg : ∀ i : Fin n, w.cells? 0 (a.add (i.1 * k)) k = some (f (g i)) := fun i => Classical.choose_spec (hel i.1 i.2)
  refine ⟨List.ofFn g, by simp, fun hmil => ⟨by rw [flat_len f k hf], by simp; omega, some a, cap, by simp, by simpa using hn, (fun h => by cases h), fun h0 => ?_⟩, fun x hx => ?_⟩
  · have h0' : 0 < n := by simpa using h0
    obtain ⟨_, hl0, hc0⟩ := World.cells?_some (hg ⟨0, h0'⟩)
    have hc00 := hc0 0 hk
    simp only [Nat.zero_mul] at hc00
    obtain ⟨b, o, s⟩ := a
    have hs : s = none := by
      cases s with
      | none => rfl
      | some z =>
        unfold World.cell? at hc00
        simp [Addr.add] at hc00
        split at hc00 <;> simp_all
    subst hs
    refine ⟨b, o, rfl, ?_, fun j u hu => ?_⟩
    · have h2 := World.block_lt_of_cell? w _ (hc00.trans (List.getElem?_eq_getElem (by rw [hf]; exact hk)))
      simpa [Addr.add] using h2
    · have hj : j < n * k := by
        have := (List.getElem?_eq_some_iff.1 hu).1
        rw [flat_len f k hf] at this; simpa using this
      have hq : j / k < n := Nat.div_lt_of_lt_mul (by rw [Nat.mul_comm]; exact hj)
      have hr : j % k < k := Nat.mod_lt _ hk
      have hjj : j / k * k + j % k = j := Nat.div_add_mod' j k
      have h1 := flat_get f k hf (List.ofFn g) (j / k) (j % k) (by simpa using hq) hr
      rw [hjj, hu] at h1
      obtain ⟨_, _, hc⟩ := World.cells?_some (hg ⟨j / k, hq⟩)
      have h2 := hc (j % k) hr
      simp only [List.getElem_ofFn] at h1
      rw [← h1, add_pl, add_pl] at h2
      simpa only [Nat.add_assoc, hjj] using h2
  · obtain ⟨i, rfl⟩ := List.mem_ofFn.1 hx
    exact ⟨i.1, i.2, hg i⟩
/-- The fields of a struct's reading. -/
theorem fields_of {fuel : Nat} {t : TypeId} {fs : Array Field} {cs : List Value} {x : DataW H × List MemPlace} (ht : Try.prog.underlying t = some (.struct fs)) (h : DataW.trod enc Try.prog w 0 sp held fuel t cs = some x) :
    cs.length = Try.prog.cellsOf t ∧ ∃ n, ∀ (i : Nat) (f : Field), fs.toList[i]? = some f → ∃ y, DataW.trod enc Try.prog w 0 sp held n f.type ((cs.drop f.offset).take (Try.prog.cellsOf f.type)) = some y := by
  obtain ⟨xs, n, _, _, hl, hxl, hall⟩ := DataW.trod_struct ht h
  refine ⟨hl, n, fun i f hf0 => ?_⟩
  have hf : fs[i]? = some f := by simpa using hf0
  have hi : i < xs.length := by rw [hxl]; exact (Array.getElem?_eq_some_iff.1 hf).1
  exact ⟨xs[i], (hall i f hf).trans (List.getElem?_eq_getElem hi)⟩
set_option maxRecDepth 100000 in
theorem txns_of_trod {fuel : Nat} {c : Value} {x : DataW H × List MemPlace} (h : DataW.trod enc Try.prog w 0 sp held fuel 38 [c] = some x) : ∃ l : List PTxn, (∃ A cap, c = .slice A l.length cap) ∧ (l.length ≤ 1000000 → Sl w (fun b => b < w.heap.size) 3 c l.length (txCells l)) := by
  rcases DataW.trod_slice Try.underlying38 h with ⟨h1, _⟩ | ⟨a, len, cap, elems, rest, n, _, h1, _, _, h2, h3, hlen, hel, _⟩
  · injection h1 with h1; subst h1
    exact ⟨[], ⟨none, 0, rfl⟩, fun _ => ⟨by simp [txCells], by simp, none, 0, rfl, by simp, fun _ => rfl, fun h => by simp at h⟩⟩
  · injection h1 with h1; subst h1
    have := sl_of_trod (w := w) 3 (by omega) (fun t : PTxn => [Value.int .i64 t.id, .int .i64 t.st, .int .u64 t.last]) (fun _ => rfl) a len cap h2 h3 (fun i hi => by
      have he := hel i hi
      rw [cel136, List.getElem?_eq_getElem (by omega)] at he
      obtain ⟨cs', hc1, hc2⟩ := Option.bind_eq_some_iff.1 he
      obtain ⟨hl, m, hf⟩ := fields_of Try.underlying136 hc2
      rw [cel136] at hl
      match cs', hl with
      | [c0, c1, c2], _ =>
        obtain ⟨y0, e0⟩ := hf 0 _ rfl
        obtain ⟨y1, e1⟩ := hf 1 _ rfl
        obtain ⟨y2, e2⟩ := hf 2 _ rfl
        simp only [cel1.1, cel1.2.2.1, cel1.2.2.2.2.2.2.2.1, List.drop_zero, List.drop_succ_cons, List.take_succ_cons, List.take_zero] at e0 e1 e2
        obtain ⟨n0, q0, _, _⟩ := DataW.trod_int Try.underlying3 e0
        obtain ⟨n1, q1, _, _⟩ := DataW.trod_int Try.underlying134 e1
        obtain ⟨n2, q2, _, _⟩ := DataW.trod_int Try.underlying34 e2
        injection q0 with q0; injection q1 with q1; injection q2 with q2
        subst q0 q1 q2
        exact ⟨⟨n0, n1, n2⟩, hc1⟩)
    obtain ⟨l, hl, hs, _⟩ := this
    subst hl
    exact ⟨l, ⟨_, _, rfl⟩, hs⟩
set_option maxRecDepth 100000 in
theorem dirty_of_trod {fuel : Nat} {c : Value} {x : DataW H × List MemPlace} (h : DataW.trod enc Try.prog w 0 sp held fuel 39 [c] = some x) : ∃ l : List PDirty, (∃ A cap, c = .slice A l.length cap) ∧ (l.length ≤ 1000000 → Sl w (fun b => b < w.heap.size) 2 c l.length (dyCells l)) := by
  rcases DataW.trod_slice Try.underlying39 h with ⟨h1, _⟩ | ⟨a, len, cap, elems, rest, n, _, h1, _, _, h2, h3, hlen, hel, _⟩
  · injection h1 with h1; subst h1
    exact ⟨[], ⟨none, 0, rfl⟩, fun _ => ⟨by simp [dyCells], by simp, none, 0, rfl, by simp, fun _ => rfl, fun h => by simp at h⟩⟩
  · injection h1 with h1; subst h1
    have := sl_of_trod (w := w) 2 (by omega) (fun t : PDirty => [Value.int .i64 t.page, .int .u64 t.rc]) (fun _ => rfl) a len cap h2 h3 (fun i hi => by
      have he := hel i hi
      rw [cel138, List.getElem?_eq_getElem (by omega)] at he
      obtain ⟨cs', hc1, hc2⟩ := Option.bind_eq_some_iff.1 he
      obtain ⟨hl, m, hf⟩ := fields_of Try.underlying138 hc2
      rw [cel138] at hl
      match cs', hl with
      | [c0, c1], _ =>
        obtain ⟨y0, e0⟩ := hf 0 _ rfl
        obtain ⟨y1, e1⟩ := hf 1 _ rfl
        simp only [cel1.1, cel1.2.2.1, List.drop_zero, List.drop_succ_cons, List.take_succ_cons, List.take_zero] at e0 e1
        obtain ⟨n0, q0, _, _⟩ := DataW.trod_int Try.underlying3 e0
        obtain ⟨n1, q1, _, _⟩ := DataW.trod_int Try.underlying34 e1
        injection q0 with q0; injection q1 with q1
        subst q0 q1
        exact ⟨⟨n0, n1⟩, hc1⟩)
    obtain ⟨l, hl, hs, _⟩ := this
    subst hl
    exact ⟨l, ⟨_, _, rfl⟩, hs⟩
theorem u64_bounds {n : Int} (h : (Lit.int .u64 n).wf = true) : 0 ≤ n ∧ n < 18446744073709551616 := by
  have h2 : (decide (IntKind.u64.min ≤ n) && decide (n ≤ IntKind.u64.max)) = true := h
  rw [Bool.and_eq_true, decide_eq_true_eq, decide_eq_true_eq] at h2
  have e1 : IntKind.u64.min = 0 := by decide
  have e2 : IntKind.u64.max = 18446744073709551615 := by decide
  omega
theorem str_of (s : ByteArray) : (⟨s.data.toList.toArray⟩ : ByteArray) = s := by cases s; simp
/-- What a record among the arguments is. -/
structure PRec.typed (r : PRec) : Prop where
  lsn : 0 ≤ r.lsn
  wf : r.wf
set_option maxRecDepth 100000 in
theorem rec_of_trod {fuel : Nat} {cs : List Value} {x : DataW H × List MemPlace} (h : DataW.trod enc Try.prog w 0 sp held fuel 41 cs = some x) : ∃ r vt vd, cs = rcs r vt vd ∧ ((∃ A c, vt = .slice A r.txns.length c) ∧ ∃ A c, vd = .slice A r.dirty.length c) ∧ (r.txns.length ≤ 1000000 → r.dirty.length ≤ 1000000 → RecSl w (fun b => b < w.heap.size) r vt vd) ∧ r.wf ∧ 0 ≤ r.lsn ∧ r.act.key.length ≤ maxLen ∧ r.act.old.length ≤ maxLen ∧ r.act.new.length ≤ maxLen := by
  obtain ⟨hl, m, hf⟩ := fields_of Try.underlying41 h
  rw [cel41] at hl
  match cs, hl with
  | [c0, c1, c2, c3, c4, c5, c6, c7, c8, c9, c10, c11], _ =>
    obtain ⟨y0, e0⟩ := hf 0 _ rfl
    obtain ⟨y1, e1⟩ := hf 1 _ rfl
    obtain ⟨y2, e2⟩ := hf 2 _ rfl
    obtain ⟨y3, e3⟩ := hf 3 _ rfl
    obtain ⟨y4, e4⟩ := hf 4 _ rfl
    obtain ⟨y5, e5⟩ := hf 5 _ rfl
    obtain ⟨y6, e6⟩ := hf 6 _ rfl
    obtain ⟨y7, e7⟩ := hf 7 _ rfl
    obtain ⟨y8, e8⟩ := hf 8 _ rfl
    obtain ⟨k3, k33, k34, k35, k9, k38, k39, _⟩ := cel1
    simp only [k3, k33, k34, k38, k39, cel37, List.drop_zero, List.drop_succ_cons, List.take_succ_cons, List.take_zero] at e0 e1 e2 e3 e4 e5 e6 e7 e8
    obtain ⟨n0, q0, _, _⟩ := DataW.trod_int Try.underlying33 e0
    obtain ⟨n1, q1, _, w1⟩ := DataW.trod_int Try.underlying34 e1
    obtain ⟨n2, q2, _, _⟩ := DataW.trod_int Try.underlying3 e2
    obtain ⟨n3, q3, _, w3⟩ := DataW.trod_int Try.underlying34 e3
    obtain ⟨n4, q4, _, w4⟩ := DataW.trod_int Try.underlying34 e4
    obtain ⟨n5, q5, _, _⟩ := DataW.trod_int Try.underlying3 e5
    obtain ⟨_, m6, hf6⟩ := fields_of Try.underlying37 e6
    obtain ⟨z0, g0⟩ := hf6 0 _ rfl
    obtain ⟨z1, g1⟩ := hf6 1 _ rfl
    obtain ⟨z2, g2⟩ := hf6 2 _ rfl
    obtain ⟨z3, g3⟩ := hf6 3 _ rfl
    simp only [k35, k9, List.drop_zero, List.drop_succ_cons, List.take_succ_cons, List.take_zero] at g0 g1 g2 g3
    obtain ⟨n6, q6, _, _⟩ := DataW.trod_int Try.underlying35 g0
    obtain ⟨s1, q7, _, b1⟩ := DataW.trod_string Try.underlying9 g1
    obtain ⟨s2, q8, _, b2⟩ := DataW.trod_string Try.underlying9 g2
    obtain ⟨s3, q9, _, b3⟩ := DataW.trod_string Try.underlying9 g3
    obtain ⟨lt, hst, hlt⟩ := txns_of_trod e7
    obtain ⟨ld, hsd, hld⟩ := dirty_of_trod e8
    injection q0 with q0; injection q1 with q1; injection q2 with q2; injection q3 with q3; injection q4 with q4; injection q5 with q5; injection q6 with q6; injection q7 with q7; injection q8 with q8; injection q9 with q9
    subst q0 q1 q2 q3 q4 q5 q6 q7 q8 q9
    refine ⟨⟨n0, n1, n2, n3, n4, n5, ⟨n6, s1.data.toList, s2.data.toList, s3.data.toList⟩, lt, ld⟩, c10, c11, ?_, ⟨hst, hsd⟩, fun a b => ⟨hlt a, hld b⟩, ⟨(u64_bounds w3).1, (u64_bounds w4).1⟩, (u64_bounds w1).1, ?_, ?_, ?_⟩
    · simp [rcs]
    · simpa using b1
    · simpa using b2
    · simpa using b3
end
end Go.Proofs.Ytgnlhjphmaikkaa
