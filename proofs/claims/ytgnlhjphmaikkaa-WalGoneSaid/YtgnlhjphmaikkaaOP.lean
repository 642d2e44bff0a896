/- A list of steps among the arguments: a reading opened. Conditions: none. -/
import Derived.Test.YtgnlhjphmaikkaaZR
set_option linter.unusedVariables false
set_option linter.unusedSimpArgs false
namespace Go.Proofs.Ytgnlhjphmaikkaa
open Go.RowKit

/-- A step: its kind, its two numbers, its record. -/
structure OpE where
  kind : Int
  n : Int
  at_ : Int
  r : PRec
  vt : Value
  vd : Value
def OpE.cs (o : OpE) : List Value := [.int .i64 o.kind, .int .i64 o.n, .int .u64 o.at_] ++ rcs o.r o.vt o.vd
structure OpE.good (w : World) (o : OpE) : Prop where
  sh : (∃ A c, o.vt = .slice A o.r.txns.length c) ∧ ∃ A c, o.vd = .slice A o.r.dirty.length c
  sl : o.r.txns.length ≤ 1000000 → o.r.dirty.length ≤ 1000000 → RecSl w (fun b => b < w.heap.size) o.r o.vt o.vd
  wf : o.r.wf
  lsn : 0 ≤ o.r.lsn
  lo : -9223372036854775808 ≤ o.n
  hi : o.n < 9223372036854775808
/-- v is a slice of so many steps. -/
structure OpsAt (w : World) (v : Value) (n : Nat) (f : Nat → OpE) : Prop where
  ex : ∃ A c, v = .slice A n c ∧ ∀ i, i < n → ∃ b o, A = some ⟨b, o, none⟩ ∧ b < w.heap.size ∧ w.rangeAt b (o + i * 15) (f i).cs
  good : ∀ i, i < n → (f i).good w
theorem OpsAt.shape {w : World} {v : Value} {n : Nat} {f : Nat → OpE} (h : OpsAt w v n f) : ∃ A c, v = .slice A n c := by obtain ⟨A, c, e, _⟩ := h.ex; exact ⟨A, c, e⟩
section
variable {H : Type} {enc : TypeId × Value → H} {w : World} {sp : Nat → Bool} {held : Bool}
set_option maxRecDepth 100000 in
theorem op_of_trod {fuel : Nat} {cs : List Value} {x : DataW H × List MemPlace} (h : DataW.trod enc Try.prog w 0 sp held fuel 43 cs = some x) : ∃ o : OpE, cs = o.cs ∧ o.good w := by
  obtain ⟨hl, m, hf⟩ := fields_of Try.underlying43 h
  rw [cel43] at hl
  obtain ⟨y0, e0⟩ := hf 0 _ rfl
  obtain ⟨y1, e1⟩ := hf 1 _ rfl
  obtain ⟨y2, e2⟩ := hf 2 _ rfl
  obtain ⟨y3, e3⟩ := hf 3 _ rfl
  obtain ⟨k3, k33, k34, k35, k9, k38, k39, _, k32⟩ := cel1
  match cs, hl with
  | c0 :: c1 :: c2 :: rest, hl =>
    simp only [k3, k32, cel41, List.drop_zero, List.drop_succ_cons, List.take_succ_cons, List.take_zero] at e0 e1 e2 e3
    obtain ⟨n0, q0, _, _⟩ := DataW.trod_int Try.underlying3 e0
    obtain ⟨n1, q1, _, w1⟩ := DataW.trod_int Try.underlying3 e1
    obtain ⟨n2, q2, _, _⟩ := DataW.trod_int Try.underlying32 e2
    have hrl : rest.length = 12 := by simpa using hl
    rw [List.take_of_length_le (by omega)] at e3
    obtain ⟨r, vt, vd, hcs, hsh, hsl, hwf, hls, _⟩ := rec_of_trod e3
    injection q0 with q0; injection q1 with q1; injection q2 with q2
    subst q0 q1 q2 hcs
    have h2 : (decide (IntKind.i64.min ≤ n1) && decide (n1 ≤ IntKind.i64.max)) = true := w1
    rw [Bool.and_eq_true, decide_eq_true_eq, decide_eq_true_eq] at h2
    have e1 : IntKind.i64.min = -9223372036854775808 := by decide
    have e2 : IntKind.i64.max = 9223372036854775807 := by decide
    exact ⟨⟨n0, n1, n2, r, vt, vd⟩, rfl, hsh, hsl, hwf, hls, by show -9223372036854775808 ≤ n1; omega, by show n1 < 9223372036854775808; omega⟩
theorem ops_of_trod {fuel : Nat} {a : Option Addr} {len cap : Nat} {x : DataW H × List MemPlace} (h : DataW.trod enc Try.prog w 0 sp held fuel 22 [.slice a len cap] = some x) : ∃ f : Nat → OpE, OpsAt w (.slice a len cap) len f := by
  rcases DataW.trod_slice Try.underlying22 h with ⟨h1, _⟩ | ⟨a', len', cap', elems, rest, n, _, h1, _, _, h2, h3, hlen, hel, _⟩
  · injection h1 with h1; injection h1 with h1 h4 h5
    subst h1 h4 h5
    exact ⟨fun _ => ⟨0, 0, 0, ⟨0, 0, 0, 0, 0, 0, noAct, [], []⟩, undef, undef⟩, ⟨⟨none, 0, rfl, fun i hi => by omega⟩, fun i hi => by omega⟩⟩
  · injection h1 with h1; injection h1 with h1 h4 h5
    subst h1 h4 h5
    have key : ∀ i, i < len → ∃ o : OpE, w.cells? 0 (a'.add (i * 15)) 15 = some o.cs ∧ o.good w := fun i hi => by
      have he := hel i hi
      rw [cel43, List.getElem?_eq_getElem (by omega)] at he
      obtain ⟨cs', hc1, hc2⟩ := Option.bind_eq_some_iff.1 he
      obtain ⟨o, rfl, hg⟩ := op_of_trod hc2
      exact ⟨o, hc1, hg⟩
    have haddr : 0 < len → ∃ b off, a' = ⟨b, off, none⟩ := fun hp => by
      obtain ⟨o, hc, _⟩ := key 0 hp
      obtain ⟨_, _, hcell⟩ := World.cells?_some hc
      have h0 := hcell 0 (by omega)
      simp only [Nat.zero_mul] at h0
      obtain ⟨b, off, s⟩ := a'
      cases s with
      | none => exact ⟨b, off, rfl⟩
      | some z =>
        unfold World.cell? at h0
        simp [Addr.add, OpE.cs] at h0
        split at h0 <;> simp_all
    classical
    refine ⟨fun i => if hi : i < len then Classical.choose (key i hi) else ⟨0, 0, 0, ⟨0, 0, 0, 0, 0, 0, noAct, [], []⟩, undef, undef⟩, ⟨⟨some a', cap, rfl, fun i hi => ?_⟩, fun i hi => ?_⟩⟩
    · simp only [dif_pos hi]
      obtain ⟨hc, _⟩ := Classical.choose_spec (key i hi)
      generalize Classical.choose (key i hi) = o at *
      obtain ⟨_, _, hcell⟩ := World.cells?_some hc
      obtain ⟨b, off, rfl⟩ := haddr (by omega)
      have h0 := hcell 0 (by omega)
      refine ⟨b, off, rfl, ?_, fun j u hu => ?_⟩
      · have h5 := World.block_lt_of_cell? w _ (h0.trans (show o.cs[0]? = some (.int .i64 o.kind) from rfl))
        rw [add_pl, add_pl] at h5; exact h5
      · have hj : j < 15 := (List.getElem?_eq_some_iff.1 hu).1
        have h6 := hcell j hj
        rw [add_pl, add_pl, hu] at h6
        exact h6
    · simp only [dif_pos hi]
      exact (Classical.choose_spec (key i hi)).2
end
theorem OpsAt.range {w : World} {A : Option Addr} {n c : Nat} {f : Nat → OpE} (h : OpsAt w (.slice A n c) n f) {i : Nat} (hi : i < n) : ∃ b o, A = some ⟨b, o, none⟩ ∧ b < w.heap.size ∧ w.rangeAt b (o + i * 15) (f i).cs := by
  obtain ⟨A', c', e, hx⟩ := h.ex
  injection e with e1 e2 e3
  subst e1
  exact hx i hi
/-- A range of cells in a world behind. -/
theorem range_below {w w1 : World} {b o : Nat} {cs : List Value} (h : w.rangeAt b o cs) (hb : b < w.heap.size) (hB : Below w.heap.size w w1) : w1.rangeAt b o cs := fun j v hv => (hB.cell (p := ⟨b, o + j, none⟩) hb).trans (h j v hv)
theorem OpE.rec_range {w : World} {b o : Nat} {x : OpE} (h : w.rangeAt b o x.cs) : w.rangeAt b (o + 3) (rcs x.r x.vt x.vd) := fun j v hv => by
  have := h (3 + j) v (by
    unfold OpE.cs
    rw [List.getElem?_append_right (by simp)]
    simpa using hv)
  rwa [← Nat.add_assoc] at this
theorem OpE.good.below {w w1 : World} {x : OpE} (h : x.good w) (hB : Below w.heap.size w w1) (h1 : x.r.txns.length ≤ 1000000) (h2 : x.r.dirty.length ≤ 1000000) : RecSl w1 (fun b => b < w.heap.size) x.r x.vt x.vd := (h.sl h1 h2).below hB
end Go.Proofs.Ytgnlhjphmaikkaa
