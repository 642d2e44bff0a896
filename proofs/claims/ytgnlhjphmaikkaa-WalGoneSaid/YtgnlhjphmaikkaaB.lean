/- Words for the walks of this seat: slices that are read, rows of one's own, what has changed of a world. Conditions: none. -/
import Derived.Test.YtgnlhjphmaikkaaProg
import Derived.Test.YtgnlhjphmaikkaaA
import Derived.WalkKit
import Derived.WalkSpells
import Derived.WalkLawsBesides
import Derived.Deep.RegionHeld3
import Derived.Deep.RegionLaw
import Derived.Deep.AppendLies
import Derived.Deep.QuietTactic
import Derived.BigQuiet
import Derived.Laws.AppendOwnNone
import Derived.Maps.AppendAt
import Derived.KernelRfl
set_option linter.unusedVariables false
set_option linter.unusedSimpArgs false
namespace Go.Proofs.Ytgnlhjphmaikkaa
open Go.RowKit

theorem Try.info5 : (Try.prog.info? 5).map (fun i => (i.zero, i.size, i.bytes)) = some (some (.int .u8 0), 1, 1) := by kernel_rfl

/-- A fact that the walk's simp doesn't look into. -/
structure Sec (p : Prop) : Prop where mk :: (out : p)

/-! ### Blocks -/
theorem bk_lt {w : World} {g : Nat} {o : Obj} (h : w.heap[g]? = some o) : g < w.heap.size := (Array.getElem?_eq_some_iff.1 h).1
theorem bk_cell {w : World} {g : Nat} {t : TypeId} {cs : Array Value} {fz : Nat × Nat} (h : w.heap[g]? = some (.cells cs t fz)) (i : Nat) : w.cell? ⟨g, i, none⟩ = cs[i]? := by
  simp [World.cell?, h]
theorem bk_frozen {w : World} {g : Nat} {t : TypeId} {cs : Array Value} (h : w.heap[g]? = some (.cells cs t (0, 0))) (i : Nat) : w.frozen? ⟨g, i, none⟩ = false := by simp [World.frozen?, h]
theorem bk_alloc {w : World} {g : Nat} {o : Obj} (h : w.heap[g]? = some o) (o' : Obj) : (w.alloc o').heap[g]? = some o := (Below.heap_alloc w o' g (bk_lt h)).trans h
theorem bk_drew {w : World} {g : Nat} {o : Obj} (h : w.heap[g]? = some o) : w.drew.heap[g]? = some o := h
theorem bk_grown {w w1 : World} {g : Nat} {o : Obj} {row : Option Nat} (h : w.heap[g]? = some o) (hg : w.grownBy w1 row) (hne : some g ≠ row) : w1.heap[g]? = some o := (hg.block g (bk_lt h) hne).trans h
theorem bk_below {w w1 : World} {g B : Nat} {o : Obj} (h : w.heap[g]? = some o) (hb : Below B w w1) (hB : g < B) : w1.heap[g]? = some o := (hb.block g hB).trans h
theorem bk_set {w : World} {g : Nat} {t : TypeId} {cs : Array Value} (h : w.heap[g]? = some (.cells cs t (0, 0))) (i : Nat) (u : Value) : (w.setCell ⟨g, i, none⟩ u).heap[g]? = some (.cells (cs.setIfInBounds i u) t (0, 0)) := by
  have hlt := bk_lt h
  simp [World.setCell, Array.getElem?_modify, h]
theorem bk_far {w : World} {g : Nat} {o : Obj} (h : w.heap[g]? = some o) {p : Addr} (hp : g ≠ p.block) (u : Value) : (w.setCell p u).heap[g]? = some o := (Below.heap_setCell w p u g hp).trans h
theorem bk_new (w : World) (o : Obj) : (w.alloc o).heap[w.heap.size]? = some o := heap_alloc_new w o
theorem bk_ne {w : World} {g g' : Nat} {t t' : TypeId} {cs cs' : Array Value} {f f' : Nat × Nat} (h : w.heap[g]? = some (.cells cs t f)) (h' : w.heap[g']? = some (.cells cs' t' f')) (hne : t ≠ t') : g ≠ g' := by
  intro e; subst e; rw [h] at h'; injection h' with h'; injection h' with _ ht; exact hne ht
theorem row_ne {w : World} {base : Nat} {e t : TypeId} {size n g : Nat} {v : Value} {xs : List Value} {cs : Array Value} {f : Nat × Nat} (h : w.ownsRow base e size v n xs) (hg : w.heap[g]? = some (.cells cs t f)) (hne : e ≠ t) : some g ≠ v.ownBlock := by
  rcases h.2 with ⟨rfl, _⟩ | ⟨g', cap, cur, rfl, _, hh, _⟩
  · simp [Value.ownBlock]
  · intro hk
    have : g = g' := by simpa [Value.ownBlock] using hk
    exact bk_ne hg hh (Ne.symm hne) this
theorem row_base {w : World} {base : Nat} {e : TypeId} {size n : Nat} {v : Value} {xs : List Value} (h : w.ownsRow base e size v n xs) (k : Nat) (hk : v.ownBlock = some k) : base ≤ k := (h.lt k hk).1
theorem row_set {w : World} {base : Nat} {e : TypeId} {size n : Nat} {v : Value} {xs : List Value} (h : w.ownsRow base e size v n xs) {p : Addr} (hne : some p.block ≠ v.ownBlock) (u : Value) : (w.setCell p u).ownsRow base e size v n xs := by
  refine ⟨h.1, ?_⟩
  rcases h.2 with h0 | ⟨g, cap, cur, rfl, hb, hh, h3⟩
  · exact .inl h0
  · refine .inr ⟨g, cap, cur, rfl, hb, bk_far hh (fun e => hne ?_) u, h3⟩
    simp [Value.ownBlock, e]
theorem row_shape {w : World} {base : Nat} {e : TypeId} {size n : Nat} {v : Value} {xs : List Value} (h : w.ownsRow base e size v n xs) : ∃ A c, v = .slice A n c := by
  rcases h.2 with ⟨rfl, rfl⟩ | ⟨g, cap, cur, rfl, _⟩
  · exact ⟨none, 0, rfl⟩
  · exact ⟨_, cap, rfl⟩
theorem row_kept {w w1 : World} {base : Nat} {e : TypeId} {size n : Nat} {v : Value} {xs : List Value} (h : w.ownsRow base e size v n xs) (hm : ∀ k, v.ownBlock = some k → w1.heap[k]? = w.heap[k]?) : w1.ownsRow base e size v n xs := by
  refine ⟨h.1, ?_⟩
  rcases h.2 with h0 | ⟨g, cap, cur, rfl, hb, hh, h3⟩
  · exact .inl h0
  · exact .inr ⟨g, cap, cur, rfl, hb, (hm g rfl).trans hh, h3⟩
theorem row_empty (W : World) (B : Nat) (hB : B ≤ W.heap.size) : (W.alloc (.cells #[] 5)).ownsRow B 5 1 (.slice (some ⟨W.heap.size, 0, none⟩) 0 0) 0 [] :=
  World.ownsRow_made W #[] 0 hB (by simp [maxLen]) (by simp)
theorem row_lower {w : World} {base base' : Nat} {e : TypeId} {size n : Nat} {v : Value} {xs : List Value} (h : w.ownsRow base e size v n xs) (hb : base' ≤ base) : w.ownsRow base' e size v n xs := by
  refine ⟨h.1, ?_⟩
  rcases h.2 with h0 | ⟨g, cap, cur, rfl, hb', hh, h3⟩
  · exact .inl h0
  · exact .inr ⟨g, cap, cur, rfl, by omega, hh, h3⟩
/-- What was made since a world, and not touched below: kept. -/
theorem row_below {w w1 : World} {base : Nat} {e : TypeId} {size n : Nat} {v : Value} {xs : List Value} (h : w.ownsRow base e size v n xs) (hb : Below w.heap.size w w1) : w1.ownsRow base e size v n xs :=
  row_kept h fun k hk => hb.block k (h.lt k hk).2

/-! ### Slices that are read -/
def bv (bs : List UInt8) : List Value := bs.map fun b => .int .u8 b.toNat
theorem bv_length (bs : List UInt8) : (bv bs).length = bs.length := by simp [bv]
theorem bv_append (a b : List UInt8) : bv (a ++ b) = bv a ++ bv b := by simp [bv]
theorem bv_get {bs : List UInt8} {j : Nat} (h : j < bs.length) : (bv bs)[j]? = some (.int .u8 (bs[j]).toNat) := by simp [bv, h]
theorem bv_one (bs : List UInt8) : ∀ u ∈ bv bs, u.oneCell' = true := by intro u hu; simp [bv] at hu; obtain ⟨b, _, rfl⟩ := hu; rfl
/-- The value v is a slice of n elements (each of 'size' cells) whose cells read cs; its block is ok. -/
def Sl (w : World) (ok : Nat → Prop) (size : Nat) (v : Value) (n : Nat) (cs : List Value) : Prop :=
  cs.length = n * size ∧ n ≤ 140737488355328 ∧ ∃ A c, v = .slice A n c ∧ n ≤ c ∧ (A = none → c = 0) ∧
    (0 < n → ∃ b o, A = some ⟨b, o, none⟩ ∧ ok b ∧ ∀ j u, cs[j]? = some u → w.cell? ⟨b, o + j, none⟩ = some u)
theorem add_pl (b o j : Nat) : (⟨b, o, none⟩ : Addr).add j = ⟨b, o + j, none⟩ := by unfold Addr.add; split <;> simp_all
theorem Sl.imp {w : World} {ok ok' : Nat → Prop} {size n : Nat} {v : Value} {cs : List Value} (h : Sl w ok size v n cs) (hi : ∀ b, ok b → ok' b) : Sl w ok' size v n cs := by
  obtain ⟨h1, h2, A, c, rfl, h3, h4, h5⟩ := h
  refine ⟨h1, h2, A, c, rfl, h3, h4, fun hn => ?_⟩
  obtain ⟨b, o, e, hb, hc⟩ := h5 hn
  exact ⟨b, o, e, hi b hb, hc⟩
theorem Sl.move {w w1 : World} {ok : Nat → Prop} {size n : Nat} {v : Value} {cs : List Value} (h : Sl w ok size v n cs) (hm : ∀ b, ok b → b < w.heap.size → w1.heap[b]? = w.heap[b]?) : Sl w1 ok size v n cs := by
  obtain ⟨h1, h2, A, c, rfl, h3, h4, h5⟩ := h
  refine ⟨h1, h2, A, c, rfl, h3, h4, fun hn => ?_⟩
  obtain ⟨b, o, e, hb, hc⟩ := h5 hn
  refine ⟨b, o, e, hb, fun j u hu => ?_⟩
  have := hc j u hu
  rw [World.cell?_of_block (w := w) (w' := w1) (a := ⟨b, o + j, none⟩) (hm b hb (World.block_lt_of_cell? w _ this))]
  exact this
theorem Sl.below {w w1 : World} {ok : Nat → Prop} {size n : Nat} {v : Value} {cs : List Value} (h : Sl w ok size v n cs) (hb : Below w.heap.size w w1) : Sl w1 ok size v n cs :=
  h.move fun b _ hlt => hb.block b hlt
/-- The blocks are those that the world has (where anything is read). -/
theorem Sl.bound {w : World} {ok : Nat → Prop} {size n : Nat} {v : Value} {cs : List Value} (h : Sl w ok size v n cs) (hs : 0 < size) : Sl w (fun b => ok b ∧ b < w.heap.size) size v n cs := by
  obtain ⟨h1, h2, A, c, rfl, h3, h4, h5⟩ := h
  refine ⟨h1, h2, A, c, rfl, h3, h4, fun hn => ?_⟩
  obtain ⟨b, o, e, hb, hc⟩ := h5 hn
  have hpos : 0 < cs.length := by rw [h1]; exact Nat.mul_pos hn hs
  exact ⟨b, o, e, ⟨hb, World.block_lt_of_cell? w _ (hc 0 _ (List.getElem?_eq_getElem hpos))⟩, hc⟩
theorem Sl.nil (w : World) (ok : Nat → Prop) (size : Nat) : Sl w ok size (.slice none 0 0) 0 [] := ⟨by simp, by omega, none, 0, rfl, by omega, fun _ => rfl, fun h => by omega⟩
theorem Sl.of_row {w : World} {base : Nat} {e : TypeId} {size n : Nat} {v : Value} {xs : List Value} (h : w.ownsRow base e size v n xs) (hn : n ≤ 140737488355328) : Sl w (fun b => base ≤ b) size v n xs := by
  refine ⟨h.1, hn, ?_⟩
  rcases h.2 with ⟨rfl, rfl⟩ | ⟨g, cap, cur, rfl, hb, hh, h1, h2, h3, h4⟩
  · exact ⟨none, 0, rfl, by omega, fun _ => rfl, fun h => by omega⟩
  · refine ⟨_, cap, rfl, h1, (fun h => by cases h), fun _ => ⟨g, 0, rfl, hb, fun j u hu => ?_⟩⟩
    have := h.cells (g := g) rfl j u hu
    rwa [add_pl] at this
theorem Sl.len {w : World} {ok : Nat → Prop} {size n : Nat} {v : Value} {cs : List Value} (h : Sl w ok size v n cs) : cs.length = n * size := h.1
theorem Sl.of_row_bv {w : World} {base : Nat} {e : TypeId} {n : Nat} {v : Value} {bs : List UInt8} (h : w.ownsRow base e 1 v n (bv bs)) (hn : n ≤ 140737488355328) : Sl w (fun b => base ≤ b) 1 v bs.length (bv bs) := by
  have : bs.length = n := by have := h.1; simpa [bv] using this
  rw [this]; exact Sl.of_row h hn

/-! ### append of what is read to a row of one's own -/
section
variable {P : Program} {ops : Array Oper} {rest : List Oper} {o : Oper} {a : Act} {Q : Exit → Act → World → Prop} {K : Act → World → Prop}
theorem run_app {W : World} (base : Nat) (t ty e : TypeId) (z : Value) (size bytes : Nat)
    (ht : P.underlying t = some (.slice e)) (hinfo : (P.info? e).map (fun i => (i.zero, i.size, i.bytes)) = some (some z, size, bytes)) (hz : z.cells.size = size) (hs0 : 0 < size) (hb0 : 0 < bytes)
    (v : Value) (n : Nat) (xs : List Value) (HO : W.ownsRow base e size v n xs) (ok : Nat → Prop) (y : Value) (m : Nat) (ys : List Value) (HY : Sl W ok size y m ys) (h1 : ∀ u ∈ ys, u.oneCell' = true)
    (hbase : base ≤ W.heap.size) (hl : (n + m) * bytes ≤ 140737488355328) :
    ∃ v1 w1, (Builtin.append_ #[t, t] ty #[v, y]).run P W = .ok v1 w1 ∧ w1.ownsRow base e size v1 (n + m) (xs ++ ys) ∧ W.grownBy w1 v.ownBlock ∧ (v1.ownBlock = v.ownBlock ∨ v1.ownBlock = some W.heap.size) := by
  obtain ⟨i0, hi, hzz⟩ := Option.map_eq_some_iff.1 hinfo
  simp only [Prod.mk.injEq] at hzz
  obtain ⟨hz0, hz1, hz2⟩ := hzz
  have hlen : n + m ≤ 140737488355328 := Nat.le_trans (Nat.le_mul_of_pos_right _ hb0) hl
  obtain ⟨y1, y2, A, c, rfl, y3, y4, y5⟩ := HY
  cases A with
  | none =>
    obtain rfl : c = 0 := y4 rfl
    obtain rfl : m = 0 := by omega
    obtain rfl : ys = [] := List.eq_nil_of_length_eq_zero (by simpa using y1)
    refine ⟨v, W, run_append_owned_none (P := P) (w := W) base t ty e i0 size ht hi v n xs HO, by simpa using HO, ⟨rfl, rfl, rfl, Nat.le_refl _, fun _ _ _ => rfl⟩, .inl rfl⟩
  | some ad =>
    have hnews : ∀ j u, ys[j]? = some u → W.cell? (ad.add j) = some u := by
      intro j u hu
      rcases Nat.eq_zero_or_pos m with h0 | h0
      · subst h0
        have : ys = [] := List.eq_nil_of_length_eq_zero (by simpa using y1)
        rw [this] at hu; simp at hu
      · obtain ⟨b, o, e, _, hc⟩ := y5 h0
        injection e with e
        subst e
        rw [add_pl]; exact hc j u hu
    obtain ⟨v1, w1, hr, hown, hg, _, hat⟩ := run_append_own_at (P := P) W base t ty e i0 z size bytes ht hi hz0 hz1 hz2 hz hs0 v n xs HO ad m c ys y1 hnews h1 (by simp only [maxLen]; omega) hl hbase
    exact ⟨v1, w1, hr, hown, hg, hat⟩
theorem wp_app {W : World} (base : Nat) (s x : Operand) (t e : TypeId) (z : Value) (size bytes : Nat)
    (ho : o.op = .call { callee := .builtin .append, args := #[s, x], argTypes := #[t, t] })
    (ht : P.underlying t = some (.slice e)) (hinfo : (P.info? e).map (fun i => (i.zero, i.size, i.bytes)) = some (some z, size, bytes)) (hz : z.cells.size = size) (hs0 : 0 < size) (hb0 : 0 < bytes)
    (v : Value) (hs : a.eval s = v) (y : Value) (hx : a.eval x = y) (n : Nat) (xs : List Value) (HO : W.ownsRow base e size v n xs) (ok : Nat → Prop) (m : Nat) (ys : List Value) (HY : Sl W ok size y m ys) (h1 : ∀ u ∈ ys, u.oneCell' = true)
    (hbase : base ≤ W.heap.size) (hl : (n + m) * bytes ≤ 140737488355328)
    (h : ∀ A1 c1 w1, w1.ownsRow base e size (.slice A1 (n + m) c1) (n + m) (xs ++ ys) → W.grownBy w1 v.ownBlock → ((Value.slice A1 (n + m) c1).ownBlock = v.ownBlock ∨ (Value.slice A1 (n + m) c1).ownBlock = some W.heap.size) → K (a.put o.dst (.slice A1 (n + m) c1)) w1) : o.wp P a W K Q := by
  obtain ⟨v1, w1, hr, hown, hg, hat⟩ := run_app (P := P) base t o.type e z size bytes ht hinfo hz hs0 hb0 v n xs HO ok y m ys HY h1 hbase hl
  obtain ⟨A1, c1, rfl⟩ := row_shape hown
  unfold Oper.wp execOp
  simp only [ho, resolve, invoke, builtin, Sem.run_bind, Sem.run_pure, Result.andThen_ok, List.map_toArray, List.map_cons, List.map_nil, hs, hx, hr]
  exact h A1 c1 w1 hown hg hat
/-- In a plain region. -/
theorem list_app {W : World} (base : Nat) (hgd : o.guard = none) (s x : Operand) (t e : TypeId) (z : Value) (size bytes : Nat)
    (ho : o.op = .call { callee := .builtin .append, args := #[s, x], argTypes := #[t, t] })
    (ht : P.underlying t = some (.slice e)) (hinfo : (P.info? e).map (fun i => (i.zero, i.size, i.bytes)) = some (some z, size, bytes)) (hz : z.cells.size = size) (hs0 : 0 < size) (hb0 : 0 < bytes)
    (v : Value) (hs : a.eval s = v) (y : Value) (hx : a.eval x = y) (n : Nat) (xs : List Value) (HO : W.ownsRow base e size v n xs) (ok : Nat → Prop) (m : Nat) (ys : List Value) (HY : Sl W ok size y m ys) (h1 : ∀ u ∈ ys, u.oneCell' = true)
    (hbase : base ≤ W.heap.size) (hl : (n + m) * bytes ≤ 140737488355328)
    (h : ∀ A1 c1 w1, w1.ownsRow base e size (.slice A1 (n + m) c1) (n + m) (xs ++ ys) → W.grownBy w1 v.ownBlock → ((Value.slice A1 (n + m) c1).ownBlock = v.ownBlock ∨ (Value.slice A1 (n + m) c1).ownBlock = some W.heap.size) → wpList P ops Q rest (a.put o.dst (.slice A1 (n + m) c1)) w1) : wpList P ops Q (o :: rest) a W :=
  wpList_plain hgd fun K hK => wp_app base s x t e z size bytes ho ht hinfo hz hs0 hb0 v hs y hx n xs HO ok m ys HY h1 hbase hl fun A1 c1 w1 a1 a2 a3 => hK _ _ (h A1 c1 w1 a1 a2 a3)
/-- As a step of a region that draws. -/
theorem step_app {W : World} (base : Nat) (hw : Region.wanted o (yielded ops a.tmps) = true) (s x : Operand) (t e : TypeId) (z : Value) (size bytes : Nat)
    (ho : o.op = .call { callee := .builtin .append, args := #[s, x], argTypes := #[t, t] })
    (ht : P.underlying t = some (.slice e)) (hinfo : (P.info? e).map (fun i => (i.zero, i.size, i.bytes)) = some (some z, size, bytes)) (hz : z.cells.size = size) (hs0 : 0 < size) (hb0 : 0 < bytes)
    (v : Value) (hs : a.eval s = v) (y : Value) (hx : a.eval x = y) (n : Nat) (xs : List Value) (HO : W.ownsRow base e size v n xs) (ok : Nat → Prop) (m : Nat) (ys : List Value) (HY : Sl W ok size y m ys) (h1 : ∀ u ∈ ys, u.oneCell' = true)
    (hbase : base ≤ W.heap.size) (hl : (n + m) * bytes ≤ 140737488355328)
    (h : ∀ A1 c1 w1, w1.ownsRow base e size (.slice A1 (n + m) c1) (n + m) (xs ++ ys) → W.grownBy w1 v.ownBlock → ((Value.slice A1 (n + m) c1).ownBlock = v.ownBlock ∨ (Value.slice A1 (n + m) c1).ownBlock = some W.heap.size) → K (a.put o.dst (.slice A1 (n + m) c1)) w1) :
    if Region.wanted o (yielded ops a.tmps) = true then Oper.wp P o a W K Q else K (a.put o.dst undef) W := by
  rw [if_pos hw]
  exact wp_app base s x t e z size bytes ho ht hinfo hz hs0 hb0 v hs y hx n xs HO ok m ys HY h1 hbase hl h
end
section
variable {ops : Array Oper} {rest : List Oper} {o : Oper} {a : Act} {Q : Exit → Act → World → Prop} {K : Act → World → Prop}
/-- append of bytes, in a plain region. -/
theorem list_app_b {W : World} (B : Nat) (hgd : o.guard = none) (s x : Operand)
    (ho : o.op = .call { callee := .builtin .append, args := #[s, x], argTypes := #[51, 51] })
    (v : Value) (hs : a.eval s = v) (y : Value) (hx : a.eval x = y) (xs bs : List UInt8) (HO : W.ownsRow B 5 1 v xs.length (bv xs)) (ok : Nat → Prop) (ys : List Value) (HY : Sl W ok 1 y bs.length ys) (hy : ys = bv bs)
    (hbase : B ≤ W.heap.size) (hl : xs.length + bs.length ≤ 140737488355328) (zs : List UInt8) (hz : xs ++ bs = zs)
    (h : ∀ A1 c1 w1, w1.ownsRow B 5 1 (.slice A1 zs.length c1) zs.length (bv zs) → W.grownBy w1 v.ownBlock → Below B W w1 → wpList Try.prog ops Q rest (a.put o.dst (.slice A1 zs.length c1)) w1) : wpList Try.prog ops Q (o :: rest) a W := by
  subst hy hz
  refine list_app B hgd s x 51 5 (.int .u8 0) 1 1 ho Try.underlying51 Try.info5 rfl (by decide) (by decide) v hs y hx xs.length (bv xs) HO ok bs.length (bv bs) HY (bv_one _) hbase (by omega) fun A1 c1 w1 h1 h2 h3 => ?_
  rw [← List.length_append] at h1 ⊢
  rw [← bv_append] at h1
  exact h A1 c1 w1 h1 h2 ((Below.refl _ _).grown h2 hbase (row_base HO))
/-- append of bytes, xs a step of a region that draws. -/
theorem step_app_b {W : World} (B : Nat) (hw : Region.wanted o (yielded ops a.tmps) = true) (s x : Operand)
    (ho : o.op = .call { callee := .builtin .append, args := #[s, x], argTypes := #[51, 51] })
    (v : Value) (hs : a.eval s = v) (y : Value) (hx : a.eval x = y) (xs bs : List UInt8) (HO : W.ownsRow B 5 1 v xs.length (bv xs)) (ok : Nat → Prop) (ys : List Value) (HY : Sl W ok 1 y bs.length ys) (hy : ys = bv bs)
    (hbase : B ≤ W.heap.size) (hl : xs.length + bs.length ≤ 140737488355328) (zs : List UInt8) (hz : xs ++ bs = zs)
    (h : ∀ A1 c1 w1, w1.ownsRow B 5 1 (.slice A1 zs.length c1) zs.length (bv zs) → W.grownBy w1 v.ownBlock → Below B W w1 → K (a.put o.dst (.slice A1 zs.length c1)) w1) :
    if Region.wanted o (yielded ops a.tmps) = true then Oper.wp Try.prog o a W K Q else K (a.put o.dst undef) W := by
  subst hy hz
  refine step_app B hw s x 51 5 (.int .u8 0) 1 1 ho Try.underlying51 Try.info5 rfl (by decide) (by decide) v hs y hx xs.length (bv xs) HO ok bs.length (bv bs) HY (bv_one _) hbase (by omega) fun A1 c1 w1 h1 h2 h3 => ?_
  rw [← List.length_append] at h1 ⊢
  rw [← bv_append] at h1
  exact h A1 c1 w1 h1 h2 ((Below.refl _ _).grown h2 hbase (row_base HO))
/-- One new element that lies in a block of its own. -/
theorem sl_box {W : World} (g : Nat) {cs : List Value} {e : TypeId} {f : Nat × Nat} (size n : Nat) (h : W.heap[g]? = some (.cells cs.toArray e f)) (hl : cs.length = n * size) (hn : n ≤ 140737488355328) : Sl W (fun b => b = g) size (.slice (some ⟨g, 0, none⟩) n n) n cs :=
  ⟨hl, hn, _, n, rfl, Nat.le_refl _, (fun h => by cases h), fun _ => ⟨g, 0, rfl, rfl, fun j u hu => by rw [bk_cell h]; simpa using hu⟩⟩
end

/-! ### Parts of a slice that is read -/
theorem sl_take {w : World} {ok : Nat → Prop} {size n : Nat} {A : Option Addr} {c : Nat} {cs : List Value} (h : Sl w ok size (.slice A n c) n cs) (k : Nat) (hk : k ≤ n) : Sl w ok size (.slice A k c) k (cs.take (k * size)) := by
  obtain ⟨h1, h2, A', c', e, h3, h4, h5⟩ := h
  injection e with e1 e2 e3
  subst e1 e3
  refine ⟨?_, by omega, A, c, rfl, by omega, h4, fun hn => ?_⟩
  · rw [List.length_take, h1]
    exact Nat.min_eq_left (Nat.mul_le_mul_right _ hk)
  · obtain ⟨b, o, e, hb, hc⟩ := h5 (by omega)
    refine ⟨b, o, e, hb, fun j u hu => hc j u ?_⟩
    rw [List.getElem?_take] at hu
    split at hu
    · exact hu
    · cases hu
theorem sl_take_bv {w : World} {ok : Nat → Prop} {A : Option Addr} {c : Nat} {bs : List UInt8} (h : Sl w ok 1 (.slice A bs.length c) bs.length (bv bs)) (k : Nat) (hk : k ≤ bs.length) : Sl w ok 1 (.slice A k c) (bs.take k).length (bv (bs.take k)) := by
  have := sl_take h k hk
  rw [Nat.mul_one] at this
  have e : (bs.take k).length = k := by rw [List.length_take]; omega
  rw [e]
  simpa [bv, List.map_take] using this
/-- Where 'x[k:]' begins. -/
def cutA (A : Option Addr) (c k : Nat) : Option Addr := if c = k then A else A.map (·.add k)
theorem sl_drop_bv {w : World} {ok : Nat → Prop} {A : Option Addr} {c : Nat} {bs : List UInt8} (h : Sl w ok 1 (.slice A bs.length c) bs.length (bv bs)) (k : Nat) (hk : k ≤ bs.length) : Sl w ok 1 (.slice (cutA A c k) (bs.length - k) (c - k)) (bs.drop k).length (bv (bs.drop k)) := by
  obtain ⟨h1, h2, A', c', e, h3, h4, h5⟩ := h
  injection e with e1 e2 e3
  subst e1 e3
  refine ⟨by simp [bv], by simp; omega, cutA A c k, c - k, by simp, by simp; omega, ?_, fun hn => ?_⟩
  · intro hA
    unfold cutA at hA
    split at hA
    · omega
    · rw [Option.map_eq_none_iff] at hA
      have := h4 hA; omega
  · rw [List.length_drop] at hn
    obtain ⟨b, o, e, hb, hc⟩ := h5 (by omega)
    refine ⟨b, o + k, ?_, hb, fun j u hu => ?_⟩
    · unfold cutA
      rw [if_neg (by omega), e]
      simp [add_pl]
    · have := hc (k + j) u (by simpa [bv] using hu)
      rwa [show o + (k + j) = o + k + j by omega] at this
section
variable {P : Program}
theorem run_cut (t e : TypeId) (kl : IntKind) {z : Option Value} {bytes : Nat} (ht : P.underlying t = some (.slice e)) (hinfo : (P.info? e).map (fun i => (i.zero, i.size, i.bytes)) = some (z, 1, bytes)) (A : Option Addr) (n c k : Nat) (hk : k ≤ n) (W : World) :
    (Instr.slice t (.slice A n c) (some (.int kl (k : Int))) none none).run P W = .ok (.slice (cutA A c k) (n - k) (c - k)) W := by
  obtain ⟨i, hi, hzz⟩ := Option.map_eq_some_iff.1 hinfo
  simp only [Prod.mk.injEq] at hzz
  have hel : P.elem t = e := by simp [Program.elem, ht]
  have hu : P.underlying t = some (.slice (P.elem t)) := by rw [hel]; exact ht
  rw [run_slice_l W t A n c hu kl (k : Int) (Int.natCast_nonneg _) (by omega), hel]
  simp [sizeOf, typeInfo, hi, hzz.2.1, sliced, Result.andThen, cutA]
theorem run_cut_to (t e : TypeId) (kl : IntKind) {z : Option Value} {bytes : Nat} (ht : P.underlying t = some (.slice e)) (hinfo : (P.info? e).map (fun i => (i.zero, i.size, i.bytes)) = some (z, 1, bytes)) (A : Option Addr) (n c k : Nat) (hk : k ≤ c) (W : World) :
    (Instr.slice t (.slice A n c) none (some (.int kl (k : Int))) none).run P W = .ok (.slice A k c) W := by
  obtain ⟨i, hi, hzz⟩ := Option.map_eq_some_iff.1 hinfo
  simp only [Prod.mk.injEq] at hzz
  have hel : P.elem t = e := by simp [Program.elem, ht]
  have hu : P.underlying t = some (.slice (P.elem t)) := by rw [hel]; exact ht
  have ha : (A.map fun x => x.add 0) = A := by cases A <;> simp [Addr.add]
  rw [run_slice_h W t A n c hu kl (k : Int) (Int.natCast_nonneg _) (by omega), hel]
  simp [sizeOf, typeInfo, hi, hzz.2.1, sliced, Result.andThen, ha]
theorem run_cut_mid (t e : TypeId) (kl kh : IntKind) {z : Option Value} {bytes : Nat} (ht : P.underlying t = some (.slice e)) (hinfo : (P.info? e).map (fun i => (i.zero, i.size, i.bytes)) = some (z, 1, bytes)) (A : Option Addr) (n c k h : Nat) (hk : k ≤ h) (hh : h ≤ c) (W : World) :
    (Instr.slice t (.slice A n c) (some (.int kl (k : Int))) (some (.int kh (h : Int))) none).run P W = .ok (.slice (cutA A c k) (h - k) (c - k)) W := by
  obtain ⟨i, hi, hzz⟩ := Option.map_eq_some_iff.1 hinfo
  simp only [Prod.mk.injEq] at hzz
  have hel : P.elem t = e := by simp [Program.elem, ht]
  have hu : P.underlying t = some (.slice (P.elem t)) := by rw [hel]; exact ht
  rw [run_slice_lh W t A n c hu kl kh (k : Int) (h : Int) (Int.natCast_nonneg _) (by omega) (by omega), hel]
  simp [sizeOf, typeInfo, hi, hzz.2.1, sliced, Result.andThen, cutA]
end
theorem below_app {B : Nat} {w wr w1 : World} {v : Value} {n : Nat} {e : TypeId} {size : Nat} {xs : List Value} {W : World} (HB : Below B w W) (hB : B ≤ W.heap.size) (hown : W.ownsRow B e size v n xs)
    (hg : W.grownBy w1 v.ownBlock) : Below B w w1 := HB.grown hg hB (row_base hown)
theorem u8_wrap_ofNat (m : Nat) : (IntKind.u8.wrap (m : Int)) = ((UInt8.ofNat (m % 256)).toNat : Int) := by
  simp [IntKind.wrap, IntKind.bits, IntKind.signed]
end Go.Proofs.Ytgnlhjphmaikkaa
