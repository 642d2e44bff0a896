/- Package stable, walked: what a device is in memory; New, Size, known, Flying, Read, Start. Conditions: as each statement says. -/
import Derived.Test.YtgnlhjphmaikkaaN
import Derived.Deep.OwnRows
import Derived.RangeFuncOwn
set_option linter.unusedVariables false
set_option linter.unusedSimpArgs false
namespace Go.Proofs.Ytgnlhjphmaikkaa
open Go.RowKit

/-! ### What is kept, by the blocks' types -/
structure Kept (P : Nat → TypeId → Prop) (w w' : World) : Prop where
  os : w'.os = w.os
  tape : w'.tape = w.tape
  output : w'.output = w.output
  size : w.heap.size ≤ w'.heap.size
  blk : ∀ b cs t f, w.heap[b]? = some (.cells cs t f) → ¬ P b t → w'.heap[b]? = some (.cells cs t f)
  oth : ∀ (b : Nat) (o : Obj), w.heap[b]? = some o → o.isCells = false → w'.heap[b]? = some o
theorem Kept.refl (P : Nat → TypeId → Prop) (w : World) : Kept P w w := ⟨rfl, rfl, rfl, Nat.le_refl _, fun _ _ _ _ h _ => h, fun _ _ h _ => h⟩
theorem Kept.trans {P : Nat → TypeId → Prop} {w w1 w2 : World} (h : Kept P w w1) (k : Kept P w1 w2) : Kept P w w2 :=
  ⟨k.os.trans h.os, k.tape.trans h.tape, k.output.trans h.output, Nat.le_trans h.size k.size, fun b cs t f hb hp => k.blk b cs t f (h.blk b cs t f hb hp) hp, fun b o hb ho => k.oth b o (h.oth b o hb ho) ho⟩
theorem Kept.mono {P Q : Nat → TypeId → Prop} {w w1 : World} (h : Kept P w w1) (hi : ∀ b t, P b t → Q b t) : Kept Q w w1 :=
  ⟨h.os, h.tape, h.output, h.size, fun b cs t f hb hq => h.blk b cs t f hb (fun hp => hq (hi b t hp)), h.oth⟩
theorem Kept.below {P : Nat → TypeId → Prop} {w w1 w2 : World} (h : Kept P w w1) (hb : Below w1.heap.size w1 w2) : Kept P w w2 :=
  h.trans ⟨hb.os, hb.tape, hb.output, hb.size, fun b cs t f h1 _ => (hb.block b (bk_lt h1)).trans h1, fun b o h1 _ => (hb.block b (bk_lt h1)).trans h1⟩
theorem Kept.of {P : Nat → TypeId → Prop} {w w2 : World} (hb : Below w.heap.size w w2) : Kept P w w2 := (Kept.refl P w).below hb
theorem Kept.alloc {P : Nat → TypeId → Prop} {w w1 : World} (h : Kept P w w1) (o : Obj) : Kept P w (w1.alloc o) := h.below ((Below.refl _ _).alloc (Nat.le_refl _) o)
theorem Kept.drew {P : Nat → TypeId → Prop} {w w1 : World} (h : Kept P w w1) : Kept P w w1.drew := h.below (Below.refl _ _).drew
theorem Kept.set {P : Nat → TypeId → Prop} {w w1 : World} (h : Kept P w w1) {k : Nat} {cs : Array Value} {t : TypeId} {f : Nat × Nat} (hk : w1.heap[k]? = some (.cells cs t f)) (hp : P k t) (i : Nat) (u : Value) : Kept P w (w1.setCell ⟨k, i, none⟩ u) :=
  ⟨h.os, h.tape, h.output, by simpa [World.setCell] using h.size, fun b cs' t' f' hb hq => by
    have h1 := h.blk b cs' t' f' hb hq
    refine bk_far h1 (fun e => ?_) u
    simp only at e
    subst e
    rw [hk] at h1
    injection h1 with h1
    injection h1 with _ ht
    exact hq (ht ▸ hp), fun b o hb ho => by
    have h1 := h.oth b o hb ho
    refine bk_far h1 (fun e => ?_) u
    simp only at e
    subst e
    rw [hk] at h1
    injection h1 with h1
    subst h1; cases ho⟩
theorem Kept.row {P : Nat → TypeId → Prop} {w w1 w2 : World} (h : Kept P w w1) {row : Option Nat} (hg : w1.grownBy w2 row) (hp : ∀ k, row = some k → ∃ cs t f, w1.heap[k]? = some (.cells cs t f) ∧ P k t) : Kept P w w2 :=
  h.trans ⟨hg.os, hg.tape, hg.output, hg.size, fun b cs t f hb hq => (hg.block b (bk_lt hb) (fun e => by
    obtain ⟨cs', t', f', h1, h2⟩ := hp b e.symm
    rw [hb] at h1; injection h1 with h1; injection h1 with _ ht; exact hq (ht ▸ h2))).trans hb, fun b o hb ho => (hg.block b (bk_lt hb) (fun e => by
    obtain ⟨cs', t', f', h1, h2⟩ := hp b e.symm
    rw [hb] at h1; injection h1 with h1; subst h1; cases ho)).trans hb⟩
theorem Kept.low {P : Nat → TypeId → Prop} {w w1 : World} {B : Nat} (h : Kept P w w1) (hB : B ≤ w.heap.size) (hP : ∀ b t, P b t → B ≤ b) : Below B w w1 :=
  ⟨h.os, h.tape, h.output, h.size, fun k hk => by
    have e : w.heap[k]? = some (w.heap[k]'(by omega)) := Array.getElem?_eq_getElem (by omega)
    rw [e]
    generalize w.heap[k]'(by omega) = o at e
    cases o with
    | cells cs t f => exact h.blk k cs t f e (fun hp => by have := hP k t hp; omega)
    | _ => exact h.oth k _ e rfl⟩
/-- A block of that type. -/
def Ty (w : World) (t : TypeId) (b : Nat) : Prop := ∃ cs f, w.heap[b]? = some (.cells cs t f)
theorem Sl.kept {P : Nat → TypeId → Prop} {w w1 : World} {t : TypeId} {Q : Nat → Prop} {size n : Nat} {v : Value} {cs : List Value} (h : Sl w (fun b => Ty w t b ∧ Q b) size v n cs) (hk : Kept P w w1) (hq : ∀ b, Q b → ¬ P b t) : Sl w1 (fun b => Ty w1 t b ∧ Q b) size v n cs := by
  obtain ⟨h1, h2, A, c, rfl, h3, h4, h5⟩ := h
  refine ⟨h1, h2, A, c, rfl, h3, h4, fun hn => ?_⟩
  obtain ⟨b, o, e, ⟨⟨cs', f, hb⟩, hQ⟩, hc⟩ := h5 hn
  have hb1 := hk.blk b cs' t f hb (hq b hQ)
  refine ⟨b, o, e, ⟨⟨cs', f, hb1⟩, hQ⟩, fun j u hu => ?_⟩
  have h6 := hc j u hu
  rw [bk_cell hb] at h6
  rw [bk_cell hb1]; exact h6
theorem Sl.typed {w : World} {base : Nat} {e : TypeId} {size n : Nat} {v : Value} {xs : List Value} (h : w.ownsRow base e size v n xs) (hn : n ≤ 140737488355328) : Sl w (fun b => Ty w e b ∧ base ≤ b) size v n xs := by
  refine ⟨h.1, hn, ?_⟩
  rcases h.2 with ⟨rfl, rfl⟩ | ⟨g, cap, cur, rfl, hb, hh, h1, h2, h3, h4⟩
  · exact ⟨none, 0, rfl, by omega, fun _ => rfl, fun h => by omega⟩
  · refine ⟨_, cap, rfl, h1, (fun h => by cases h), fun _ => ⟨g, 0, rfl, ⟨⟨_, _, hh⟩, hb⟩, fun j u hu => ?_⟩⟩
    have := h.cells (g := g) rfl j u hu
    rwa [add_pl] at this
theorem Sl.typed_bv {w : World} {base : Nat} {v : Value} {bs : List UInt8} (h : w.ownsRow base 5 1 v bs.length (bv bs)) (hn : bs.length ≤ 140737488355328) : Sl w (fun b => Ty w 5 b ∧ base ≤ b) 1 v bs.length (bv bs) := Sl.typed h hn

/-! ### A device -/
structure PDev where
  b : List UInt8
  up : List (Option (Nat × List UInt8))
def UpAt (w : World) (db : Nat) (p : Value) : Option (Nat × List UInt8) → Prop
  | none => p = .pointer none
  | some (pl, bs) => ∃ wg v, p = .pointer (some ⟨wg, 0, none⟩) ∧ w.heap[wg]? = some (.cells #[.int .i64 (pl : Int), v] 111) ∧ Sl w (fun b => Ty w 5 b ∧ b ≠ db) 1 v bs.length (bv bs)
def PDev.ok (D : PDev) : Prop := D.up.length = 8 ∧ D.b.length ≤ 65536 ∧ ∀ (h pl : Nat) (bs : List UInt8), D.up[h]? = some (some (pl, bs)) → pl + bs.length ≤ D.b.length ∧ bs.length % 64 = 0
structure DevAt (w : World) (dg db : Nat) (D : PDev) : Prop where
  ok : D.ok
  ex : ∃ ps : List Value, ps.length = 8 ∧ w.heap[dg]? = some (.cells (Value.slice (some ⟨db, 0, none⟩) D.b.length D.b.length :: ps).toArray 84) ∧ w.heap[db]? = some (.cells (bv D.b).toArray 5) ∧
    ∀ (h : Nat) (p : Value) (u : Option (Nat × List UInt8)), ps[h]? = some p → D.up[h]? = some u → UpAt w db p u
/-- What a device keeps while others change. -/
theorem UpAt.kept {P : Nat → TypeId → Prop} {w w1 : World} {db : Nat} {p : Value} {u : Option (Nat × List UInt8)} (h : UpAt w db p u) (hk : Kept P w w1) (h1 : ∀ b, ¬ P b 111) (h2 : ∀ b, b ≠ db → ¬ P b 5) : UpAt w1 db p u := by
  cases u with
  | none => exact h
  | some x =>
    obtain ⟨wg, v, e, hb, hs⟩ := h
    exact ⟨wg, v, e, hk.blk _ _ _ _ hb (h1 _), hs.kept hk (fun b hb => h2 b hb)⟩
theorem DevAt.kept {P : Nat → TypeId → Prop} {w w1 : World} {dg db : Nat} {D : PDev} (h : DevAt w dg db D) (hk : Kept P w w1) (h0 : ¬ P dg 84) (h1 : ∀ b, ¬ P b 111) (h2 : ∀ b, ¬ P b 5) : DevAt w1 dg db D := by
  obtain ⟨ps, a1, a2, a3, a4⟩ := h.ex
  exact ⟨h.ok, ps, a1, hk.blk _ _ _ _ a2 h0, hk.blk _ _ _ _ a3 (h2 _), fun i p u hp hu => (a4 i p u hp hu).kept hk h1 (fun b _ => h2 b)⟩
theorem DevAt.below {w w1 : World} {dg db : Nat} {D : PDev} (h : DevAt w dg db D) (hb : Below w.heap.size w w1) : DevAt w1 dg db D :=
  h.kept (P := fun _ _ => False) (Kept.of hb) (fun h => h) (fun _ h => h) (fun _ h => h)
theorem DevAt.cell {w : World} {dg db : Nat} {D : PDev} (h : DevAt w dg db D) : w.cell? ⟨dg, 0, none⟩ = some (.slice (some ⟨db, 0, none⟩) D.b.length D.b.length) := by
  obtain ⟨ps, _, a2, _⟩ := h.ex
  exact bk_cell a2 0
theorem DevAt.hand {w : World} {dg db : Nat} {D : PDev} (h : DevAt w dg db D) (i : Nat) (hi : i < 8) : ∃ p u, w.cell? ⟨dg, 1 + i, none⟩ = some p ∧ D.up[i]? = some u ∧ UpAt w db p u := by
  obtain ⟨ps, a1, a2, a3, a4⟩ := h.ex
  have hu : i < D.up.length := by have := h.ok.1; omega
  refine ⟨ps[i]'(by omega), D.up[i], ?_, List.getElem?_eq_getElem hu, a4 i _ _ (List.getElem?_eq_getElem (by omega)) (List.getElem?_eq_getElem hu)⟩
  rw [bk_cell a2]
  simp [Nat.add_comm 1 i]
/-! ### Size, known -/
set_option maxHeartbeats 400000 in
theorem Size_nil (w : World) : Calls Try.prog 38 #[.pointer none] w fun e w' => e = .returned (.int .i64 0) ∧ w = w' := by
  go_enter Try.func38, Try.ntmps38
  go_wp2
  go_ret
  exact ⟨rfl, rfl⟩
set_option maxHeartbeats 400000 in
theorem Size_any (dg db : Nat) (D : PDev) (w : World) (H : DevAt w dg db D) : Calls Try.prog 38 #[.pointer (some ⟨dg, 0, none⟩)] w fun e w' => e = .returned (.int .i64 (D.b.length : Nat)) ∧ w = w' := by
  have hc := H.cell
  clear H
  go_enter Try.func38, Try.ntmps38
  go_wp2
  go_ret
  exact ⟨rfl, rfl⟩
set_option maxHeartbeats 400000 in
theorem known_nil (i : Int) (w : World) : Calls Try.prog 51 #[.pointer none, .int .i64 i] w fun e w' => e = .returned (.bool false) ∧ w = w' := by
  go_enter Try.func51, Try.ntmps51
  go_wp2
  all_goals
    go_ret
    exact ⟨rfl, rfl⟩
set_option maxHeartbeats 400000 in
theorem known_any (dg : Nat) (i : Int) (w : World) : Calls Try.prog 51 #[.pointer (some ⟨dg, 0, none⟩), .int .i64 i] w fun e w' => e = .returned (.bool (decide (0 ≤ i ∧ i < 8))) ∧ w = w' := by
  by_cases h0 : 0 ≤ i
  · have h0' : ¬ i < 0 := by omega
    by_cases h8 : i < 8
    · have e : decide (0 ≤ i ∧ i < 8) = true := decide_eq_true ⟨h0, h8⟩
      rw [e]
      go_enter Try.func51, Try.ntmps51
      go_wp2
      all_goals
        go_ret
        exact ⟨rfl, rfl⟩
    · have e : decide (0 ≤ i ∧ i < 8) = false := decide_eq_false (by omega)
      rw [e]
      go_enter Try.func51, Try.ntmps51
      go_wp2
      all_goals
        go_ret
        exact ⟨rfl, rfl⟩
  · have e : decide (0 ≤ i ∧ i < 8) = false := decide_eq_false (by omega)
    rw [e]
    go_enter Try.func51, Try.ntmps51
    go_wp2
    all_goals
      go_ret
      exact ⟨rfl, rfl⟩

/-! ### New -/
set_option maxRecDepth 100000 in
set_option maxHeartbeats 400000 in
theorem New_bad8 (i : Int) (w : World) (hb : i < 0 ∨ 65536 < i ∨ i % 64 ≠ 0) : Calls Try.prog 8 #[.int .i64 i] w fun e w' => e = .returned (.tuple #[.pointer none, .int .i64 1]) ∧ w = w' := by
  by_cases h0 : i < 0
  · go_enter Try.func8, Try.ntmps8
    go_wp2
    go_ret2
    exact ⟨rfl, rfl⟩
  · by_cases h1 : 65536 < i
    · go_enter Try.func8, Try.ntmps8
      go_wp2
      go_ret2
      exact ⟨rfl, rfl⟩
    · have h2 : i % 64 ≠ 0 := (hb.resolve_left h0).resolve_left h1
      have h3 : (i % 64 != 0) = true := by simp [h2]
      have h4 : ¬ 65536 < i := h1
      clear hb
      go_enter Try.func8, Try.ntmps8
      go_wp2
      go_ret2
      exact ⟨rfl, rfl⟩
set_option maxRecDepth 100000 in
set_option maxHeartbeats 400000 in
theorem New8 (n : Nat) (w : World) (h1 : n ≤ 65536) (h2 : n % 64 = 0) : Calls Try.prog 8 #[.int .i64 (n : Nat)] w fun e w' => ∃ dg db, e = .returned (.tuple #[.pointer (some ⟨dg, 0, none⟩), .int .i64 0]) ∧ DevAt w' dg db ⟨List.replicate n 0, List.replicate 8 none⟩ ∧
    w.heap.size ≤ dg ∧ w.heap.size ≤ db ∧ Below w.heap.size w w' := by
  have hmk := fun W : World => run_make_row' (P := Try.prog) 51 5 (.int .u8 0) 1 Try.underlying51 Try.info5 rfl .i64 .i64 n (by omega) (by omega) W
  have h3 : ((n : Int) % 64 != 0) = false := by simp; omega
  go_enter Try.func8, Try.ntmps8
  go_wp2
  go_ret2
  have hm : madeCells #[Value.int .u8 0] n = (bv (List.replicate n 0)).toArray := by
    apply Array.ext'; rw [toList_madeCells_one]; simp [bv]
  have h4 := bk_new (w.alloc (.cells (madeCells #[Value.int .u8 0] n) 5)) (.cells #[Value.slice (some { block := w.heap.size, off := 0 }) n n, Value.pointer none, Value.pointer none,
              Value.pointer none, Value.pointer none, Value.pointer none, Value.pointer none, Value.pointer none,
              Value.pointer none] 84)
  have h5 := bk_alloc (bk_new w (.cells (madeCells #[Value.int .u8 0] n) 5)) (.cells #[Value.slice (some { block := w.heap.size, off := 0 }) n n, Value.pointer none, Value.pointer none,
              Value.pointer none, Value.pointer none, Value.pointer none, Value.pointer none, Value.pointer none,
              Value.pointer none] 84)
  rw [World.size_alloc] at h4
  rw [hm] at h4 h5 ⊢
  refine ⟨w.heap.size + 1, w.heap.size, rfl, ⟨⟨by simp, by simpa using h1, ?_⟩, List.replicate 8 (.pointer none), by simp, ?_, ?_, ?_⟩, by omega, by omega, ((Below.refl _ _).alloc (Nat.le_refl _) _).alloc (by simp) _⟩
  · intro h pl bs hh
    rw [List.getElem?_replicate] at hh
    split at hh <;> simp at hh
  · simpa using h4
  · simpa using h5
  · intro h p u hp hu
    rw [List.getElem?_replicate] at hp hu
    split at hp
    · rename_i hlt
      rw [if_pos hlt] at hu
      injection hp with hp; injection hu with hu
      subst hp hu
      rfl
    · cases hp

/-! ### Flying -/
def handUp (D : PDev) (i : Int) : Option (Nat × List UInt8) := if 0 ≤ i ∧ i < 8 then (D.up[i.toNat]?).join else none
set_option maxRecDepth 100000 in
set_option maxHeartbeats 1600000 in
theorem Flying_any (dg db : Nat) (D : PDev) (i : Int) (w : World) (H : DevAt w dg db D) :
    Calls Try.prog 39 #[.pointer (some ⟨dg, 0, none⟩), .int .i64 i] w fun e w' => Below w.heap.size w w' ∧ (match handUp D i with
      | none => e = .returned (.tuple #[.int .i64 0, .int .i64 0, .bool false])
      | some (pl, bs) => e = .returned (.tuple #[.int .i64 (pl : Nat), .int .i64 (bs.length : Nat), .bool true])) := by
  have hk := known_any dg i w
  by_cases hi : 0 ≤ i ∧ i < 8
  · have e1 : decide (0 ≤ i ∧ i < 8) = true := decide_eq_true hi
    rw [e1] at hk
    obtain ⟨h0, h8⟩ := hi
    obtain ⟨k, rfl⟩ := Int.eq_ofNat_of_zero_le h0
    obtain ⟨p, u, hc, hu, hup⟩ := H.hand k (by omega)
    have hh : handUp D (k : Int) = u := by unfold handUp; rw [if_pos ⟨h0, h8⟩, Int.toNat_natCast, hu]; rfl
    rw [hh]
    cases u with
    | none =>
      obtain rfl : p = .pointer none := hup
      clear H hu hh e1
      go_enter Try.func39, Try.ntmps39
      go_wp2_with (go_at_call 51; refine hk.mono ?_; rintro e w1 ⟨rfl, rfl⟩)
      go_ret3
      exact ⟨Below.refl _ _, rfl⟩
    | some x =>
      obtain ⟨pl, bs⟩ := x
      obtain ⟨wg, v, rfl, hb, hs⟩ := hup
      obtain ⟨A, c, rfl⟩ : ∃ A c, v = .slice A bs.length c := by obtain ⟨_, _, A, c, e, _⟩ := hs; exact ⟨A, c, e⟩
      have c0 : w.cell? ⟨wg, 0, none⟩ = some (.int .i64 (pl : Int)) := bk_cell hb 0
      have c1 : w.cell? ⟨wg, 1, none⟩ = some (.slice A bs.length c) := bk_cell hb 1
      clear H hu hh e1 hb hs
      go_enter Try.func39, Try.ntmps39
      go_wp2_with (go_at_call 51; refine hk.mono ?_; rintro e w1 ⟨rfl, rfl⟩)
      go_quiet (fail)
      go_wp2
      go_ret3
      exact ⟨below_drewN (Below.refl _ _) _, rfl⟩
  · have e1 : decide (0 ≤ i ∧ i < 8) = false := decide_eq_false hi
    rw [e1] at hk
    have hh : handUp D i = none := by unfold handUp; rw [if_neg hi]
    rw [hh]
    clear H hi e1 hh
    go_enter Try.func39, Try.ntmps39
    go_wp2_with (go_at_call 51; refine hk.mono ?_; rintro e w1 ⟨rfl, rfl⟩)
    go_ret3
    exact ⟨Below.refl _ _, rfl⟩

/-! ### Read -/
theorem DevAt.data {w : World} {dg db : Nat} {D : PDev} (h : DevAt w dg db D) : Sl w (fun b => b = db) 1 (.slice (some ⟨db, 0, none⟩) D.b.length D.b.length) D.b.length (bv D.b) := by
  obtain ⟨ps, _, _, a3, _⟩ := h.ex
  exact sl_box db 1 _ a3 (by simp [bv]) (by have := h.ok.2.1; omega)
set_option maxRecDepth 100000 in
set_option maxHeartbeats 800000 in
theorem DRead_nil (i n : Int) (w : World) : Calls Try.prog 24 #[.pointer none, .int .i64 i, .int .i64 n] w fun e w' => e = .returned (.tuple #[.slice none 0 0, .int .i64 1]) ∧ w = w' := by
  go_enter Try.func24, Try.ntmps24
  go_wp2
  go_ret2
  exact ⟨rfl, rfl⟩
set_option maxRecDepth 100000 in
set_option maxHeartbeats 1600000 in
theorem DRead_any (dg db : Nat) (D : PDev) (k n : Nat) (w : World) (H : DevAt w dg db D) (hk : k + n ≤ D.b.length) :
    Calls Try.prog 24 #[.pointer (some ⟨dg, 0, none⟩), .int .i64 (k : Nat), .int .i64 (n : Nat)] w fun e w' => ∃ v', e = .returned (.tuple #[v', .int .i64 0]) ∧ w'.ownsRow w.heap.size 5 1 v' ((D.b.drop k).take n).length (bv ((D.b.drop k).take n)) ∧ Below w.heap.size w w' := by
  have hc := H.cell
  have hlen := H.ok.2.1
  have HD := H.data
  have e1 : ((D.b.drop k).take n).length = n := by simp; omega
  have hw : IntKind.i64.wrap ((k : Int) + (n : Int)) = (k : Int) + (n : Int) := IntWalk.i64_in _ (by omega)
  have hw2 : IntKind.i64.wrap ((D.b.length : Int) - (k : Int)) = (D.b.length : Int) - (k : Int) := IntWalk.i64_in _ (by omega)
  have hcut := fun W : World => run_cut_mid (P := Try.prog) 51 5 .i64 .i64 Try.underlying51 Try.info5 (some ⟨db, 0, none⟩) D.b.length D.b.length k (k + n) (by omega) (by omega) W
  rw [show ((k + n : Nat) : Int) = (k : Int) + (n : Int) by omega, show k + n - k = n by omega] at hcut
  have hcA : ∀ ob : Obj, (w.alloc ob).cell? ⟨dg, 0, none⟩ = some (.slice (some ⟨db, 0, none⟩) D.b.length D.b.length) := fun ob => by rw [World.cell?_alloc_past _ _ _ (World.block_lt_of_cell? w _ hc)]; exact hc
  have hS0 := sl_drop_bv HD k (by omega)
  rw [← List.length_drop] at hS0
  have hS := sl_take_bv hS0 n (by rw [List.length_drop]; omega)
  rw [List.length_drop] at hS
  have HS := Sec.mk (hS.below ((Below.refl _ _).alloc (Nat.le_refl _) (.cells #[] 5)))
  have n1 : ¬ (k : Int) < 0 := by omega
  have n2 : ¬ (n : Int) < 0 := by omega
  have n3 : ¬ (D.b.length : Int) < (k : Int) := by omega
  have n4 : ¬ (D.b.length : Int) - (k : Int) < (n : Int) := by omega
  clear H HD hS hS0
  generalize hpart : (D.b.drop k).take n = part at *
  generalize D.b.length = dl at *
  clear hpart
  have E1 := Sec.mk e1
  clear e1
  go_enter Try.func24, Try.ntmps24
  go_wp2_with (refine list_app_b w.heap.size rfl (.tmp 36) (.tmp 45) rfl (.slice (some ⟨w.heap.size, 0, none⟩) 0 0) rfl (.slice (cutA (some ⟨db, 0, none⟩) dl k) n (dl - k)) rfl [] part (row_empty _ _ (Nat.le_refl _)) _ (bv part) HS.out rfl (by simp) (by have := E1.out; simp; omega) part (by simp) ?_; intro A1 c1 w1 h1 h2 h3)
  go_ret2
  exact ⟨_, rfl, h1, ((Below.refl _ _).alloc (Nat.le_refl _) _).trans h3⟩
set_option maxRecDepth 100000 in
set_option maxHeartbeats 1600000 in
theorem DRead_bad (dg db : Nat) (D : PDev) (k n : Int) (w : World) (H : DevAt w dg db D) (hk : k < 0 ∨ n < 0 ∨ (D.b.length : Int) < k ∨ (D.b.length : Int) - k < n) :
    Calls Try.prog 24 #[.pointer (some ⟨dg, 0, none⟩), .int .i64 k, .int .i64 n] w fun e w' => e = .returned (.tuple #[.slice none 0 0, .int .i64 2]) ∧ w = w' := by
  have hc := H.cell
  have hlen := H.ok.2.1
  clear H
  generalize D.b.length = dl at *
  by_cases n1 : k < 0
  · clear hk
    go_enter Try.func24, Try.ntmps24
    go_wp2
    go_ret2
    exact ⟨rfl, rfl⟩
  · by_cases n2 : n < 0
    · clear hk
      go_enter Try.func24, Try.ntmps24
      go_wp2
      go_ret2
      exact ⟨rfl, rfl⟩
    · by_cases n3 : (dl : Int) < k
      · clear hk
        go_enter Try.func24, Try.ntmps24
        go_wp2
        go_ret2
        exact ⟨rfl, rfl⟩
      · have n4 : (dl : Int) - k < n := by omega
        have hw2 : IntKind.i64.wrap ((dl : Int) - k) = (dl : Int) - k := IntWalk.i64_in _ (by omega)
        clear hk
        go_enter Try.func24, Try.ntmps24
        go_wp2
        go_ret2
        exact ⟨rfl, rfl⟩
end Go.Proofs.Ytgnlhjphmaikkaa
