/- Package stable, walked: end, Finish, Crash. Conditions: as each statement says. -/
import Derived.Test.YtgnlhjphmaikkaaS
set_option linter.unusedVariables false
set_option linter.unusedSimpArgs false
namespace Go.Proofs.Ytgnlhjphmaikkaa
open Go.RowKit Go.Shelf
attribute [local go_sem] Oper.semAt_some

/-- Some bytes laid over others. -/
def over (b : List UInt8) (p : Nat) (x : List UInt8) : List UInt8 := b.take p ++ x ++ b.drop (p + x.length)
theorem over_length (b x : List UInt8) (p : Nat) (h : p + x.length ≤ b.length) : (over b p x).length = b.length := by
  simp [over]; omega
def seg (bs : List UInt8) (i : Nat) : List UInt8 := (bs.drop (64 * i)).take 64
def laid {q : Nat} (b bs : List UInt8) (pl : Nat) (l : List (Fin q)) : List UInt8 := l.foldl (fun b x => over b (pl + 64 * x.1) (seg bs x.1)) b
theorem seg_length (bs : List UInt8) (q i : Nat) (hl : bs.length = 64 * q) (hi : i < q) : (seg bs i).length = 64 := by
  simp [seg]; omega
theorem laid_length {q : Nat} (bs : List UInt8) (pl : Nat) (hl : bs.length = 64 * q) : ∀ (l : List (Fin q)) (b : List UInt8), pl + bs.length ≤ b.length → (laid b bs pl l).length = b.length
  | [], b, _ => rfl
  | x :: l, b, h => by
    have e : (over b (pl + 64 * x.1) (seg bs x.1)).length = b.length := over_length _ _ _ (by rw [seg_length bs q x.1 hl x.2]; have := x.2; omega)
    have := laid_length bs pl hl l (over b (pl + 64 * x.1) (seg bs x.1)) (by rw [e]; exact h)
    simp only [laid, List.foldl_cons] at this ⊢
    rw [this, e]
theorem laid_snoc {q : Nat} (b bs : List UInt8) (pl : Nat) (l : List (Fin q)) (x : Fin q) : laid b bs pl (l ++ [x]) = over (laid b bs pl l) (pl + 64 * x.1) (seg bs x.1) := by
  simp [laid]
theorem over_over (b x y : List UInt8) (p : Nat) (h : p + x.length + y.length ≤ b.length) : over (over b p x) (p + x.length) y = over b p (x ++ y) := by
  unfold over
  have h1 : (b.take p).length = p := by rw [List.length_take]; omega
  have h2 : (b.take p ++ x).length = p + x.length := by simp [h1]
  rw [List.take_append_of_le_length (by rw [h2]; omega), List.take_of_length_le (by rw [h2]; omega)]
  rw [show p + x.length + y.length = (b.take p ++ x).length + y.length by rw [h2], List.drop_append]
  rw [List.drop_of_length_le (by omega), List.nil_append]
  rw [show (b.take p ++ x).length + y.length - (b.take p ++ x).length = y.length by omega, List.drop_drop]
  simp [Nat.add_assoc]
theorem laid_take {q : Nat} (b bs : List UInt8) (pl : Nat) (hl : bs.length = 64 * q) (hb : pl + bs.length ≤ b.length) : ∀ j, j ≤ q → laid b bs pl ((List.finRange q).take j) = over b pl (bs.take (64 * j))
  | 0, _ => by simp [laid, over]
  | j + 1, hj => by
    rw [List.take_add_one]
    have e : (List.finRange q)[j]? = some ⟨j, by omega⟩ := by simp [show j < q by omega]
    rw [e]
    simp only [Option.toList]
    rw [laid_snoc, laid_take b bs pl hl hb j (by omega)]
    have e2 : (bs.take (64 * j)).length = 64 * j := by rw [List.length_take]; omega
    have e3 := over_over b (bs.take (64 * j)) (seg bs j) pl (by rw [e2, seg_length bs q j hl (by omega)]; omega)
    rw [e2] at e3
    rw [e3]
    congr 1
    rw [show 64 * (j + 1) = 64 * j + 64 by omega, List.take_add]
    rfl

/-- How many sectors an end lays. -/
def cnt (q : Nat) (m : Int) : Nat := if m < 0 then q else min m.toNat q
def PDev.fin (D : PDev) (k pl : Nat) (bs : List UInt8) (m : Int) : PDev := ⟨over D.b pl (bs.take (64 * cnt (bs.length / 64) m)), D.up.set k none⟩
def Pend (dg db : Nat) : Nat → TypeId → Prop := fun b t => (b = dg ∧ t = 84) ∨ (b = db ∧ t = 5)
set_option maxRecDepth 100000 in
set_option maxHeartbeats 1600000 in
theorem end_bad (dg : Nat) (i m : Int) (w : World) (h : ¬ (0 ≤ i ∧ i < 8)) : Calls Try.prog 47 #[.pointer (some ⟨dg, 0, none⟩), .int .i64 i, .int .i64 m] w fun e w' => e = .returned (.int .i64 1) ∧ Below w.heap.size w w' := by
  have hk := fun W => known_any dg i W
  rw [decide_eq_false h] at hk
  clear h
  go_enter Try.func47, Try.ntmps47
  go_wp2_with (go_at_call 51; refine (hk _).mono ?_; rintro e w1 ⟨rfl, rfl⟩)
  go_ret
  exact ⟨rfl, ((Below.refl _ _).alloc (Nat.le_refl _) _).alloc (by simp) _⟩
set_option maxRecDepth 100000 in
set_option maxHeartbeats 1600000 in
theorem end_none (dg db : Nat) (D : PDev) (k : Nat) (m : Int) (w : World) (H : DevAt w dg db D) (hk : k < 8) (hu : D.up[k]? = some none) : Calls Try.prog 47 #[.pointer (some ⟨dg, 0, none⟩), .int .i64 (k : Nat), .int .i64 m] w fun e w' => e = .returned (.int .i64 8) ∧ Below w.heap.size w w' := by
  have hkn := fun W => known_any dg (k : Int) W
  rw [decide_eq_true (show (0 : Int) ≤ k ∧ (k : Int) < 8 by omega)] at hkn
  have k8 : (k : Int) < 8 := by omega
  obtain ⟨ps, b1, b2, b3, b4⟩ := H.ex
  obtain ⟨p, u, hch, hu2, hup⟩ := H.hand k hk
  rw [hu] at hu2
  injection hu2 with hu2
  subst hu2
  obtain rfl : p = .pointer none := hup
  have hc : ∀ o1 o2 : Obj, ((w.alloc o1).alloc o2).cell? ⟨dg, 1 + k, none⟩ = some (.pointer none) := fun o1 o2 => (bk_cell (bk_alloc (bk_alloc b2 o1) o2) _).trans ((bk_cell b2 _).symm.trans hch)
  clear H b1 b2 b3 b4 hu
  go_enter Try.func47, Try.ntmps47
  go_wp2_with (go_at_call 51; refine (hkn _).mono ?_; rintro e w1 ⟨rfl, rfl⟩)
  go_ret
  exact ⟨rfl, (((Below.refl _ _).alloc (Nat.le_refl _) _).alloc (by simp) _).alloc (by simp; omega) _⟩

theorem cells_own {W W' : World} {row : Option Nat} {b : Nat} {cs : Array Value} {t : TypeId} {f : Nat × Nat} (h : W.heap[b]? = some (.cells cs t f)) (hg : W.grownBy W' row) (hr : ∀ r, row = some r → ∃ o : Obj, W.heap[r]? = some o ∧ o.isCells = false) : W'.heap[b]? = some (.cells cs t f) :=
  (hg.block b (bk_lt h) (fun e => by obtain ⟨o, h1, h2⟩ := hr b e.symm; rw [h] at h1; injection h1 with h1; subst h1; cases h2)).trans h
theorem Kept.own {P : Nat → TypeId → Prop} {w W W' : World} (h : Kept P w W) {row : Option Nat} (hg : W.grownBy W' row) (hr : ∀ r, row = some r → w.heap.size ≤ r ∧ ∃ o : Obj, W.heap[r]? = some o ∧ o.isCells = false) : Kept P w W' :=
  ⟨hg.os.trans h.os, hg.tape.trans h.tape, hg.output.trans h.output, Nat.le_trans h.size hg.size, fun b cs t f hb hp => cells_own (h.blk b cs t f hb hp) hg (fun r e => (hr r e).2), fun b o hb ho => (hg.block b (bk_lt (h.oth b o hb ho)) (fun e => by have := (hr b e.symm).1; have := bk_lt hb; omega)).trans (h.oth b o hb ho)⟩
/-- What holds while a write's sectors are laid. -/
structure EI (w : World) (dg db wg k : Nat) (m : Int) (q : Nat) (b bs : List UInt8) (pl : Nat) (pre : List (Fin q)) (W : World) : Prop where
  kept : Kept (Pend dg db) w W
  data : W.heap[db]? = some (.cells (bv (laid b bs pl pre)).toArray 5)
  dev : W.heap[dg]? = w.heap[dg]?
  b3 : W.heap[w.heap.size]? = some (.cells #[.pointer (some ⟨dg, 0, none⟩)] 23)
  b5 : W.heap[w.heap.size + 1]? = some (.cells #[.int .i64 m] 3)
  b7 : W.heap[w.heap.size + 1 + 1]? = some (.cells #[.pointer (some ⟨wg, 0, none⟩)] 81)
  b8 : W.heap[w.heap.size + 1 + 1 + 1]? = some (.cells #[.int .i64 (pre.length : Nat)] 3)
  nm : ∀ j : Nat, j < pre.length → (j : Int) ≠ m
theorem EI.own {w : World} {dg db wg k : Nat} {m : Int} {q : Nat} {b bs : List UInt8} {pl : Nat} {pre : List (Fin q)} {W W' : World} (hd : ∃ cs t f, w.heap[dg]? = some (.cells cs t f)) (h : EI w dg db wg k m q b bs pl pre W) {row : Option Nat} (hg : W.grownBy W' row) (hr0 : ∀ r, row = some r → w.heap.size ≤ r ∧ ∃ o : Obj, W.heap[r]? = some o ∧ o.isCells = false) : EI w dg db wg k m q b bs pl pre W' := by
  obtain ⟨cs, t, f, hd⟩ := hd
  have hr := fun r e => (hr0 r e).2
  exact ⟨h.kept.own hg hr0, cells_own h.data hg hr, (cells_own (h.dev.trans hd) hg hr).trans hd.symm, cells_own h.b3 hg hr, cells_own h.b5 hg hr, cells_own h.b7 hg hr, cells_own h.b8 hg hr, h.nm⟩

theorem EI.next {w : World} {dg db wg k : Nat} {m : Int} {q : Nat} {b bs : List UInt8} {pl : Nat} {pre : List (Fin q)} {W : World} (h : EI w dg db wg k m q b bs pl pre W) (h1 : wg ≠ db) (h2 : dg ≠ db) (h3 : Ty w 5 db) (hd : ∃ cs t f, w.heap[dg]? = some (.cells cs t f)) (hwg : wg < w.heap.size) (hm : ((pre.length : Nat) : Int) ≠ m) (x : Fin q) (a : Act) :
    turnPost (keepsAt wg) (EI w dg db wg k m q b bs pl) (fun pre W => ∃ pre' x, pre = pre' ++ [x] ∧ ((pre'.length : Nat) : Int) = m ∧ EI w dg db wg k m q b bs pl pre' W) 0 (pre ++ [x]) W .normal a
      ((W.drew.setRow db (bv (laid b bs pl (pre ++ [x]))).toArray).setCell ⟨w.heap.size + 1 + 1 + 1, 0, none⟩ (.int .i64 ((pre.length : Int) + 1))) := by
  obtain ⟨cs5, f5, h5⟩ := h3
  have h3 : db < w.heap.size := bk_lt h5
  have hf : ∀ g, g ≠ db → g ≠ w.heap.size + 1 + 1 + 1 → ((W.drew.setRow db (bv (laid b bs pl (pre ++ [x]))).toArray).setCell ⟨w.heap.size + 1 + 1 + 1, 0, none⟩ (.int .i64 ((pre.length : Int) + 1))).heap[g]? = W.heap[g]? := fun g e1 e2 =>
    (Below.heap_setCell _ ⟨w.heap.size + 1 + 1 + 1, 0, none⟩ _ g e2).trans (setRow_other W.drew db g _ e1)
  have hdat : (W.drew.setRow db (bv (laid b bs pl (pre ++ [x]))).toArray).heap[db]? = some (.cells (bv (laid b bs pl (pre ++ [x]))).toArray 5 (0, 0)) := setRow_heap W.drew db _ _ _ _ h.data
  have hc8 : (W.drew.setRow db (bv (laid b bs pl (pre ++ [x]))).toArray).heap[w.heap.size + 1 + 1 + 1]? = some (.cells #[.int .i64 (pre.length : Nat)] 3) := (setRow_other W.drew db _ _ (by omega)).trans h.b8
  refine ⟨⟨by simp [World.setCell, World.setRow], fun g o hg ho => ?_⟩, hf wg h1 (by omega), ⟨⟨h.kept.os, h.kept.tape, h.kept.output, by simpa [World.setCell, World.setRow] using h.kept.size, fun g cs t f hg hp => ?_, fun g o hg ho => ?_⟩, ?_, ?_, ?_, ?_, ?_, ?_, ?_⟩⟩
  · refine (hf g ?_ ?_).trans hg
    · intro e; subst e; rw [h.data] at hg; injection hg with hg; subst hg; cases ho
    · intro e; subst e; rw [h.b8] at hg; injection hg with hg; subst hg; cases ho
  · refine (hf g (fun e => hp (.inr ⟨e, by subst e; rw [h5] at hg; injection hg with hg; injection hg with _ ht; exact ht.symm⟩)) (by have := bk_lt hg; omega)).trans (h.kept.blk g cs t f hg hp)
  · refine (hf g (fun e => by subst e; rw [h5] at hg; injection hg with hg; subst hg; cases ho) (by have := bk_lt hg; omega)).trans (h.kept.oth g o hg ho)
  · exact (Below.heap_setCell _ ⟨w.heap.size + 1 + 1 + 1, 0, none⟩ _ db (by simp; omega)).trans hdat
  · obtain ⟨cs, t, f, hd⟩ := hd
    exact (hf dg h2 (by have := bk_lt hd; omega)).trans h.dev
  · exact (hf _ (by omega) (by omega)).trans h.b3
  · exact (hf _ (by omega) (by omega)).trans h.b5
  · exact (hf _ (by omega) (by omega)).trans h.b7
  · have := bk_set hc8 0 (.int .i64 ((pre.length : Int) + 1))
    simpa using this
  · intro j hj
    rw [List.length_append, List.length_singleton] at hj
    rcases Nat.lt_succ_iff_lt_or_eq.1 hj with h1 | rfl
    · exact h.nm j h1
    · exact hm
def CalmS (P : Program) (s : Sem Next) : Prop := ∀ w, noEnter (s.run P w)
theorem calm_bind {P : Program} {α : Type} (x : Sem α) (f : α → Sem Next) (hf : ∀ v, CalmS P (f v)) : CalmS P (x >>= f) := fun w => by
  rw [Sem.run_bind]
  cases h : x.run P w with
  | ok v w' => exact hf v w'
  | halt e w' => trivial
theorem calm_value {P : Program} (v : Value) : CalmS P (pure (.value v)) := fun w => trivial
theorem calm_copy {P : Program} (ρ : Operand → Value) (o : Oper) (d s : Operand) (t : TypeId) (h : o.op = .call { callee := .builtin .copy, args := #[d, s], argTypes := #[t, t] }) : CalmS P (execOp ρ o) := fun w => by
  unfold execOp
  simp only [h, resolve, invoke, builtin, Sem.run_bind, Sem.run_pure, Result.andThen_ok]
  generalize hr : (Builtin.copy_ _ _ _).run P w = r
  cases r <;> trivial
theorem calm_nil {P : Program} (ρ : Operand → Value) (o : Oper) (x : Operand) (h : o.op = .nilCheck x) : CalmS P (execOp ρ o) := fun w => by
  unfold execOp
  simp only [h]
  split
  all_goals first
    | trivial
    | (split
       all_goals first
         | trivial
         | exact calm_bind _ _ (fun _ => calm_bind _ _ (fun _ => by
             split
             · exact calm_bind _ _ (fun _ => calm_value _)
             · exact calm_value _)) w)
theorem EI.last {w : World} {dg db wg k : Nat} {m : Int} {q : Nat} {bs : List UInt8} {pl : Nat} {pre : List (Fin q)} {W : World} {D : PDev} (h : EI w dg db wg k m q D.b bs pl pre W) (H : DevAt w dg db D) (hk : k < 8) (hq : bs.length = 64 * q) (hle : pl + bs.length ≤ D.b.length) {d : Nat} {o : Obj} (hK : W.heap[d]? = some o) (ho : o.isCells = false) (hdl : w.heap.size ≤ d) :
    DevAt ((W.setCell ⟨dg, 1 + k, none⟩ (.pointer none)).putObj d (.deferred none)) dg db ⟨laid D.b bs pl pre, D.up.set k none⟩ ∧ Kept (Pend dg db) w ((W.setCell ⟨dg, 1 + k, none⟩ (.pointer none)).putObj d (.deferred none)) := by
  obtain ⟨ps, b1, b2, b3, b4⟩ := H.ex
  have hdgne : dg ≠ db := bk_ne b2 b3 (by decide)
  have hd := h.dev.trans b2
  have hK' : (W.setCell ⟨dg, 1 + k, none⟩ (.pointer none)).heap[d]? = some o := (KeepsOthers.setCell W ⟨dg, 1 + k, none⟩ (.pointer none)).same d o hK ho
  have hr : ∀ r, some d = some r → ∃ o : Obj, (W.setCell ⟨dg, 1 + k, none⟩ (.pointer none)).heap[r]? = some o ∧ o.isCells = false := fun r e => by injection e with e; subst e; exact ⟨o, hK', ho⟩
  have hg := grownBy_putObj' (W.setCell ⟨dg, 1 + k, none⟩ (.pointer none)) d (.deferred none)
  have hkept : Kept (Pend dg db) w ((W.setCell ⟨dg, 1 + k, none⟩ (.pointer none)).putObj d (.deferred none)) := (h.kept.set hd (.inl ⟨rfl, rfl⟩) (1 + k) (.pointer none)).own hg (fun r e => ⟨by injection e with e; omega, hr r e⟩)
  have hl := laid_length bs pl hq pre D.b hle
  refine ⟨⟨⟨by simpa using H.ok.1, by simp only [hl]; exact H.ok.2.1, ?_⟩, ps.set k (.pointer none), by simpa using b1, ?_, ?_, ?_⟩, hkept⟩
  · intro i p b hi
    simp only [List.getElem?_set] at hi
    simp only [hl]
    split at hi
    · split at hi
      · injection hi with hi; cases hi
      · cases hi
    · exact H.ok.2.2 i p b hi
  · have := cells_own (bk_set hd (1 + k) (.pointer none)) hg hr
    rw [Nat.add_comm 1 k] at this ⊢
    simp only [hl]
    simpa using this
  · exact cells_own (bk_far h.data (p := ⟨dg, 1 + k, none⟩) (Ne.symm hdgne) (.pointer none)) hg hr
  · intro i p u hp hu
    simp only [List.getElem?_set] at hp hu
    by_cases hik : k = i
    · subst hik
      rw [if_pos rfl, if_pos (by omega)] at hp
      rw [if_pos rfl, if_pos (by have := H.ok.1; omega)] at hu
      injection hp with hp; injection hu with hu
      subst hp hu
      rfl
    · rw [if_neg hik] at hp hu
      exact (b4 i p u hp hu).kept hkept (by simp [Pend]) (by intro b hb; simp [Pend, hb])
set_option maxRecDepth 100000 in
set_option maxHeartbeats 1600000 in
theorem end_any (dg db : Nat) (D : PDev) (k pl : Nat) (bs : List UInt8) (m : Int) (w : World) (H : DevAt w dg db D) (hk : k < 8) (hu : D.up[k]? = some (some (pl, bs))) :
    Calls Try.prog 47 #[.pointer (some ⟨dg, 0, none⟩), .int .i64 (k : Nat), .int .i64 m] w fun e w' => e = .returned (.int .i64 0) ∧ DevAt w' dg db (D.fin k pl bs m) ∧ Kept (Pend dg db) w w' := by
  have hkn := fun W => known_any dg (k : Int) W
  rw [decide_eq_true (show (0 : Int) ≤ k ∧ (k : Int) < 8 by omega)] at hkn
  have k8 : (k : Int) < 8 := by omega
  obtain ⟨ps, b1, b2, b3, b4⟩ := H.ex
  obtain ⟨p, u, hch, hu2, hup⟩ := H.hand k hk
  rw [hu] at hu2
  injection hu2 with hu2
  subst hu2
  obtain ⟨wg, v, rfl, hwg, hsl⟩ := hup
  obtain ⟨hle, hmod⟩ := H.ok.2.2 k pl bs hu
  have hlen := H.ok.2.1
  obtain ⟨q, hq⟩ : ∃ q, bs.length = 64 * q := ⟨bs.length / 64, by omega⟩
  obtain ⟨A, c, rfl⟩ : ∃ A c, v = .slice A bs.length c := by obtain ⟨_, _, A, c, e, _⟩ := hsl; exact ⟨A, c, e⟩
  have hc : ∀ o1 o2 : Obj, ((w.alloc o1).alloc o2).cell? ⟨dg, 1 + k, none⟩ = some (.pointer (some ⟨wg, 0, none⟩)) := fun o1 o2 => (bk_cell (bk_alloc (bk_alloc b2 o1) o2) _).trans ((bk_cell b2 _).symm.trans hch)
  refine (callsIn_wide (n := 3)).1 ?_
  refine callsIn_of_wp_marks Try.func47 rfl trivial ?_ rfl
  simp only [Try.ntmps47, List.size_toArray, List.length_cons, List.length_nil, Nat.reduceAdd, Nat.reduceSub, Array.replicate_succ, Array.replicate_zero, List.push_toArray, List.append_toArray, List.nil_append, List.cons_append]
  gi_wp2_with (refine ⟨trivial, ?_⟩; gi_at_call 51; refine (callsIn_wide.2 (hkn _)).mono ?_; rintro e w1 ⟨rfl, rfl⟩)
  have hdgne : dg ≠ db := bk_ne b2 b3 (by decide)
  have h0 : EI w dg db wg k m q D.b bs pl [] ((((w.alloc (.cells #[.pointer (some ⟨dg, 0, none⟩)] 23)).alloc (.cells #[.int .i64 m] 3)).alloc (.cells #[.pointer (some ⟨wg, 0, none⟩)] 81)).alloc (.cells #[.int .i64 0] 3)) := by
    refine ⟨((((Kept.refl _ w).alloc _).alloc _).alloc _).alloc _, bk_alloc (bk_alloc (bk_alloc (bk_alloc b3 _) _) _) _, (bk_alloc (bk_alloc (bk_alloc (bk_alloc b2 _) _) _) _).trans b2.symm, bk_alloc (bk_alloc (bk_alloc (bk_new w _) _) _) _, ?_, ?_, ?_, fun j hj => by simp at hj⟩
    · have := bk_new (w.alloc (.cells #[.pointer (some ⟨dg, 0, none⟩)] 23)) (.cells #[.int .i64 m] 3)
      rw [World.size_alloc] at this
      exact bk_alloc (bk_alloc this _) _
    · have := bk_new ((w.alloc (.cells #[.pointer (some ⟨dg, 0, none⟩)] 23)).alloc (.cells #[.int .i64 m] 3)) (.cells #[.pointer (some ⟨wg, 0, none⟩)] 81)
      rw [World.size_alloc, World.size_alloc] at this
      exact bk_alloc this _
    · have := bk_new (((w.alloc (.cells #[.pointer (some ⟨dg, 0, none⟩)] 23)).alloc (.cells #[.int .i64 m] 3)).alloc (.cells #[.pointer (some ⟨wg, 0, none⟩)] 81)) (.cells #[.int .i64 0] 3)
      rw [World.size_alloc, World.size_alloc, World.size_alloc] at this
      exact this
  generalize hW0 : (((w.alloc (.cells #[.pointer (some ⟨dg, 0, none⟩)] 23)).alloc (.cells #[.int .i64 m] 3)).alloc (.cells #[.pointer (some ⟨wg, 0, none⟩)] 81)).alloc (.cells #[.int .i64 0] 3) = W0 at *
  clear hW0
  have hdx : ∃ cs t f, w.heap[dg]? = some (.cells cs t f) := ⟨_, _, _, b2⟩
  have hwgd : wg ≠ db := bk_ne hwg b3 (by decide)
  refine range_meth (F := Fence.wide) (n := 3) (P := Try.prog) rfl (by omega) (gf := 70) (lead := #[.pointer (some ⟨wg, 0, none⟩)]) rfl trivial (enters_of Try.func70 (by kernel_rfl) rfl)
    (sectors_seq Fence.wide 2 trivial rfl (by omega) wg q (by omega) (.int .i64 (pl : Nat)) A c) (fun h1 h2 => h2.trans h1) (fun W l o o' hl h1 h2 => World.putObj_heap_other (by have := h0.kept.size; have := bk_lt hwg; omega)) (fun _ => rfl) 0
    (EI w dg db wg k m q D.b bs pl) (fun pre W => ∃ pre' x, pre = pre' ++ [x] ∧ ((pre'.length : Nat) : Int) = m ∧ EI w dg db wg k m q D.b bs pl pre' W)
    (fun s A B row hs hg hr => hs.own hdx hg (fun r e => ⟨by have := (hr r e).1; have := h0.kept.size; omega, (hr r e).2⟩)) (fun s A B row hs hg hr => by obtain ⟨pre', x, h1, h2, h3⟩ := hs; exact ⟨pre', x, h1, h2, h3.own hdx hg (fun r e => ⟨by have := (hr r e).1; have := h0.kept.size; omega, (hr r e).2⟩)⟩)
    h0 (fun W hW => by have := hW.kept.blk _ _ _ _ hwg (by intro h; rcases h with h | h <;> simp_all); rw [hq] at this; exact this)
    (fun x : Fin q => { tmps := #[.pointer (some ⟨dg, 0, none⟩), .int .i64 (k : Nat), .int .i64 m, .pointer (some ⟨w.heap.size, 0, none⟩), undef, .pointer (some ⟨w.heap.size + 1, 0, none⟩), .int .i64 0, .pointer (some ⟨w.heap.size + 1 + 1, 0, none⟩), .pointer (some ⟨w.heap.size + 1 + 1 + 1, 0, none⟩), .int .i64 (64 * ((x.1 : Nat) : Int)), .pointer (some ⟨dg, 0, none⟩), .int .i64 (k : Nat), .bool true, .bool false, .pointer (some ⟨dg, 0, none⟩), .int .i64 (k : Nat), .pointer (some ⟨dg, 0, none⟩), .pointer (some ⟨dg, 1, none⟩), .pointer (some ⟨dg, 1 + k, none⟩), .pointer (some ⟨wg, 0, none⟩), .pointer (some ⟨wg, 0, none⟩), .bool false, .pointer (some ⟨wg, 0, none⟩), .func (.func 70) #[.pointer (some ⟨wg, 0, none⟩)] #[], .int .i64 (64 * ((x.1 : Nat) : Int)), undef, undef, undef, undef, undef, undef, undef, undef, undef, undef, undef, undef, undef, undef, undef, undef, undef, undef, undef, undef, undef, undef, undef, undef, undef, undef, undef, undef, undef, undef], defers := [] }) ?assign ?body ?done ?stop
  case assign =>
    intro l x W K hK
    gi_wp2
    exact hK
  case body =>
    intro l pre x W hI hlen
    have g8 : W.cell? ⟨w.heap.size + 1 + 1 + 1, 0, none⟩ = some (.int .i64 (pre.length : Nat)) := bk_cell hI.b8 0
    have g5 : W.cell? ⟨w.heap.size + 1, 0, none⟩ = some (.int .i64 m) := bk_cell hI.b5 0
    have g3 : W.cell? ⟨w.heap.size, 0, none⟩ = some (.pointer (some ⟨dg, 0, none⟩)) := bk_cell hI.b3 0
    have g7 : W.cell? ⟨w.heap.size + 1 + 1, 0, none⟩ = some (.pointer (some ⟨wg, 0, none⟩)) := bk_cell hI.b7 0
    have gd : W.cell? ⟨dg, 0, none⟩ = some (.slice (some ⟨db, 0, none⟩) D.b.length D.b.length) := bk_cell (hI.dev.trans b2) 0
    have hwg1 := hI.kept.blk _ _ _ _ hwg (by intro h; rcases h with h | h <;> simp_all)
    have gw0 : W.cell? ⟨wg, 0, none⟩ = some (.int .i64 (pl : Nat)) := bk_cell hwg1 0
    have gw1 : W.cell? ⟨wg, 1, none⟩ = some (.slice A bs.length c) := bk_cell hwg1 1
    rw [hq] at gw1
    have HI := Sec.mk hI
    have HX := Sec.mk x.2
    have hxq := x.2
    have hpl : pl + 64 * x.1 + 64 ≤ D.b.length := by omega
    have hcut1 := fun V : World => run_cut (P := Try.prog) 51 5 .i64 Try.underlying51 Try.info5 (some ⟨db, 0, none⟩) D.b.length D.b.length (pl + 64 * x.1) (by omega) V
    have hsl1 := hsl.kept hI.kept (fun b hb => by intro h; rcases h with h | h <;> simp_all)
    obtain ⟨sb, so, rfl, hsb, hsc⟩ : ∃ sb so, A = some ⟨sb, so, none⟩ ∧ sb ≠ db ∧ ∀ j u, (bv bs)[j]? = some u → W.cell? ⟨sb, so + j, none⟩ = some u := by
      obtain ⟨_, _, A', c', e, _, _, h5⟩ := hsl1
      injection e with e1 e2 e3
      subst e1 e3
      obtain ⟨sb, so, e, ⟨_, h6⟩, h7⟩ := h5 (by omega)
      exact ⟨sb, so, e, h6, h7⟩
    have hcap : bs.length ≤ c := by obtain ⟨_, _, A', c', e, h, _⟩ := hsl1; injection e with _ _ e; omega
    have hcut2 := fun V : World => run_cut_mid (P := Try.prog) 51 5 .i64 .i64 Try.underlying51 Try.info5 (some ⟨sb, so, none⟩) (64 * q) c (64 * x.1) (64 * x.1 + 64) (by omega) (by omega) V
    have ec1 : cutA (some ⟨db, 0, none⟩) D.b.length (pl + 64 * x.1) = some ⟨db, pl + 64 * x.1, none⟩ := by unfold cutA; rw [if_neg (by omega)]; simp [add_pl]
    have ec2 : cutA (some ⟨sb, so, none⟩) c (64 * x.1) = some ⟨sb, so + 64 * x.1, none⟩ := by unfold cutA; rw [if_neg (by omega)]; simp [add_pl]
    rw [ec1] at hcut1
    rw [ec2] at hcut2
    rw [show 64 * x.1 + 64 - 64 * x.1 = 64 by omega] at hcut2
    rw [show ((pl + 64 * x.1 : Nat) : Int) = (pl : Int) + 64 * (x.1 : Int) by omega] at hcut1
    rw [show ((64 * x.1 + 64 : Nat) : Int) = 64 * (x.1 : Int) + 64 by omega, show ((64 * x.1 : Nat) : Int) = 64 * (x.1 : Int) by omega] at hcut2
    have hw1 : IntKind.i64.wrap ((pl : Int) + 64 * (x.1 : Int)) = (pl : Int) + 64 * (x.1 : Int) := IntWalk.i64_in _ (by omega)
    have hw2 : IntKind.i64.wrap (64 * (x.1 : Int) + 64) = 64 * (x.1 : Int) + 64 := IntWalk.i64_in _ (by omega)
    have hcopy : ∀ V : World, V.heap = W.heap → (Builtin.copy_ #[51, 51] 3 #[.slice (some ⟨db, pl + 64 * x.1, none⟩) (D.b.length - (pl + 64 * x.1)) (D.b.length - (pl + 64 * x.1)), .slice (some ⟨sb, so + 64 * x.1, none⟩) 64 (c - 64 * x.1)]).run Try.prog V =
        .ok (.int .i64 64) (V.setRow db (bv (laid D.b bs pl (pre ++ [x]))).toArray) := by
      intro V hV
      have e1 := seg_length bs q x.1 hq x.2
      have e2 := laid_length bs pl hq pre D.b hle
      have hr := run_copy_row (P := Try.prog) V 51 51 3 5 db (pl + 64 * x.1) (D.b.length - (pl + 64 * x.1)) (D.b.length - (pl + 64 * x.1)) ⟨sb, so + 64 * x.1, none⟩ 64 (c - 64 * x.1) (bv (laid D.b bs pl pre)).toArray 5 (bv (seg bs x.1)) Try.underlying51 (by kernel_rfl)
        (by rw [hV]; exact HI.out.data) (by rw [bv_length, e1]; exact (Nat.min_eq_left (by omega)).symm) (fun j u hu => by
          rw [add_pl]
          have hj : j < 64 := by
            have := (List.getElem?_eq_some_iff.1 hu).1
            rw [bv_length, e1] at this; exact this
          have h3 := hsc (64 * x.1 + j) u (by
            simp only [bv, seg, List.getElem?_map, List.getElem?_take, List.getElem?_drop] at hu ⊢
            rwa [if_pos hj] at hu)
          unfold World.cell? at h3 ⊢
          rw [hV, Nat.add_assoc]; exact h3) (by simp only [bv_length, e1, List.size_toArray, e2]; omega) (bv_one _)
      rw [hr]
      simp only [bv_length, e1]
      congr 2
      rw [laid_snoc]
      unfold over
      rw [e1, bv_append, bv_append]
      simp [bv, List.map_take, List.map_drop]
    by_cases hm : (pre.length : Int) = m
    · have hmb : ((pre.length : Int) == m) = true := by simp [hm]
      have HM := Sec.mk hm
      clear hm hcopy hcut1 hcut2
      gi_wp2
      exact ⟨rfl, KeepsOthers.refl _, pre, x, rfl, HM.out, HI.out⟩
    · have hmb : ((pre.length : Int) == m) = false := by simp [hm]
      have hs8 : ∀ cs : Array Value, (W.setRow db cs).heap[w.heap.size + 1 + 1 + 1]? = some (.cells #[.int .i64 (pre.length : Nat)] 3) := fun cs => (setRow_other W db _ cs (by have := bk_lt b3; omega)).trans hI.b8
      have t8 : ∀ cs : Array Value, (W.setRow db cs).cell? ⟨w.heap.size + 1 + 1 + 1, 0, none⟩ = some (.int .i64 (pre.length : Nat)) := fun cs => bk_cell (hs8 cs) 0
      have z8 : ∀ cs : Array Value, (W.setRow db cs).frozen? ⟨w.heap.size + 1 + 1 + 1, 0, none⟩ = false := fun cs => bk_frozen (hs8 cs) 0
      have hs9 : ∀ cs : Array Value, (W.drew.setRow db cs).heap[w.heap.size + 1 + 1 + 1]? = some (.cells #[.int .i64 (pre.length : Nat)] 3) := fun cs => (setRow_other W.drew db _ cs (by have := bk_lt b3; omega)).trans hI.b8
      have t9 : ∀ cs : Array Value, (W.drew.setRow db cs).cell? ⟨w.heap.size + 1 + 1 + 1, 0, none⟩ = some (.int .i64 (pre.length : Nat)) := fun cs => bk_cell (hs9 cs) 0
      have z9 : ∀ cs : Array Value, (W.drew.setRow db cs).frozen? ⟨w.heap.size + 1 + 1 + 1, 0, none⟩ = false := fun cs => bk_frozen (hs9 cs) 0
      have HS9 := Sec.mk hs9
      clear hs9
      have hcp2 := hcopy W.drew rfl
      have HDX := Sec.mk hdx
      have HNM := Sec.mk hm
      have hwgl := bk_lt hwg
      have HWD := Sec.mk (And.intro hwgd hdgne)
      clear t8 z8
      have hwl : IntKind.i64.wrap ((pre.length : Int) + 1) = (pre.length : Int) + 1 := IntWalk.i64_in _ (by omega)
      have HQ := Sec.mk hq
      clear hm hcopy hs8 hI hsl1 hsc hwg hsl hwg1 ec1 ec2 hsb H hkn hc hch hu b4 hdx h0 b2 hcap hq hle hmod HX hwgd hdgne
      gi_wp2_with fail
      refine regionIn_still_tail 19 (by rintro ⟨_, _, h⟩; exact h) (fun f => trivial) ?calm (by kernel_rfl) (by kernel_rfl) ?_
      case calm =>
        intro o ho
        simp only [List.mem_cons, List.not_mem_nil, or_false] at ho
        rcases ho with rfl | rfl | rfl | rfl | rfl | rfl | rfl | rfl | rfl | rfl | rfl | rfl | rfl | rfl | rfl | rfl | rfl | rfl | rfl | rfl
        all_goals refine ⟨(fun c h => by cases h), fun ρ V => ?_⟩
        all_goals first
          | exact calm_value _ V
          | exact calm_bind _ _ (fun _ => calm_value _) V
          | exact calm_nil _ _ _ rfl V
          | exact calm_copy _ _ _ _ _ rfl V
      simp only [List.take_succ_cons, List.take_zero, List.drop_succ_cons, List.drop_zero]
      repeat still_step
      try refine wpStill_nil ?_
      change wpList _ _ _ _ _ W.drew
      go_wp2
      gi_wp2
      exact HI.out.next HWD.out.1 HWD.out.2 ⟨_, _, b3⟩ HDX.out (by assumption) HNM.out x _
  case done =>
    intro Dd xs W hD hS hI hK
    have gd : W.cell? ⟨dg, 1 + k, none⟩ = some (.pointer (some ⟨wg, 0, none⟩)) := (bk_cell (hI.dev.trans b2) _).trans ((bk_cell b2 _).symm.trans hch)
    have gz : W.frozen? ⟨dg, 1 + k, none⟩ = false := bk_frozen (hI.dev.trans b2) _
    have g3 : W.cell? ⟨w.heap.size, 0, none⟩ = some (.pointer (some ⟨dg, 0, none⟩)) := bk_cell hI.b3 0
    have HI := Sec.mk hI
    have hl := HI.out.last H hk hq hle hK rfl (by have := h0.kept.size; omega)
    have HL := Sec.mk hl
    have hK' := (KeepsOthers.setCell W ⟨dg, 1 + k, none⟩ (.pointer none)).same Dd _ hK rfl
    have hfin : D.fin k pl bs m = ⟨laid D.b bs pl xs, D.up.set k none⟩ := by
      subst hS
      have e1 : cnt q m = q := by
        unfold cnt
        split
        · rfl
        · have h1 : ¬ m.toNat < q := fun h2 => hI.nm m.toNat (by simpa using h2) (by omega)
          omega
      have e2 : bs.length / 64 = q := by omega
      have e3 := laid_take D.b bs pl hq hle q (Nat.le_refl _)
      rw [List.take_of_length_le (by simp)] at e3
      unfold PDev.fin
      rw [e2, e1, e3]
    rw [← hfin] at HL
    clear hl hfin
    gi_wp2
    exact ⟨by simp, .inl ⟨_, _, rfl, run_takeDeferred hK', _, results_tmp rfl _ _ _, rfl, HL.out.1, HL.out.2⟩⟩
  case stop =>
    intro Dd pre W hD hS hI hK
    obtain ⟨pre', x, rfl, hm, hI⟩ := hI
    have gd : W.cell? ⟨dg, 1 + k, none⟩ = some (.pointer (some ⟨wg, 0, none⟩)) := (bk_cell (hI.dev.trans b2) _).trans ((bk_cell b2 _).symm.trans hch)
    have gz : W.frozen? ⟨dg, 1 + k, none⟩ = false := bk_frozen (hI.dev.trans b2) _
    have g3 : W.cell? ⟨w.heap.size, 0, none⟩ = some (.pointer (some ⟨dg, 0, none⟩)) := bk_cell hI.b3 0
    have HI := Sec.mk hI
    have hl := HI.out.last H hk hq hle hK rfl (by have := h0.kept.size; omega)
    have HL := Sec.mk hl
    have hK' := (KeepsOthers.setCell W ⟨dg, 1 + k, none⟩ (.pointer none)).same Dd _ hK rfl
    have hfin : D.fin k pl bs m = ⟨laid D.b bs pl pre', D.up.set k none⟩ := by
      obtain ⟨j, hj, he⟩ := hS
      have e0 : pre' = (List.finRange q).take j := by
        rw [List.take_add_one] at he
        have e : (List.finRange q)[j]? = some ⟨j, hj⟩ := by simp [hj]
        rw [e] at he
        exact List.append_inj_left' he rfl
      have e1 : pre'.length = j := by rw [e0, List.length_take]; simp; omega
      have e2 : bs.length / 64 = q := by omega
      have e3 : cnt q m = j := by unfold cnt; rw [if_neg (by omega)]; omega
      unfold PDev.fin
      rw [e2, e3, e0, laid_take D.b bs pl hq hle j (by omega)]
    rw [← hfin] at HL
    clear hl hfin
    gi_wp2
    exact ⟨by simp, .inl ⟨_, _, rfl, run_takeDeferred hK', _, results_tmp rfl _ _ _, rfl, HL.out.1, HL.out.2⟩⟩

/-! ### Finish, Crash -/
set_option maxHeartbeats 400000 in
theorem Finish_any (dg db : Nat) (D : PDev) (k pl : Nat) (bs : List UInt8) (w : World) (H : DevAt w dg db D) (hk : k < 8) (hu : D.up[k]? = some (some (pl, bs))) :
    Calls Try.prog 20 #[.pointer (some ⟨dg, 0, none⟩), .int .i64 (k : Nat)] w fun e w' => e = .returned (.int .i64 0) ∧ DevAt w' dg db (D.fin k pl bs (-1)) ∧ Kept (Pend dg db) w w' := by
  have hc := Sec.mk (end_any dg db D k pl bs (-1) w H hk hu)
  clear H hu
  go_enter Try.func20, Try.ntmps20
  go_wp2_with (go_at_call 47; refine hc.out.mono ?_; rintro e w1 ⟨rfl, h1, h2⟩; have H1 := Sec.mk h1; have H2 := Sec.mk h2; clear h1 h2)
  go_ret
  exact ⟨rfl, H1.out, H2.out⟩
set_option maxHeartbeats 400000 in
theorem Crash_any (dg db : Nat) (D : PDev) (k pl : Nat) (bs : List UInt8) (m : Int) (w : World) (H : DevAt w dg db D) (hk : k < 8) (hu : D.up[k]? = some (some (pl, bs))) :
    Calls Try.prog 15 #[.pointer (some ⟨dg, 0, none⟩), .int .i64 (k : Nat), .int .i64 m] w fun e w' => e = .returned (.int .i64 0) ∧ DevAt w' dg db (D.fin k pl bs (max m 0)) ∧ Kept (Pend dg db) w w' := by
  by_cases hm : m < 0
  · have e1 : max m 0 = 0 := by omega
    rw [e1]
    have hc := Sec.mk (end_any dg db D k pl bs 0 w H hk hu)
    clear H hu
    go_enter Try.func15, Try.ntmps15
    go_wp2_with (go_at_call 47; refine hc.out.mono ?_; rintro e w1 ⟨rfl, h1, h2⟩; have H1 := Sec.mk h1; have H2 := Sec.mk h2; clear h1 h2)
    go_ret
    exact ⟨rfl, H1.out, H2.out⟩
  · have e1 : max m 0 = m := by omega
    rw [e1]
    have hc := Sec.mk (end_any dg db D k pl bs m w H hk hu)
    clear H hu
    go_enter Try.func15, Try.ntmps15
    go_wp2_with (go_at_call 47; refine hc.out.mono ?_; rintro e w1 ⟨rfl, h1, h2⟩; have H1 := Sec.mk h1; have H2 := Sec.mk h2; clear h1 h2)
    go_ret
    exact ⟨rfl, H1.out, H2.out⟩
set_option maxHeartbeats 400000 in
theorem Crash_none (dg db : Nat) (D : PDev) (k : Nat) (m : Int) (w : World) (H : DevAt w dg db D) (hk : k < 8) (hu : D.up[k]? = some none) :
    Calls Try.prog 15 #[.pointer (some ⟨dg, 0, none⟩), .int .i64 (k : Nat), .int .i64 m] w fun e w' => e = .returned (.int .i64 8) ∧ Below w.heap.size w w' := by
  have hc := fun m => Sec.mk (end_none dg db D k m w H hk hu)
  clear H hu
  by_cases hm : m < 0
  · go_enter Try.func15, Try.ntmps15
    go_wp2_with (go_at_call 47; refine (hc _).out.mono ?_; rintro e w1 ⟨rfl, h1⟩)
    go_ret
    exact ⟨rfl, h1⟩
  · go_enter Try.func15, Try.ntmps15
    go_wp2_with (go_at_call 47; refine (hc _).out.mono ?_; rintro e w1 ⟨rfl, h1⟩)
    go_ret
    exact ⟨rfl, h1⟩
end Go.Proofs.Ytgnlhjphmaikkaa
