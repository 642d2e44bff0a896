/- A range over a method value ('for i := range w.sectors'): the law, by the kit's base law; the iterator's contract. Conditions: none. -/
import Derived.Test.YtgnlhjphmaikkaaP
import Derived.RangeFuncNested
import Derived.RangeFuncBound
import Derived.RangeFuncCalls
import Derived.RangeFuncLeaves
import Derived.Shelf.Abstract
import Derived.Shelf.RegionOpen
import Derived.OwnWalkIn
import Derived.TacticsInMore
import Derived.LoopNIn
import Derived.LoopIn
set_option linter.unusedVariables false
set_option linter.unusedSimpArgs false
namespace Go.Proofs.Ytgnlhjphmaikkaa
open Go.RowKit Go.Shelf
attribute [local go_sem] Oper.semAt_some

section
variable {F : Fence} {n : Nat} {P : Program}
/-- What the iterator of a method value owes: 'lead' is what it is bound to. -/
def MethSeq {α : Type} (F : Fence) (n : Nat) (P : Program) (gf : Nat) (lead : Array Value) (encs : α → Array Value) (Kp : World → World → Prop) (S Sp : List α → Prop) (N : Nat) (G : World → Prop) : Prop :=
  ∀ (l : Nat) (J Jx : List α → World → Prop) (W : World), G W →
    (∀ pre x W1, J pre W1 → pre.length < N → YieldAt F (n - 1) P l (encs x) W1 fun e W' =>
      (e = .returned (.bool true) ∧ J (pre ++ [x]) W' ∧ Kp W1 W') ∨ (e = .returned (.bool false) ∧ Jx (pre ++ [x]) W')) →
    J [] W →
    CallsIn F n P gf (lead ++ #[.func (.yield l) #[] #[]]) W fun e W' => (∃ v, e = .returned v) ∧ ((∃ xs, S xs ∧ J xs W') ∨ (∃ pre, Sp pre ∧ Jx pre W'))
/-- How a round may be left: it goes on, or it breaks. -/
def turnPost {α : Type} (Kp : World → World → Prop) (I Ix : List α → World → Prop) (id : Nat) (xs : List α) (W : World) : Exit → Act → World → Prop
  | .normal, _, W' => KeepsOthers W W' ∧ Kp W W' ∧ I xs W'
  | .exit k, _, W' => k = id ∧ KeepsOthers W W' ∧ Ix xs W'
  | _, _, _ => False
theorem range_meth {α : Type} {g : Operand} {ps : Array Tmp} {assign body : Code} {Q : Exit → Act → World → Prop} {a : Act} {w : World}
    (hro : F.round = none) (h1 : 1 ≤ n) {gf : Nat} {lead : Array Value} (hg : a.eval g = .func (.func gf) lead #[]) (hFg : F.fn gf) (eg : ∀ args w, (callFunc gf args).run P w = .ok (.enter gf args) w)
    {encs : α → Array Value} {Kp : World → World → Prop} {S Sp : List α → Prop} {N : Nat} {G : World → Prop} (hseq : MethSeq F (n - 1) P gf lead encs Kp S Sp N G)
    (hKt : ∀ {A B C : World}, Kp A B → Kp B C → Kp A C) (hKb : ∀ (W : World) (l : Nat) (o o' : Obj), w.heap.size ≤ l → W.heap[l]? = some o → o.isCells = false → Kp W (W.putObj l o')) (hps : ∀ x, (encs x).size = ps.size) (id : Nat)
    (I Ix : List α → World → Prop) (hI : OwnFrom w.heap.size I) (hIx : OwnFrom w.heap.size Ix) (h0 : I [] w) (hG : ∀ W, I [] W → G W) (a1 : α → Act)
    (hassign : ∀ (l : Nat) (x : α) (W : World) (K : Act → World → Prop), K (a1 x) W →
      assign.wpIn (F.inRound l) (n - 1 - 1) P (Exit.then K (fun _ _ _ => False)) { tmps := (ps.zip (encs x)).foldl (fun t (p, v) => t.setIfInBounds p v) a.tmps, defers := [] } W)
    (hbody : ∀ (l : Nat) (pre : List α) (x : α) (W : World), I pre W → pre.length < N → body.wpIn (F.inRound l) (n - 1 - 1) P (turnPost Kp I Ix id (pre ++ [x]) W) (a1 x) W)
    (hdone : ∀ (D : Nat) (xs : List α) (W : World), w.heap.size ≤ D → S xs → I xs W → W.heap[D]? = some (.deferred (some [])) → Q .normal { a with defers := { target := .collected D, args := #[] } :: a.defers } W)
    (hstop : ∀ (D : Nat) (pre : List α) (W : World), w.heap.size ≤ D → Sp pre → Ix pre W → W.heap[D]? = some (.deferred (some [])) → (Code.exit id).wpIn F n P Q { a with defers := { target := .collected D, args := #[] } :: a.defers } W) :
    (Code.rangeFunc g ps assign body).wpIn F n P Q a w := by
  refine wpIn_rangeFunc fun fn hfn => ?_
  let rec' : LoopState → Option Code → Loop := fun st pe => { state := st, pending := pe, fn, tmps := a.tmps, params := ps, assign, body, defers := w.heap.size }
  have hi1 : I [] ((w.alloc (.deferred (some []))).alloc (.loop (rec' .ready none))) := hI.alloc _ (hI.alloc _ h0)
  have hl1 : ((w.alloc (.deferred (some []))).alloc (.loop (rec' .ready none))).heap[w.heap.size + 1]? = some (.loop (rec' .ready none)) := by
    have := bk_new (w.alloc (.deferred (some []))) (.loop (rec' .ready none))
    rwa [World.size_alloc] at this
  have hd1 : ((w.alloc (.deferred (some []))).alloc (.loop (rec' .ready none))).heap[w.heap.size]? = some (.deferred (some [])) := bk_alloc (bk_new w _) _
  have hE := run_enterLoop_outer (P := P) (w := w) fn a.tmps ps assign body
  rw [hro]
  generalize hW1 : (w.alloc (.deferred (some []))).alloc (.loop (rec' .ready none)) = W1 at *
  refine ⟨w.heap.size + 1, [{ target := .collected w.heap.size, args := #[] }], W1, { target := .fn (.func gf) #[], args := lead ++ #[.func (.yield (w.heap.size + 1)) #[] #[]] }, W1, gf,
    lead ++ #[.func (.yield (w.heap.size + 1)) #[] #[]], W1, hE.trans (by rw [← hW1]), ?_, ?_, ?_, fun _ => h1, ?_⟩
  · simp only [resolve, hg]
    simp [go_sem]
  · intro f' hf'
    simp [Target.leads] at hf'
    subst hf'
    exact hFg
  · simp [invoke, go_sem, eg]
  · refine (hseq (w.heap.size + 1)
      (fun pre W => I pre W ∧ W.heap[w.heap.size + 1]? = some (.loop (rec' .ready none)) ∧ W.heap[w.heap.size]? = some (.deferred (some [])))
      (fun pre W => Ix pre W ∧ W.heap[w.heap.size + 1]? = some (.loop (rec' .done (some (.exit id)))) ∧ W.heap[w.heap.size]? = some (.deferred (some [])))
      W1 (hG _ hi1) ?_ ⟨hi1, hl1, hd1⟩).mono ?_
    · rintro pre x W ⟨hi, hl, hd⟩ hlen
      have hlt := bk_lt hl
      refine ⟨fn, _, assign, body, run_yield (P := P) (args := encs x) hl (hps x), roundIn_of_wpIn hfn ?_⟩
      simp only [rec']
      refine hassign _ x W _ ⟨_, run_beginRound hl rfl, ?_⟩
      have hlB : (W.putObj (w.heap.size + 1) (.loop (rec' .busy none))).heap[w.heap.size + 1]? = some (.loop (rec' .busy none)) := World.putObj_heap_same hlt
      have hdB : (W.putObj (w.heap.size + 1) (.loop (rec' .busy none))).heap[w.heap.size]? = some (.deferred (some [])) := (World.putObj_heap_other (by omega)).trans hd
      have hkB : Kp W (W.putObj (w.heap.size + 1) (.loop (rec' .busy none))) := hKb _ _ _ _ (by omega) hl rfl
      refine wpIn_mono (hbody _ pre x _ (hI.putObj _ hi (by omega) hl rfl) hlen) ?_
      rintro e a3 W3 hp
      cases e with
      | normal =>
        obtain ⟨ho, hk3, hi3⟩ := hp
        have hl3 := ho.same _ _ hlB rfl
        have hd3 := ho.same _ _ hdB rfl
        exact ⟨_, _, run_endRound (P := P) none hl3, .inl ⟨rfl, ⟨hI.putObj _ hi3 (by omega) hl3 rfl, World.putObj_heap_same (bk_lt hl3), (World.putObj_heap_other (by omega)).trans hd3⟩, hKt (hKt hkB hk3) (hKb _ _ _ _ (by omega) hl3 rfl)⟩⟩
      | exit k =>
        obtain ⟨rfl, ho, hi3⟩ := hp
        have hl3 := ho.same _ _ hlB rfl
        have hd3 := ho.same _ _ hdB rfl
        exact ⟨_, _, run_endRound (P := P) (some (.exit k)) hl3, .inr ⟨rfl, hIx.putObj _ hi3 (by omega) hl3 rfl, World.putObj_heap_same (bk_lt hl3), (World.putObj_heap_other (by omega)).trans hd3⟩⟩
      | ret => exact hp.elim
      | goto t => exact hp.elim
      | panic ch => exact hp.elim
      | outgrown => exact hp.elim
    · rintro e W2 ⟨⟨v, rfl⟩, (⟨xs, hS, hi, hl, hd⟩ | ⟨pre, hS, hi, hl, hd⟩)⟩
      · exact ⟨none, _, run_endLoop (P := P) hl (by simp [rec']), hdone _ xs _ (Nat.le_refl _) hS (hI.putObj _ hi (by omega) hl rfl) ((World.putObj_heap_other (by omega)).trans hd)⟩
      · exact ⟨some (.exit id), _, run_endLoop (P := P) hl (by simp [rec']), hstop _ pre _ (Nat.le_refl _) hS (hIx.putObj _ hi (by omega) hl rfl) ((World.putObj_heap_other (by omega)).trans hd)⟩
end
/-! ### sectors -/
def keepsAt (wg : Nat) (W W' : World) : Prop := W'.heap[wg]? = W.heap[wg]?
set_option maxRecDepth 100000 in
set_option maxHeartbeats 1600000 in
theorem sectors_seq (F : Fence) (n : Nat) (h70 : F.fn 70) (hro : F.round = none) (hn : 1 ≤ n) (wg q : Nat) (hq : q ≤ 1024) (pl : Value) (A : Option Addr) (c : Nat) :
    MethSeq F n Try.prog 70 #[.pointer (some ⟨wg, 0, none⟩)] (fun x : Fin q => #[Value.int .i64 (64 * ((x.1 : Nat) : Int))]) (keepsAt wg) (fun xs => xs = List.finRange q) (fun pre => ∃ j, j < q ∧ pre = (List.finRange q).take (j + 1)) q
      (fun W => W.heap[wg]? = some (.cells #[pl, .slice A (64 * q) c] 111)) := by
  intro l J Jx W hG hY h0
  refine callsIn_of_wp Try.func70 rfl h70 ?_ hro
  simp only [Try.ntmps70, List.size_toArray, List.length_cons, List.length_nil, Nat.reduceAdd, Nat.reduceSub, Array.replicate_succ, Array.replicate_zero, List.push_toArray, List.append_toArray, List.nil_append, List.cons_append]
  gi_wp2
  gi_loopw [4] (fun p wr => ∃ j : Nat, j ≤ q ∧ p = .int .i64 (64 * (j : Int)) ∧ wr.heap[wg]? = some (.cells #[pl, .slice A (64 * q) c] 111) ∧ J ((List.finRange q).take j) wr) (fun p _ => 64 * q - (intOf p).toNat)
  case atStart => exact ⟨0, by omega, rfl, hG, by simpa using h0⟩
  case round =>
    obtain ⟨j, hj, rfl, hg, hJ⟩ := hrel
    have HG := Sec.mk hg
    have hc : wr.cell? ⟨wg, 1, none⟩ = some (.slice A (64 * q) c) := bk_cell hg 1
    have HJ := Sec.mk hJ
    clear hg hJ
    by_cases hlt : j < q
    · have e1 : (64 : Int) * (j : Int) < 64 * (q : Int) := by omega
      have hw : IntKind.i64.wrap (64 * (j : Int) + 64) = 64 * (j : Int) + 64 := IntWalk.i64_in _ (by omega)
      obtain ⟨fn, tmps, assign, body, hy, hR⟩ := hY _ (⟨j, hlt⟩ : Fin q) wr HJ.out (by simp; omega)
      dsimp only at hy
      have htk : (List.finRange q).take (j + 1) = (List.finRange q).take j ++ [⟨j, hlt⟩] := by
        rw [List.take_add_one]; simp [hlt]
      have HT := Sec.mk htk
      clear htk
      gi_wp2
      refine hR.mono ?_
      rintro e W3 (⟨rfl, hJ3, hk3⟩ | ⟨rfl, hJx3⟩)
      · have HJ3 := Sec.mk hJ3
        have HK3 := Sec.mk hk3
        clear hJ3 hk3
        gi_wp2
        go_roundw
        case rel => exact ⟨j + 1, by omega, by congr 1, HK3.out.trans HG.out, by rw [HT.out]; exact HJ3.out⟩
        case measure => simp [intOf]; omega
      · gi_wp2
        refine bodyPost_ret (results_none rfl _ _ _) rfl ?_
        exact ⟨⟨_, rfl⟩, .inr ⟨_, ⟨j, hlt, rfl⟩, by rw [HT.out]; exact hJx3⟩⟩
    · have e1 : ¬ (64 : Int) * (j : Int) < 64 * (q : Int) := by omega
      have hjq : j = q := by omega
      subst hjq
      gi_wp2
      go_end0
      exact ⟨⟨_, rfl⟩, .inl (by have := HJ.out; rwa [List.take_of_length_le (by simp)] at this)⟩
end Go.Proofs.Ytgnlhjphmaikkaa
