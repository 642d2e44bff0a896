/- A region that draws, enters nothing, and only its last operations write: inside a round. Conditions: none. -/
import Derived.Test.YtgnlhjphmaikkaaQ
import Derived.StillTailTactics
import Derived.OrdersIn
set_option linter.unusedVariables false
set_option linter.unusedSimpArgs false
namespace Go.Proofs.Ytgnlhjphmaikkaa
open Go.RowKit Go.Shelf

def noEnter : Result Next → Prop
  | .ok (.enter ..) _ => False
  | .ok (.row ..) _ => False
  | .ok (.round ..) _ => False
  | .ok (.defer ..) _ => False
  | _ => True
def calm (P : Program) (o : Oper) : Prop := (∀ c, o.op ≠ .defer c) ∧ ∀ (ρ : Operand → Value) (w : World), noEnter ((execOp ρ o).run P w)
section
variable {F : Fence} {n : Nat} {P : Program} {ops : Array Oper} {Q : Exit → Act → World → Prop} {md : Region.Mode}
theorem opIn_of_op {o : Oper} (hF : ∀ f, F.fn f) (hc : calm P o) {a : Act} {w : World} {K K' : Act → World → Prop} (hk : ∀ a w, K a w → K' a w) (h : o.wp P a w K Q) : o.wpIn F n P a w K' Q := by
  refine ⟨fun f _ => hF f, ?_⟩
  have e : o.semAt F.round a.eval = execOp a.eval o := by
    cases hr : F.round with
    | none => rfl
    | some l => exact Oper.semAt_some l _ _ hc.1
  rw [e]
  have h1 := hc.2 a.eval w
  unfold Oper.wp at h
  generalize (execOp a.eval o).run P w = r at *
  cases r with
  | ok x w' => cases x <;> first | exact hk _ _ h | exact h1.elim | exact h.elim
  | halt x w' => cases x <;> first | exact h | exact h.elim
theorem anyIn_of_any (hL : ¬ LetsOut Q) (hF : ∀ f, F.fn f) (hc : ∀ (i : Nat) (o : Oper), ops[i]? = some o → calm P o) : ∀ (fuel : Nat) (listed : Array Bool) (a : Act) (w : World), wpAny P md ops Q fuel listed a w → wpAnyIn F n P md ops Q fuel listed a w
  | 0, _, _, _, h => h
  | fuel + 1, listed, a, w, h => ⟨h.1, fun i hi => by
    have h2 := h.2 i hi
    unfold wpOp at h2
    unfold wpOpIn
    cases ho : ops[i]? with
    | none => simp only [ho] at h2 ⊢; exact anyIn_of_any hL hF hc fuel _ a w h2
    | some o =>
      simp only [ho] at h2 ⊢
      split
      · rename_i hw
        rw [if_pos hw] at h2
        exact opIn_of_op hF (hc i o ho) (fun a w h => anyIn_of_any hL hF hc fuel _ a w h) (h2.resolve_right (fun h => hL h.2))
      · rename_i hw
        rw [if_neg hw] at h2
        exact ⟨fun f _ => hF f, anyIn_of_any hL hF hc fuel _ _ w h2⟩⟩
theorem regionIn_still_tail {id : Nat} {a : Act} {w : World} {l : List Oper} (n' : Nat) (hL : ¬ LetsOut Q) (hF : ∀ f, F.fn f) (hcalm : ∀ o, o ∈ l → calm P o) (hm : P.follows .mixedOrders = true) (hB : Region.lexTailB .any l.toArray n' = true)
    (h : wpStill P l.toArray { w with drawn := w.drawn + 1 } (fun a' => wpList P l.toArray Q (l.drop n') a' { w with drawn := w.drawn + 1 }) (l.take n') a) : (Code.region id l.toArray true).wpIn F n P Q a w := by
  simp only [Region.lexTailB, Bool.and_eq_true, decide_eq_true_eq] at hB
  obtain ⟨⟨⟨⟨h1, h2⟩, h3⟩, h4⟩, h5⟩ := hB
  have ht : (l.take n').length = n' := by have : n' < l.length := by simpa using h2
                                          simp; omega
  have hd : (l.drop n').length = l.toArray.size - n' := by simp
  have hi : HeadInv .any l.toArray n' (Array.replicate l.toArray.size false) :=
    ⟨by simp, fun j oj _ hl => (by rw [getD_replicate_false] at hl; cases hl), fun t _ ht => getD_in (by simpa using ht) (getD_replicate_false _ _)⟩
  have H := wpAnyL_lex (md := .any) (g := l.toArray.size - n') h1 h3 h4 h2 (l.take n') 0 _ a (fun j hj => by
    have hj' : j < n' := by rw [ht] at hj; exact hj
    simp [hj']) (by simpa using ht) hi (by rw [ht]; exact h5) h
  refine wpIn_region_any hm (anyIn_of_any hL hF (fun i o ho => hcalm o (by simpa using List.mem_of_getElem? (by simpa using ho))) _ _ _ _ ?_)
  have H2 := wpAny_of_head (Q' := Q) (g := l.toArray.size - n') (fun listed a' hL => by
    have := wpAny_of_seq (md := .any) (Q' := Q) (l.drop n') n' listed a' { w with drawn := w.drawn + 1 } (fun j => by simp [List.getElem?_drop]) (by rw [hd]; exact hL.1) hL.2
    rwa [hd] at this) _ _ _ H
  rw [ht, show n' + (l.toArray.size - n') = l.toArray.size by have : n' < l.toArray.size := h2
                                                              omega] at H2
  exact H2
end
end Go.Proofs.Ytgnlhjphmaikkaa
