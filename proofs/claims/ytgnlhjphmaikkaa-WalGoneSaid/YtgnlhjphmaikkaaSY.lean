/- A log with its device, call by call: walk and plain law joined. Conditions: the log and its device fit. -/
import Derived.Test.YtgnlhjphmaikkaaIN
import Derived.Test.YtgnlhjphmaikkaaZF
set_option linter.unusedVariables false
set_option linter.unusedSimpArgs false
namespace Go.Proofs.Ytgnlhjphmaikkaa
open Go.RowKit

structure St (w : World) (B lg dg db : Nat) (G : PLog) (D : PDev) : Prop where
  log : LogAt w B lg dg db G D
  inv : Inv G D
section
variable {w w1 : World} {B lg dg db : Nat} {G : PLog} {D : PDev}
theorem St.base (h : St w B lg dg db G D) : B ≤ w.heap.size := by
  have := h.log.b1
  obtain ⟨_, _, g, _⟩ := h.log.ex
  have := bk_lt g
  omega
theorem St.below (h : St w B lg dg db G D) (hb : Below w.heap.size w w1) : St w1 B lg dg db G D := ⟨h.log.below hb, h.inv⟩
theorem St.plow (h : St w B lg dg db G D) : ∀ b t, Pwal lg dg db B b t → B ≤ b := fun b t hp => by
  rcases hp with (⟨rfl, _⟩ | ⟨h, _⟩) | ⟨rfl, _⟩ | ⟨rfl, _⟩
  · exact h.log.b1
  · exact h
  · exact h.log.b2
  · exact h.log.b3
theorem S_append (h : St w B lg dg db G D) (ok : Nat → Prop) (r : PRec) (vt vd : Value) (HR : RecSl w ok r vt vd) (hwf : r.wf) (hn1 : r.txns.length ≤ 1000000) (hn2 : r.dirty.length ≤ 1000000) :
    Calls Try.prog 12 #[.pointer (some ⟨lg, 0, none⟩), .agg (rcs r vt vd).toArray] w fun e w' => e = .returned (.int .i64 (joinP G r (G.room D.b.length : Nat)).2) ∧ St w' B lg dg db (joinP G r (G.room D.b.length : Nat)).1 D ∧ Kept (Plg lg B) w w' ∧ Below B w w' :=
  (Append_any h.log ok r vt vd HR hwf hn1 hn2).mono fun e w' ⟨h1, h2, h3⟩ => ⟨h1, ⟨h2, h.inv.join r hwf _ (Int.le_refl _)⟩, h3, h3.low h.base (Plg_low h.log.b1)⟩
theorem S_spend (h : St w B lg dg db G D) (ok : Nat → Prop) (r : PRec) (vt vd : Value) (HR : RecSl w ok r vt vd) (hwf : r.wf) (hn1 : r.txns.length ≤ 1000000) (hn2 : r.dirty.length ≤ 1000000) :
    Calls Try.prog 33 #[.pointer (some ⟨lg, 0, none⟩), .agg (rcs r vt vd).toArray] w fun e w' => e = .returned (.int .i64 (spendP G r).2) ∧ St w' B lg dg db (spendP G r).1 D ∧ Kept (Plg lg B) w w' ∧ Below B w w' :=
  (Spend_any h.log ok r vt vd HR hwf hn1 hn2).mono fun e w' ⟨h1, h2, h3⟩ => ⟨h1, ⟨h2, h.inv.spend r hwf⟩, h3, h3.low h.base (Plg_low h.log.b1)⟩
theorem S_keep (h : St w B lg dg db G D) (i : Int) (hi : i < 9223372036854775808) :
    Calls Try.prog 29 #[.pointer (some ⟨lg, 0, none⟩), .int .i64 i] w fun e w' => e = .returned (.int .i64 (keepP G D.b.length i).2) ∧ St w' B lg dg db (keepP G D.b.length i).1 D ∧ Kept (Plg lg B) w w' ∧ Below B w w' :=
  (Keep_any h.log i hi).mono fun e w' ⟨h1, h2, h3⟩ => ⟨h1, ⟨h2, h.inv.keep i⟩, h3, h3.low h.base (Plg_low h.log.b1)⟩
/-- What a forcing answers, and leaves. -/
def forceA (G : PLog) : Bool := decide (G.flies = 0 ∧ G.stable < G.l.length)
def forceG' (G : PLog) : PLog := if G.flies = 0 ∧ G.stable < G.l.length then forceG G else G
def forceD' (G : PLog) (D : PDev) : PDev := if G.flies = 0 ∧ G.stable < G.l.length then forceD G D else D
theorem S_force (h : St w B lg dg db G D) :
    Calls Try.prog 13 #[.pointer (some ⟨lg, 0, none⟩)] w fun e w' => e = .returned (.bool (forceA G)) ∧ St w' B lg dg db (forceG' G) (forceD' G D) ∧ Kept (Pwal lg dg db B) w w' ∧ Below B w w' := by
  by_cases hc : G.flies = 0 ∧ G.stable < G.l.length
  · have e1 : forceA G = true := decide_eq_true hc
    have e2 : forceG' G = forceG G := if_pos hc
    have e3 : forceD' G D = forceD G D := if_pos hc
    rw [e1, e2, e3]
    exact (Force_any h.log hc.1 hc.2 (h.inv.idle hc.1) h.inv.mod).mono fun e w' ⟨h1, h2, h3⟩ => ⟨h1, ⟨h2, h.inv.force hc.1 hc.2⟩, h3, h3.low h.base h.plow⟩
  · have e1 : forceA G = false := decide_eq_false hc
    have e2 : forceG' G = G := if_neg hc
    have e3 : forceD' G D = D := if_neg hc
    rw [e1, e2, e3]
    exact (Force_no h.log (by have := h.inv.ok.stable; omega)).mono fun e w' ⟨h1, h2⟩ => ⟨h1, h.below h2, Kept.of h2, h2.mono h.base⟩
def doneG (G : PLog) : PLog := if G.flies = 0 then G else if G.twice then done2G G else done1G G
def doneD (G : PLog) (D : PDev) : PDev := if G.flies = 0 then D else if G.twice then D.fin G.hand 0 (markOf G.marked) (-1) else done1D G D (64 + G.at0) ((fillTo (framesOf (G.l.take G.flies))).drop G.at0)
theorem S_done (h : St w B lg dg db G D) :
    Calls Try.prog 14 #[.pointer (some ⟨lg, 0, none⟩)] w fun e w' => (∃ x, e = .returned (.int .i64 x)) ∧ St w' B lg dg db (doneG G) (doneD G D) ∧ Kept (Pwal lg dg db B) w w' ∧ Below B w w' := by
  by_cases hf : G.flies = 0
  · have e2 : doneG G = G := if_pos hf
    have e3 : doneD G D = D := if_pos hf
    rw [e2, e3]
    exact (Done_none h.log hf).mono fun e w' ⟨h1, h2⟩ => ⟨⟨_, h1⟩, h2 ▸ h, h2 ▸ Kept.refl _ _, h2 ▸ Below.refl _ _⟩
  · have hf' : 0 < G.flies := by omega
    cases ht : G.twice with
    | false =>
      have e2 : doneG G = done1G G := by unfold doneG; rw [if_neg hf, ht]; rfl
      have e3 : doneD G D = done1D G D (64 + G.at0) ((fillTo (framesOf (G.l.take G.flies))).drop G.at0) := by unfold doneD; rw [if_neg hf, ht]; rfl
      rw [e2, e3]
      exact (Done_first h.log hf' ht _ _ (h.inv.recs hf' ht).2.1 h.inv.big).mono fun e w' ⟨h1, h2, h3⟩ => ⟨⟨_, h1⟩, ⟨h2, h.inv.done1 hf' ht⟩, h3, h3.low h.base h.plow⟩
    | true =>
      have e2 : doneG G = done2G G := by unfold doneG; rw [if_neg hf, ht]; rfl
      have e3 : doneD G D = D.fin G.hand 0 (markOf G.marked) (-1) := by unfold doneD; rw [if_neg hf, ht]; rfl
      rw [e2, e3]
      exact (Done_second h.log hf' ht _ _ (h.inv.mark hf' ht).1).mono fun e w' ⟨h1, h2, h3⟩ => ⟨⟨_, h1⟩, ⟨h2, h.inv.done2 hf' ht⟩, h3, h3.low h.base h.plow⟩
theorem S_crash (h : St w B lg dg db G D) (s : Int) :
    Calls Try.prog 15 #[.pointer (some ⟨dg, 0, none⟩), .int .i64 (G.hand : Nat), .int .i64 s] w fun e w' => (∃ x, e = .returned (.int .i64 x)) ∧ DevAt w' dg db (crashD G D s) ∧ Kept (Pwal lg dg db B) w w' ∧ Below B w w' := by
  have hh := h.inv.ok.hand
  have hup : ∃ u, D.up[G.hand]? = some u := ⟨_, List.getElem?_eq_getElem (by rw [h.inv.ups]; exact hh)⟩
  obtain ⟨u, hu⟩ := hup
  cases u with
  | none =>
    have e : crashD G D s = D := by unfold crashD; rw [hu]
    rw [e]
    exact (Crash_none dg db D G.hand s w h.log.dev hh hu).mono fun e w' ⟨h1, h2⟩ => ⟨⟨_, h1⟩, h.log.dev.below h2, Kept.of h2, h2.mono h.base⟩
  | some x =>
    obtain ⟨pl, bs⟩ := x
    have e : crashD G D s = D.fin G.hand pl bs (max s 0) := by unfold crashD; rw [hu]
    rw [e]
    exact (Crash_any dg db D G.hand pl bs s w h.log.dev hh hu).mono fun e w' ⟨h1, h2, h3⟩ => ⟨⟨_, h1⟩, h2, h3.mono (fun b t hp => .inr hp), (h3.mono (fun b t hp => .inr hp)).low h.base h.plow⟩
end
/-- A new device, and a log on it. -/
theorem dev0_inv (n hand : Nat) (hn : 64 ≤ n) (hf : n ≤ 65536) (hm : n % 64 = 0) (hh : hand < 8) : Inv (openP (dev0 n).b hand) (dev0 n) := by
  have h0 : toldOf (dev0 n).b = 0 := toldOf_zero n (by omega)
  exact (Inv.opened (l := []) hand hh (by rw [dev0_len]; exact hm) (by rw [dev0_len]; exact hn) (by rw [dev0_len]; exact hf) Good.nil ⟨h0, by simp [sizeOfL, framesOf]⟩ (dev0_up n hand hh) (by simp [dev0])).1
theorem S_open (B dg db hand : Nat) (D : PDev) (w : World) (h : DevAt w dg db D) (hh : hand < 8) (hi : Inv (openP D.b hand) D) (hB : B ≤ w.heap.size) (hd1 : B ≤ dg) (hd2 : B ≤ db) :
    Calls Try.prog 10 #[.pointer (some ⟨dg, 0, none⟩), .int .i64 (hand : Nat)] w fun e w' => ∃ lg, e = .returned (.tuple #[.pointer (some ⟨lg, 0, none⟩), .int .i64 0]) ∧ St w' B lg dg db (openP D.b hand) D ∧ Below w.heap.size w w' ∧ w.heap.size ≤ lg :=
  (Open_ok B dg db D hand w h hi.big hh (hi.idle rfl) hB hd1 hd2).mono fun e w' ⟨lg, h1, h2, h3, h4⟩ => ⟨lg, h1, ⟨h2, hi⟩, h3, h4⟩
end Go.Proofs.Ytgnlhjphmaikkaa
