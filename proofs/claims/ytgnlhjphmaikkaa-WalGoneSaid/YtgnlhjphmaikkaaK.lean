/- Package rec, walked: Frame. Conditions: the record's slices read, its numbers are of their kinds. -/
import Derived.Test.YtgnlhjphmaikkaaJ
import Derived.Test.YtgnlhjphmaikkaaC
set_option linter.unusedVariables false
set_option linter.unusedSimpArgs false
namespace Go.Proofs.Ytgnlhjphmaikkaa
open Go.RowKit

/-- A record's frame. -/
def frame (r : PRec) : List UInt8 := sealed (le (body r).length 2 ++ body r)
theorem frame_length (r : PRec) : (frame r).length = (body r).length + 6 := by simp [frame, sealed, le_length]; omega

set_option maxRecDepth 100000 in
set_option maxHeartbeats 1600000 in
theorem Frame_no (ok : Nat → Prop) (r : PRec) (vt vd : Value) (w : World) (H : RecSl w ok r vt vd) (hn1 : r.txns.length ≤ 1000000) (hn2 : r.dirty.length ≤ 1000000) (hm : ¬ r.may) :
    Calls Try.prog 67 #[.agg (rcs r vt vd).toArray] w fun e w' => e = .returned (.tuple #[.slice none 0 0, .int .i64 1]) ∧ Below w.heap.size w w' := by
  have HC := Sec.mk (Encode_no ok r vt vd (w.alloc (.cells (rcs r vt vd).toArray 41)) (H.below ((Below.refl _ _).alloc (Nat.le_refl _) (.cells (rcs r vt vd).toArray 41))) hn1 hn2 hm)
  obtain ⟨A1, c1, rfl, hc1⟩ : ∃ A c, vt = .slice A r.txns.length c ∧ r.txns.length ≤ c := by obtain ⟨_, _, A, c, e, h, _⟩ := H.t; exact ⟨A, c, e, h⟩
  obtain ⟨A2, c2, rfl, hc2⟩ : ∃ A c, vd = .slice A r.dirty.length c ∧ r.dirty.length ≤ c := by obtain ⟨_, _, A, c, e, h, _⟩ := H.d; exact ⟨A, c, e, h⟩
  clear H hm
  simp only [rcs] at HC
  go_enter Try.func67, Try.ntmps67
  simp only [rcs]
  go_wp2_with (go_at_call 82; refine HC.out.mono ?_; rintro e w1 ⟨rfl, hb1⟩)
  go_ret2
  exact ⟨rfl, ((Below.refl _ _).alloc (Nat.le_refl _) _).trans (hb1.mono (by simp))⟩

set_option maxRecDepth 100000 in
set_option maxHeartbeats 1600000 in
theorem Frame_any (ok : Nat → Prop) (r : PRec) (vt vd : Value) (w : World) (H : RecSl w ok r vt vd) (hm : r.may) (hw : r.wf) :
    Calls Try.prog 67 #[.agg (rcs r vt vd).toArray] w fun e w' => ∃ v', e = .returned (.tuple #[v', .int .i64 0]) ∧ w'.ownsRow w.heap.size 5 1 v' (frame r).length (bv (frame r)) ∧ Below w.heap.size w w' := by
  have HC := Sec.mk (Encode_any ok r vt vd (w.alloc (.cells (rcs r vt vd).toArray 41)) (H.below ((Below.refl _ _).alloc (Nat.le_refl _) (.cells (rcs r vt vd).toArray 41))) hm hw)
  have hbl := body_length r hm
  obtain ⟨A1, c1, rfl, hc1⟩ : ∃ A c, vt = .slice A r.txns.length c ∧ r.txns.length ≤ c := by obtain ⟨_, _, A, c, e, h, _⟩ := H.t; exact ⟨A, c, e, h⟩
  obtain ⟨A2, c2, rfl, hc2⟩ : ∃ A c, vd = .slice A r.dirty.length c ∧ r.dirty.length ≤ c := by obtain ⟨_, _, A, c, e, h, _⟩ := H.d; exact ⟨A, c, e, h⟩
  have HF : Sec (frame r = sealed (le (body r).length 2 ++ body r)) := ⟨rfl⟩
  clear H hm hw
  simp only [rcs] at HC
  go_enter Try.func67, Try.ntmps67
  simp only [rcs]
  generalize body r = bd at *
  go_wp2_with (go_at_call 82; refine HC.out.mono ?_; rintro e w1 ⟨v1, rfl, hr1, hb1⟩; obtain ⟨A3, c3, rfl⟩ := row_shape hr1)
  refine (New_any _).mono ?_
  rintro e w2 ⟨rfl, hw2, hb2⟩
  go_wp2_with fail
  refine (Two_go w1.heap.size w1.heap.size bd.length (by omega) [] _ (by simp) hw2).mono ?_
  rintro e w3 ⟨rfl, hw3, hb3⟩
  have hB3 : Below w1.heap.size w1 w3 := hb2.trans hb3.bel
  go_wp2_with fail
  refine (Done_any _ _ _ _ (by simp [le_length]) hw3).mono ?_
  rintro e w4 ⟨v4, rfl, hr4, hb4⟩
  rw [List.nil_append] at hr4
  obtain ⟨A4, c4, rfl⟩ := row_shape hr4
  have hB4 : Below w1.heap.size w1 w4 := hB3.trans (hb4.mono hB3.size)
  have hS4 := Sec.mk ((Sl.of_row_bv hr1 (by omega)).below hB4)
  have hle : (le bd.length 2).length ≤ 2 := by rw [le_length]; omega
  generalize le bd.length 2 = pre at *
  obtain ⟨pb, HPB⟩ : ∃ pb, Sec (pre ++ bd = pb) := ⟨_, ⟨rfl⟩⟩
  have hlp : pb.length ≤ 1000000 := by rw [← HPB.out]; simp; omega
  go_wp2_with (refine list_app_b w3.heap.size rfl (.tmp 22) (.tmp 23) rfl (.slice A4 pre.length c4) rfl (.slice A3 bd.length c3) rfl pre bd hr4 _ (bv bd) hS4.out rfl hb4.size (by omega) pb HPB.out ?_; intro A5 c5 w5 hr5 hg5 hb5)
  have hr5' := Sl.of_row_bv hr5 (by omega)
  refine (Seal_any _ _ pb _ hlp hr5').mono ?_
  rintro e w6 ⟨v6, rfl, hr6, hb6⟩
  obtain ⟨A6, c6, rfl⟩ := row_shape hr6
  obtain ⟨sn, HSN⟩ : ∃ sn, Sec ((sealed pb).length = sn) := ⟨_, ⟨rfl⟩⟩
  rw [HSN.out] at hr6 ⊢
  go_wp2
  go_ret2
  have hs1 := hb1.size
  have hs3 := hB3.size
  have hs4 := hb4.size
  have hs5 := hb5.size
  rw [World.size_alloc] at hs1
  have hbm1 : Below w.heap.size _ w1 := hb1.mono (by simp)
  have hbm4 : Below w.heap.size w1 w4 := hB4.mono (by omega)
  have hbm5 : Below w.heap.size w4 w5 := hb5.mono (by omega)
  have hbm6 : Below w.heap.size w5 w6 := hb6.mono (by omega)
  refine ⟨.slice A6 sn c6, rfl, ?_, ((((Below.refl _ _).alloc (Nat.le_refl _) _).trans hbm1).trans hbm4).trans (hbm5.trans hbm6)⟩
  rw [HF.out, HPB.out, HSN.out]
  exact row_lower hr6 (by omega)
end Go.Proofs.Ytgnlhjphmaikkaa
