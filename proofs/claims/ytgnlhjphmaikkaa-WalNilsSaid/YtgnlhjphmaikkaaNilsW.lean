/- WalNils, walked: it answers true. Conditions: none on what it is handed. -/
import Derived.Test.YtgnlhjphmaikkaaZF
set_option linter.unusedVariables false
set_option linter.unusedSimpArgs false
namespace Go.Proofs.Ytgnlhjphmaikkaa
open Go.RowKit

set_option maxRecDepth 100000 in
set_option maxHeartbeats 800000 in
theorem Find_zero (l : Int) (w : World) : Calls Try.prog 36 #[.pointer none, .int .u64 l] w fun e w' => e = .returned (.tuple #[.agg cell12.toArray, .bool false]) ∧ Below w.heap.size w w' := by
  have hb : Below w.heap.size w (((w.alloc (.cells #[.pointer none] 28)).alloc (.cells #[.int .u64 l] 34)).alloc zero12) := (((Below.refl _ _).alloc (Nat.le_refl _) _).alloc (by simp) _).alloc (by simp; omega) _
  have hn := bk_new ((w.alloc (.cells #[.pointer none] 28)).alloc (.cells #[.int .u64 l] 34)) zero12
  rw [World.size_alloc, World.size_alloc] at hn
  have HB := Sec.mk hb
  have HN := Sec.mk hn
  clear hb hn
  unfold zero12 at HB HN
  simp only [rcs, noAct] at HB HN
  go_enter Try.func36, Try.ntmps36
  go_wp2_with (refine wpList_store_row rfl 41 _ _ rfl (w.heap.size + 1 + 1) _ rfl rfl 41 _ HN.out (size41.trans rfl) rfl (by simp [Value.oneCell']) ?_)
  refine bodyPost_ret (res36 _ _ (w.heap.size + 1 + 1) _ _ rfl rfl (setRow_heap _ _ _ _ _ _ HN.out) (size41.trans rfl)) rfl ⟨rfl, ?_⟩
  exact below_setRow HB.out (by omega) _

set_option maxRecDepth 100000 in
set_option maxHeartbeats 1600000 in
theorem WalNils_any (hand l : Int) (r : PRec) (vt vd : Value) (w : World) (hs : (∃ A c, vt = .slice A r.txns.length c) ∧ ∃ A c, vd = .slice A r.dirty.length c) :
    Calls Try.prog 7 #[.int .i64 hand, .agg (rcs r vt vd).toArray, .int .u64 l] w fun e w' => e = .returned (.bool true) ∧ Below w.heap.size w w' := by
  have HSH := Sec.mk hs
  obtain ⟨⟨A1, c1, rfl⟩, A2, c2, rfl⟩ := hs
  have hbx := bk_new w (.cells (rcs r (.slice A1 r.txns.length c1) (.slice A2 r.dirty.length c2)).toArray 41)
  have hb0 := (Below.refl w.heap.size w).alloc (Nat.le_refl _) (.cells (rcs r (.slice A1 r.txns.length c1) (.slice A2 r.dirty.length c2)).toArray 41)
  have HB := Sec.mk (And.intro hbx hb0)
  clear hbx hb0
  simp only [rcs] at HB
  have HLI : Sec (∀ W : World, Calls Try.prog 11 #[.agg (rcs r (.slice A1 r.txns.length c1) (.slice A2 r.dirty.length c2)).toArray] W fun e w' => e = .returned (.bool (lightB r)) ∧ Below W.heap.size W w') := ⟨fun W => light_any r _ _ W HSH.out⟩
  have HAP : Sec (∀ W : World, Calls Try.prog 12 #[.pointer none, .agg (rcs r (.slice A1 r.txns.length c1) (.slice A2 r.dirty.length c2)).toArray] W fun e w' => e = .returned (.int .i64 1) ∧ Below W.heap.size W w') := ⟨fun W => Append_nil r _ _ W HSH.out⟩
  have HSP : Sec (∀ W : World, Calls Try.prog 33 #[.pointer none, .agg (rcs r (.slice A1 r.txns.length c1) (.slice A2 r.dirty.length c2)).toArray] W fun e w' => e = .returned (.int .i64 1) ∧ Below W.heap.size W w') := ⟨fun W => Spend_nil r _ _ W HSH.out⟩
  simp only [rcs] at HLI HAP HSP
  have HN64 := fun W : World => New8 64 W (by omega) (by omega)
  rw [show ((64 : Nat) : Int) = 64 from rfl] at HN64
  go_enter Try.func7, Try.ntmps7
  simp only [rcs]
  go_upto_region 1 with fail
  generalize w.alloc _ = W0 at *
  have HBX : Sec (∀ W : World, Below W0.heap.size W0 W → W.heap[w.heap.size]? = some (.cells (rcs r (.slice A1 r.txns.length c1) (.slice A2 r.dirty.length c2)).toArray 41)) := ⟨fun W h => bk_below HB.out.1 h (bk_lt HB.out.1)⟩
  have HC := Sec.mk (Below.refl W0.heap.size W0)
  obtain ⟨Lb, HLb⟩ : ∃ Lb, Sec (lightB r = Lb) := ⟨_, ⟨rfl⟩⟩
  rw [HLb.out] at HLI
  obtain ⟨q0, q1, q2, q3, q4, q5, q6, q7, q8, q9, q10, q11⟩ := box12 (HBX.out _ HC.out)
  cases Lb with
  | false =>
    go_wp2_with (first
      | (go_at_call 10; refine (Open_nil _ _).mono ?_; rintro e w1 ⟨rfl, rfl⟩)
      | (go_at_call 21; refine (WRead_nil _).mono ?_; rintro e w1 ⟨v1, rfl, g1, g2⟩; obtain ⟨A3, c3, rfl⟩ := row_shape (g1.ex.choose_spec.2.1); clear g1; have HC2 := Sec.mk (HC.out.trans (g2.mono HC.out.size)); clear HC q0 q1 q2 q3 q4 q5 q6 q7 q8 q9 q10 q11; have HC := HC2; obtain ⟨q0, q1, q2, q3, q4, q5, q6, q7, q8, q9, q10, q11⟩ := box12 (HBX.out _ HC.out); clear HC2 g2)
      | (go_at_call 11; refine (HLI.out _).mono ?_; rintro e w1 ⟨rfl, g2⟩; have HC2 := Sec.mk (HC.out.trans (g2.mono HC.out.size)); clear HC q0 q1 q2 q3 q4 q5 q6 q7 q8 q9 q10 q11; have HC := HC2; obtain ⟨q0, q1, q2, q3, q4, q5, q6, q7, q8, q9, q10, q11⟩ := box12 (HBX.out _ HC.out); clear HC2 g2)
      | (go_at_call 9; refine (lives_any _).mono ?_; rintro e w1 ⟨rfl, g2⟩; have HC2 := Sec.mk (HC.out.trans (g2.mono HC.out.size)); clear HC q0 q1 q2 q3 q4 q5 q6 q7 q8 q9 q10 q11; have HC := HC2; obtain ⟨q0, q1, q2, q3, q4, q5, q6, q7, q8, q9, q10, q11⟩ := box12 (HBX.out _ HC.out); clear HC2 g2))
    go_ret
    exact ⟨rfl, HB.out.2.trans (HC.out.mono HB.out.2.size)⟩
  | true =>
    go_upto_region 5 with (first
      | (go_at_call 10; refine (Open_nil _ _).mono ?_; rintro e w1 ⟨rfl, rfl⟩)
      | (go_at_call 21; refine (WRead_nil _).mono ?_; rintro e w1 ⟨v1, rfl, g1, g2⟩; obtain ⟨A3, c3, rfl⟩ := row_shape (g1.ex.choose_spec.2.1); clear g1; have HC2 := Sec.mk (HC.out.trans (g2.mono HC.out.size)); clear HC q0 q1 q2 q3 q4 q5 q6 q7 q8 q9 q10 q11; have HC := HC2; obtain ⟨q0, q1, q2, q3, q4, q5, q6, q7, q8, q9, q10, q11⟩ := box12 (HBX.out _ HC.out); clear HC2 g2)
      | (go_at_call 11; refine (HLI.out _).mono ?_; rintro e w1 ⟨rfl, g2⟩; have HC2 := Sec.mk (HC.out.trans (g2.mono HC.out.size)); clear HC q0 q1 q2 q3 q4 q5 q6 q7 q8 q9 q10 q11; have HC := HC2; obtain ⟨q0, q1, q2, q3, q4, q5, q6, q7, q8, q9, q10, q11⟩ := box12 (HBX.out _ HC.out); clear HC2 g2)
      | (go_at_call 36; refine (Find_zero _ _).mono ?_; rintro e w1 ⟨rfl, g2⟩; simp only [cell12]; have HC2 := Sec.mk (HC.out.trans (g2.mono HC.out.size)); clear HC q0 q1 q2 q3 q4 q5 q6 q7 q8 q9 q10 q11; have HC := HC2; obtain ⟨q0, q1, q2, q3, q4, q5, q6, q7, q8, q9, q10, q11⟩ := box12 (HBX.out _ HC.out); clear HC2 g2))
    have HC2 := Sec.mk (HC.out.alloc HC.out.size (.cells cell12.toArray 41))
    simp only [cell12] at HC2
    clear HC q0 q1 q2 q3 q4 q5 q6 q7 q8 q9 q10 q11
    generalize w1.alloc _ = W5 at *
    have HC := HC2
    clear HC2
    obtain ⟨q0, q1, q2, q3, q4, q5, q6, q7, q8, q9, q10, q11⟩ := box12 (HBX.out _ HC.out)
    go_upto_region 11 with (first
      | (go_at_call 12; refine (HAP.out _).mono ?_; rintro e w1 ⟨rfl, g2⟩; have HC2 := Sec.mk (HC.out.trans (g2.mono HC.out.size)); clear HC q0 q1 q2 q3 q4 q5 q6 q7 q8 q9 q10 q11; have HC := HC2; obtain ⟨q0, q1, q2, q3, q4, q5, q6, q7, q8, q9, q10, q11⟩ := box12 (HBX.out _ HC.out); clear HC2 g2)
      | (go_at_call 33; refine (HSP.out _).mono ?_; rintro e w1 ⟨rfl, g2⟩; have HC2 := Sec.mk (HC.out.trans (g2.mono HC.out.size)); clear HC q0 q1 q2 q3 q4 q5 q6 q7 q8 q9 q10 q11; have HC := HC2; obtain ⟨q0, q1, q2, q3, q4, q5, q6, q7, q8, q9, q10, q11⟩ := box12 (HBX.out _ HC.out); clear HC2 g2)
      | (go_at_call 13; refine (Force_nil _).mono ?_; rintro e w1 ⟨rfl, g2⟩; have HC2 := Sec.mk (HC.out.trans (g2.mono HC.out.size)); clear HC q0 q1 q2 q3 q4 q5 q6 q7 q8 q9 q10 q11; have HC := HC2; obtain ⟨q0, q1, q2, q3, q4, q5, q6, q7, q8, q9, q10, q11⟩ := box12 (HBX.out _ HC.out); clear HC2 g2)
      | (go_at_call 35; refine (LFlying_nil _).mono ?_; rintro e w1 ⟨rfl, g2⟩; have HC2 := Sec.mk (HC.out.trans (g2.mono HC.out.size)); clear HC q0 q1 q2 q3 q4 q5 q6 q7 q8 q9 q10 q11; have HC := HC2; obtain ⟨q0, q1, q2, q3, q4, q5, q6, q7, q8, q9, q10, q11⟩ := box12 (HBX.out _ HC.out); clear HC2 g2)
      | (go_at_call 29; refine (Keep_nil _ _).mono ?_; rintro e w1 ⟨rfl, rfl⟩)
      | (go_at_call 14; refine (Done_nil _).mono ?_; rintro e w1 ⟨rfl, rfl⟩)
      | (go_at_call 30; refine (Room_nil _).mono ?_; rintro e w1 ⟨rfl, rfl⟩)
      | (go_at_call 31; refine (Kept_nil _).mono ?_; rintro e w1 ⟨rfl, rfl⟩)
      | (go_at_call 16; refine (Records_nil _).mono ?_; rintro e w1 ⟨rfl, rfl⟩)
      | (go_at_call 25; refine (Stable_nil _).mono ?_; rintro e w1 ⟨rfl, rfl⟩)
      | (go_at_call 32; refine (Last_nil _).mono ?_; rintro e w1 ⟨rfl, rfl⟩)
      | (go_at_call 37; refine (Drop_nil _ _).mono ?_; rintro e w1 ⟨rfl, rfl⟩)
      | (go_at_call 8; refine (HN64 _).mono ?_; rintro e w1 ⟨dg, db, rfl, g1, g3, g4, g2⟩; have HD := Sec.mk g1; have hdg : W0.heap.size ≤ dg := (by have := HC.out.size; omega); have HDG := Sec.mk hdg; clear g1 g3 g4 hdg; have HC2 := Sec.mk (HC.out.trans (g2.mono HC.out.size)); clear HC q0 q1 q2 q3 q4 q5 q6 q7 q8 q9 q10 q11; have HC := HC2; obtain ⟨q0, q1, q2, q3, q4, q5, q6, q7, q8, q9, q10, q11⟩ := box12 (HBX.out _ HC.out); clear HC2 g2))
    clear q0 q1 q2 q3 q4 q5 q6 q7 q8 q9 q10 q11
    have hmk := fun W : World => run_make_row' (P := Try.prog) 51 5 (.int .u8 0) 1 Try.underlying51 Try.info5 rfl .i64 .i64 64 (by omega) (by omega) W
    rw [show ((64 : Nat) : Int) = 64 from rfl] at hmk
    have hm : madeCells #[Value.int .u8 0] 64 = (bv (List.replicate 64 0)).toArray := by
      apply Array.ext'; rw [toList_madeCells_one]; simp [bv]
    have HM := Sec.mk hm
    have HMK := Sec.mk hmk
    clear hm
    have hd2 := HD.out.below ((Below.refl _ _).alloc (Nat.le_refl _) (.cells (madeCells #[Value.int .u8 0] 64) 5))
    have hnb := bk_new w1 (.cells (madeCells #[Value.int .u8 0] 64) 5)
    rw [HM.out] at hnb
    have hsl : Sl (w1.alloc (.cells (madeCells #[Value.int .u8 0] 64) 5)) (fun b => b = w1.heap.size) 1 (.slice (some ⟨w1.heap.size, 0, none⟩) 64 64) (List.replicate 64 (0 : UInt8)).length (bv (List.replicate 64 0)) := by
      rw [HM.out]
      have := sl_box w1.heap.size 1 64 hnb (by simp [bv]) (by omega)
      simpa using this
    have HX := Sec.mk (And.intro hd2 (And.intro hsl (HC.out.alloc HC.out.size (.cells (madeCells #[Value.int .u8 0] 64) 5))))
    clear hd2 hnb hsl
    by_cases hh : 0 ≤ hand ∧ hand < 8
    · obtain ⟨hh0, hh8⟩ := hh
      obtain ⟨k, rfl⟩ := Int.eq_ofNat_of_zero_le hh0
      have hk8 : k < 8 := by omega
      have hst := Start_any dg db (dev0 64) k 0 _ _ (List.replicate 64 0) _ HX.out.1 HX.out.2.1 hk8 (by omega) (by simp) (by simp) (by simp [dev0]) (dev0_up 64 k hk8)
      have HST := Sec.mk hst
      clear hst
      go_wp2_with fail
      refine HST.out.mono ?_
      rintro e w2 ⟨rfl, g1, g2⟩
      have HD2 := Sec.mk g1
      have HC2 : Sec (Below W0.heap.size W0 w2) := ⟨HX.out.2.2.trans (g2.low HX.out.2.2.size (fun b t hb => by rw [hb.1]; exact HDG.out))⟩
      clear g1 g2
      have hob := Open_busy dg db ((dev0 64).start k 0 (List.replicate 64 0)) k w2 HD2.out (by simp [dev0, PDev.start]) hk8 0 (List.replicate 64 0) (by simp only [PDev.start]; exact List.getElem?_set_self (by simp [dev0]; omega))
      have HOB := Sec.mk hob
      clear hob
      go_wp2_with (first
        | (go_at_call 10; refine HOB.out.mono ?_; rintro e w3 ⟨rfl, g2⟩; have HC3 := Sec.mk (HC2.out.trans (g2.mono HC2.out.size)); clear g2)
        | (go_at_call 9; refine (lives_any _).mono ?_; rintro e w4 ⟨rfl, g2⟩; have HC4 := Sec.mk (HC3.out.trans (g2.mono HC3.out.size)); clear g2))
      go_ret
      exact ⟨rfl, HB.out.2.trans (HC4.out.mono HB.out.2.size)⟩
    · have HOA : Sec (∀ W : World, DevAt W dg db (dev0 64) → _) := ⟨fun W h => Open_arg dg db (dev0 64) hand W h (by simp [dev0]) hh⟩
      have HSB : Sec (∀ (v : Value) (W : World), _) := ⟨fun v W => Start_bad dg hand 0 v W hh⟩
      clear hh
      go_wp2_with (first
        | (go_at_call 19; refine (HSB.out _ _).mono ?_; rintro e w2 ⟨rfl, hw2⟩
           have HD2 : Sec (DevAt w2 dg db (dev0 64)) := ⟨by rw [← hw2]; exact HX.out.1⟩
           have HC2 : Sec (Below W0.heap.size W0 w2) := ⟨by rw [← hw2]; exact HX.out.2.2⟩
           clear hw2)
        | (go_at_call 10; refine (HOA.out _ HD2.out).mono ?_; rintro e w3 ⟨rfl, rfl⟩)
        | (go_at_call 9; refine (lives_any _).mono ?_; rintro e w4 ⟨rfl, g2⟩; have HC4 := Sec.mk (HC2.out.trans (g2.mono HC2.out.size)); clear g2))
      go_ret
      exact ⟨rfl, HB.out.2.trans (HC4.out.mono HB.out.2.size)⟩
end Go.Proofs.Ytgnlhjphmaikkaa
