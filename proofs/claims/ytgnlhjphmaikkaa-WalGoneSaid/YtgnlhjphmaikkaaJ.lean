/- Package rec, walked: Encode. Conditions: the record's slices read, its numbers are of their kinds. -/
import Derived.Test.YtgnlhjphmaikkaaI
import Derived.Test.YtgnlhjphmaikkaaE
set_option linter.unusedVariables false
set_option linter.unusedSimpArgs false
namespace Go.Proofs.Ytgnlhjphmaikkaa
open Go.RowKit

theorem flat_length_tx (l : List PTxn) : (flat txnBytes l).length = 13 * l.length := by
  induction l with
  | nil => rfl
  | cons t l ih => simp [flat, txnBytes, le_length, ih]; omega
theorem flat_length_dy (l : List PDirty) : (flat dirtyBytes l).length = 10 * l.length := by
  induction l with
  | nil => rfl
  | cons t l ih => simp [flat, dirtyBytes, le_length, ih]; omega
theorem flat_snoc {α : Type} (f : α → List UInt8) (l : List α) (x : α) : flat f (l ++ [x]) = flat f l ++ f x := by
  induction l with
  | nil => simp [flat]
  | cons t l ih => simp [flat, ih]

set_option maxRecDepth 100000 in
set_option maxHeartbeats 1600000 in
theorem Encode_no (ok : Nat → Prop) (r : PRec) (vt vd : Value) (w : World) (H : RecSl w ok r vt vd) (hn1 : r.txns.length ≤ 1000000) (hn2 : r.dirty.length ≤ 1000000) (hm : ¬ r.may) :
    Calls Try.prog 82 #[.agg (rcs r vt vd).toArray] w fun e w' => e = .returned (.tuple #[.slice none 0 0, .int .i64 1]) ∧ Below w.heap.size w w' := by
  have HH := Sec.mk (H.below ((Below.refl _ _).alloc (Nat.le_refl _) (.cells (rcs r vt vd).toArray 41)))
  have HC := Sec.mk (Check_any ok r vt vd (w.alloc (.cells (rcs r vt vd).toArray 41)) HH.out hn1 hn2)
  have hbw := box12 (bk_new w (.cells (rcs r vt vd).toArray 41))
  obtain ⟨A1, c1, rfl, hc1⟩ : ∃ A c, vt = .slice A r.txns.length c ∧ r.txns.length ≤ c := by obtain ⟨_, _, A, c, e, h, _⟩ := H.t; exact ⟨A, c, e, h⟩
  obtain ⟨A2, c2, rfl, hc2⟩ : ∃ A c, vd = .slice A r.dirty.length c ∧ r.dirty.length ≤ c := by obtain ⟨_, _, A, c, e, h, _⟩ := H.d; exact ⟨A, c, e, h⟩
  clear H
  have Hm := Sec.mk hm
  clear hm
  simp only [rcs] at HC
  go_enter Try.func82, Try.ntmps82
  simp only [rcs]
  clear hbw
  go_wp2_with (go_at_call 93; refine HC.out.mono ?_; rintro e w1 ⟨k, rfl, hk, hk2, hb1⟩; obtain rfl : k = 1 := by (rcases hk2 with h | h; exact absurd (hk.1 h) Hm.out; exact h))
  go_ret2
  exact ⟨rfl, ((Below.refl _ _).alloc (Nat.le_refl _) _).trans (hb1.mono (by simp))⟩
set_option maxRecDepth 100000 in
set_option maxHeartbeats 8000000 in
theorem Encode_upd (ok : Nat → Prop) (k l t p u pg ak : Nat) (key old nw : List UInt8) (txns : List PTxn) (dirty : List PDirty) (vt vd : Value) (w : World)
    (H : RecSl w ok ⟨k, l, t, p, u, pg, ⟨ak, key, old, nw⟩, txns, dirty⟩ vt vd) (hm : (⟨k, l, t, p, u, pg, ⟨ak, key, old, nw⟩, txns, dirty⟩ : PRec).may)
    (hkc : chgB (k : Int) = true) (hk2 : ((k : Int) == 2) = false) (hk8 : ((k : Int) == 8) = false) (hl : l < 18446744073709551616) (hp : p < 18446744073709551616) (hu : u < 18446744073709551616) :
    Calls Try.prog 82 #[.agg (rcs ⟨k, l, t, p, u, pg, ⟨ak, key, old, nw⟩, txns, dirty⟩ vt vd).toArray] w fun e w' => ∃ v', e = .returned (.tuple #[v', .int .i64 0]) ∧
      w'.ownsRow w.heap.size 5 1 v' (body ⟨k, l, t, p, u, pg, ⟨ak, key, old, nw⟩, txns, dirty⟩).length (bv (body ⟨k, l, t, p, u, pg, ⟨ak, key, old, nw⟩, txns, dirty⟩)) ∧ Below w.heap.size w w' := by
  have HMay := Sec.mk hm
  obtain ⟨m1, m2, m3, m4, m5, m6, m7, m8, m9, m10, m11⟩ := hm
  simp only at m1 m2 m3 m6 m7 m8 m10 m11
  have hk9 : k < 9 := by omega
  have htx : txns.length ≤ 64 := m10.1
  have hdx : dirty.length ≤ 16 := m11.1
  have ht : t ≤ 1073741824 := by split at m7 <;> omega
  have hch : changes (k : Int) := by unfold chgB at hkc; exact of_decide_eq_true hkc
  rw [if_pos hch] at m6
  have hpg : pg < 16 := by omega
  have hky : key.length ≤ 16 := m6.2.2.2.1
  have hol : old.length ≤ 32 := m6.2.2.2.2.1
  have hnw : nw.length ≤ 32 := m6.2.2.2.2.2.1
  have hak : ak < 4 := by have := m6.2.2.2.2.2.2; simp only at this; omega
  have h2' : ¬ ((k : Int) = 2) := by simpa using hk2
  have h8' : ¬ ((k : Int) = 8) := by simpa using hk8
  have Hbody : Sec (body ⟨k, l, t, p, u, pg, ⟨ak, key, old, nw⟩, txns, dirty⟩ = [] ++ le k 1 ++ le l 8 ++ le t 4 ++ le p 8 ++ le pg 2 ++ le ak 1 ++ textOf key ++ textOf old ++ textOf nw) := ⟨by unfold body; rw [if_pos hch, if_neg h2', if_neg h8']; simp [List.append_assoc]⟩
  clear h2' h8'
  clear m1 m2 m3 m4 m5 m6 m7 m8 m9 m10 m11
  have HH := Sec.mk (H.below ((Below.refl _ _).alloc (Nat.le_refl _) (.cells (rcs ⟨k, l, t, p, u, pg, ⟨ak, key, old, nw⟩, txns, dirty⟩ vt vd).toArray 41)))
  have HC := Sec.mk (Check_any ok _ vt vd (w.alloc (.cells (rcs ⟨k, l, t, p, u, pg, ⟨ak, key, old, nw⟩, txns, dirty⟩ vt vd).toArray 41)) HH.out (by simp only; omega) (by simp only; omega))
  have Hbx := Sec.mk (bk_new w (.cells (rcs ⟨k, l, t, p, u, pg, ⟨ak, key, old, nw⟩, txns, dirty⟩ vt vd).toArray 41))
  obtain ⟨A1, c1, rfl, hc1⟩ : ∃ A c, vt = .slice A txns.length c ∧ txns.length ≤ c := by obtain ⟨_, _, A, c, e, h, _⟩ := H.t; exact ⟨A, c, e, h⟩
  obtain ⟨A2, c2, rfl, hc2⟩ : ∃ A c, vd = .slice A dirty.length c ∧ dirty.length ≤ c := by obtain ⟨_, _, A, c, e, h, _⟩ := H.d; exact ⟨A, c, e, h⟩
  clear H
  simp only [rcs] at HC Hbx HH
  go_enter Try.func82, Try.ntmps82
  simp only [rcs]
  have HB0 : Below w.heap.size w (w.alloc (.cells #[Value.int IntKind.i64 ↑k, Value.int IntKind.u64 ↑l, Value.int IntKind.i64 ↑t, Value.int IntKind.u64 ↑p, Value.int IntKind.u64 ↑u, Value.int IntKind.i64 ↑pg, Value.int IntKind.i64 ↑ak, Value.string { data := key.toArray }, Value.string { data := old.toArray }, Value.string { data := nw.toArray }, Value.slice A1 txns.length c1, Value.slice A2 dirty.length c2] 41)) := (Below.refl _ _).alloc (Nat.le_refl _) _
  go_wp2_with (go_at_call 93; refine HC.out.mono ?_; rintro e w1 ⟨k', rfl, hk, hk2, hb1⟩; obtain rfl : k' = 0 := hk.2 HMay.out)
  clear HC HMay hk hk2
  have hs1 := hb1.size
  rw [World.size_alloc] at hs1
  have HBA : Sec (∀ w', Below w1.heap.size w1 w' → ∀ i, w'.cell? ⟨w.heap.size, i, none⟩ = (rcs ⟨k, l, t, p, u, pg, ⟨ak, key, old, nw⟩, txns, dirty⟩ (.slice A1 txns.length c1) (.slice A2 dirty.length c2))[i]?) := ⟨fun w' h i => by
    rw [bk_cell (bk_below (bk_below Hbx.out hb1 (by simp)) h (by omega)) i]; simp [rcs]⟩
  have HH1 := Sec.mk (HH.out.below hb1)
  have hB1 := HB0.trans (hb1.mono (by simp))
  clear HH Hbx HB0
  refine (New_any _).mono ?_
  rintro e w2 ⟨rfl, hw, hb⟩
  generalize hBe : w1.heap.size = B at *
  have HBe := Sec.mk hBe
  have hBle : w.heap.size < B := by omega
  clear hBe
  have q0 : w2.cell? ⟨w.heap.size, 0, none⟩ = some (.int .i64 (k : Int)) := HBA.out _ hb 0
  go_wp2_with fail
  refine (Byte_go B B k (by omega) ([]) _ (by simp [le_length, textOf] <;> omega) hw).mono ?_
  rintro e w3 ⟨rfl, hw', hb'⟩
  replace hb := hb.trans hb'.bel
  clear hw hb' q0
  have hw := hw'
  clear hw'
  have q1 : w3.cell? ⟨w.heap.size, 1, none⟩ = some (.int .u64 (l : Int)) := HBA.out _ hb 1
  go_wp2_with fail
  refine (Eight_go B B l ([] ++ le k 1) _ (by simp [le_length, textOf] <;> omega) hw).mono ?_
  rintro e w4 ⟨rfl, hw', hb'⟩
  replace hb := hb.trans hb'.bel
  clear hw hb' q1
  have hw := hw'
  clear hw'
  have q2 : w4.cell? ⟨w.heap.size, 2, none⟩ = some (.int .i64 (t : Int)) := HBA.out _ hb 2
  go_wp2_with fail
  refine (Four_go B B t (by omega) ([] ++ le k 1 ++ le l 8) _ (by simp [le_length, textOf] <;> omega) hw).mono ?_
  rintro e w5 ⟨rfl, hw', hb'⟩
  replace hb := hb.trans hb'.bel
  clear hw hb' q2
  have hw := hw'
  clear hw'
  have q3 : w5.cell? ⟨w.heap.size, 3, none⟩ = some (.int .u64 (p : Int)) := HBA.out _ hb 3
  go_wp2_with fail
  refine (Eight_go B B p ([] ++ le k 1 ++ le l 8 ++ le t 4) _ (by simp [le_length, textOf] <;> omega) hw).mono ?_
  rintro e w6 ⟨rfl, hw', hb'⟩
  replace hb := hb.trans hb'.bel
  clear hw hb' q3
  have hw := hw'
  clear hw'
  have q0 : w6.cell? ⟨w.heap.size, 0, none⟩ = some (.int .i64 (k : Int)) := HBA.out _ hb 0
  have q5 : w6.cell? ⟨w.heap.size, 5, none⟩ = some (.int .i64 (pg : Int)) := HBA.out _ hb 5
  go_wp2_with (go_at_call 96; refine (changes_any _ _).mono ?_; rintro e w9 ⟨rfl, rfl⟩)
  refine (Two_go B B pg (by omega) ([] ++ le k 1 ++ le l 8 ++ le t 4 ++ le p 8) _ (by simp [le_length, textOf] <;> omega) hw).mono ?_
  rintro e w7 ⟨rfl, hw', hb'⟩
  replace hb := hb.trans hb'.bel
  clear hw hb' q0 q5
  have hw := hw'
  clear hw'
  have q6 : w7.cell? ⟨w.heap.size, 6, none⟩ = some (.int .i64 (ak : Int)) := HBA.out _ hb 6
  go_wp2_with fail
  refine (Byte_go B B ak (by omega) ([] ++ le k 1 ++ le l 8 ++ le t 4 ++ le p 8 ++ le pg 2) _ (by simp [le_length, textOf] <;> omega) hw).mono ?_
  rintro e w8 ⟨rfl, hw', hb'⟩
  replace hb := hb.trans hb'.bel
  clear hw hb' q6
  have hw := hw'
  clear hw'
  have q7 : w8.cell? ⟨w.heap.size, 7, none⟩ = some (.string ⟨key.toArray⟩) := HBA.out _ hb 7
  go_wp2_with fail
  refine (Text_go B B key (by omega) ([] ++ le k 1 ++ le l 8 ++ le t 4 ++ le p 8 ++ le pg 2 ++ le ak 1) _ (by simp [le_length, textOf] <;> omega) hw).mono ?_
  rintro e w9 ⟨rfl, hw', hb'⟩
  replace hb := hb.trans hb'.bel
  clear hw hb' q7
  have hw := hw'
  clear hw'
  have q8 : w9.cell? ⟨w.heap.size, 8, none⟩ = some (.string ⟨old.toArray⟩) := HBA.out _ hb 8
  go_wp2_with fail
  refine (Text_go B B old (by omega) ([] ++ le k 1 ++ le l 8 ++ le t 4 ++ le p 8 ++ le pg 2 ++ le ak 1 ++ textOf key) _ (by simp [le_length, textOf] <;> omega) hw).mono ?_
  rintro e w10 ⟨rfl, hw', hb'⟩
  replace hb := hb.trans hb'.bel
  clear hw hb' q8
  have hw := hw'
  clear hw'
  have q9 : w10.cell? ⟨w.heap.size, 9, none⟩ = some (.string ⟨nw.toArray⟩) := HBA.out _ hb 9
  go_wp2_with fail
  refine (Text_go B B nw (by omega) ([] ++ le k 1 ++ le l 8 ++ le t 4 ++ le p 8 ++ le pg 2 ++ le ak 1 ++ textOf key ++ textOf old) _ (by simp [le_length, textOf] <;> omega) hw).mono ?_
  rintro e w11 ⟨rfl, hw', hb'⟩
  replace hb := hb.trans hb'.bel
  clear hw hb' q9
  have hw := hw'
  clear hw'
  have q0 : w11.cell? ⟨w.heap.size, 0, none⟩ = some (.int .i64 (k : Int)) := HBA.out _ hb 0
  go_wp2_with fail
  generalize hcf : ([] ++ le k 1 ++ le l 8 ++ le t 4 ++ le p 8 ++ le pg 2 ++ le ak 1 ++ textOf key ++ textOf old ++ textOf nw) = bsF at *
  have Hcf := Sec.mk hcf
  have hlf : bsF.length ≤ 5000 := by rw [← hcf]; simp [le_length, textOf, flat_length_tx, flat_length_dy] <;> omega
  clear hcf
  refine (Done_any B B bsF _ (by omega) hw).mono ?_
  rintro e w20 ⟨v', rfl, hrow, hb'⟩
  obtain ⟨A3, c3, rfl⟩ := row_shape hrow
  go_wp2
  go_ret2
  have hsz2 := hb.size
  have hsz3 := hb'.size
  have hbm1 : Below w.heap.size w1 _ := hb.mono (by have := HBe.out; omega)
  have hbm2 : Below w.heap.size _ w20 := hb'.mono (by have := HBe.out; omega)
  refine ⟨_, rfl, ?_, hB1.trans (hbm1.trans hbm2)⟩
  rw [Hbody.out]
  exact row_lower (base' := w.heap.size) hrow (by have := HBe.out; omega)
set_option maxRecDepth 100000 in
set_option maxHeartbeats 8000000 in
theorem Encode_und (ok : Nat → Prop) (k l t p u pg ak : Nat) (key old nw : List UInt8) (txns : List PTxn) (dirty : List PDirty) (vt vd : Value) (w : World)
    (H : RecSl w ok ⟨k, l, t, p, u, pg, ⟨ak, key, old, nw⟩, txns, dirty⟩ vt vd) (hm : (⟨k, l, t, p, u, pg, ⟨ak, key, old, nw⟩, txns, dirty⟩ : PRec).may)
    (hkc : chgB (k : Int) = true) (hk2 : ((k : Int) == 2) = true) (hk8 : ((k : Int) == 8) = false) (hl : l < 18446744073709551616) (hp : p < 18446744073709551616) (hu : u < 18446744073709551616) :
    Calls Try.prog 82 #[.agg (rcs ⟨k, l, t, p, u, pg, ⟨ak, key, old, nw⟩, txns, dirty⟩ vt vd).toArray] w fun e w' => ∃ v', e = .returned (.tuple #[v', .int .i64 0]) ∧
      w'.ownsRow w.heap.size 5 1 v' (body ⟨k, l, t, p, u, pg, ⟨ak, key, old, nw⟩, txns, dirty⟩).length (bv (body ⟨k, l, t, p, u, pg, ⟨ak, key, old, nw⟩, txns, dirty⟩)) ∧ Below w.heap.size w w' := by
  have HMay := Sec.mk hm
  obtain ⟨m1, m2, m3, m4, m5, m6, m7, m8, m9, m10, m11⟩ := hm
  simp only at m1 m2 m3 m6 m7 m8 m10 m11
  have hk9 : k < 9 := by omega
  have htx : txns.length ≤ 64 := m10.1
  have hdx : dirty.length ≤ 16 := m11.1
  have ht : t ≤ 1073741824 := by split at m7 <;> omega
  have hch : changes (k : Int) := by unfold chgB at hkc; exact of_decide_eq_true hkc
  rw [if_pos hch] at m6
  have hpg : pg < 16 := by omega
  have hky : key.length ≤ 16 := m6.2.2.2.1
  have hol : old.length ≤ 32 := m6.2.2.2.2.1
  have hnw : nw.length ≤ 32 := m6.2.2.2.2.2.1
  have hak : ak < 4 := by have := m6.2.2.2.2.2.2; simp only at this; omega
  have h2' : ((k : Int) = 2) := by simpa using hk2
  have h8' : ¬ ((k : Int) = 8) := by simpa using hk8
  have Hbody : Sec (body ⟨k, l, t, p, u, pg, ⟨ak, key, old, nw⟩, txns, dirty⟩ = [] ++ le k 1 ++ le l 8 ++ le t 4 ++ le p 8 ++ le pg 2 ++ le ak 1 ++ textOf key ++ textOf old ++ textOf nw ++ le u 8) := ⟨by unfold body; rw [if_pos hch, if_pos h2', if_neg h8']; simp [List.append_assoc]⟩
  clear h2' h8'
  clear m1 m2 m3 m4 m5 m6 m7 m8 m9 m10 m11
  have HH := Sec.mk (H.below ((Below.refl _ _).alloc (Nat.le_refl _) (.cells (rcs ⟨k, l, t, p, u, pg, ⟨ak, key, old, nw⟩, txns, dirty⟩ vt vd).toArray 41)))
  have HC := Sec.mk (Check_any ok _ vt vd (w.alloc (.cells (rcs ⟨k, l, t, p, u, pg, ⟨ak, key, old, nw⟩, txns, dirty⟩ vt vd).toArray 41)) HH.out (by simp only; omega) (by simp only; omega))
  have Hbx := Sec.mk (bk_new w (.cells (rcs ⟨k, l, t, p, u, pg, ⟨ak, key, old, nw⟩, txns, dirty⟩ vt vd).toArray 41))
  obtain ⟨A1, c1, rfl, hc1⟩ : ∃ A c, vt = .slice A txns.length c ∧ txns.length ≤ c := by obtain ⟨_, _, A, c, e, h, _⟩ := H.t; exact ⟨A, c, e, h⟩
  obtain ⟨A2, c2, rfl, hc2⟩ : ∃ A c, vd = .slice A dirty.length c ∧ dirty.length ≤ c := by obtain ⟨_, _, A, c, e, h, _⟩ := H.d; exact ⟨A, c, e, h⟩
  clear H
  simp only [rcs] at HC Hbx HH
  go_enter Try.func82, Try.ntmps82
  simp only [rcs]
  have HB0 : Below w.heap.size w (w.alloc (.cells #[Value.int IntKind.i64 ↑k, Value.int IntKind.u64 ↑l, Value.int IntKind.i64 ↑t, Value.int IntKind.u64 ↑p, Value.int IntKind.u64 ↑u, Value.int IntKind.i64 ↑pg, Value.int IntKind.i64 ↑ak, Value.string { data := key.toArray }, Value.string { data := old.toArray }, Value.string { data := nw.toArray }, Value.slice A1 txns.length c1, Value.slice A2 dirty.length c2] 41)) := (Below.refl _ _).alloc (Nat.le_refl _) _
  go_wp2_with (go_at_call 93; refine HC.out.mono ?_; rintro e w1 ⟨k', rfl, hk, hk2, hb1⟩; obtain rfl : k' = 0 := hk.2 HMay.out)
  clear HC HMay hk hk2
  have hs1 := hb1.size
  rw [World.size_alloc] at hs1
  have HBA : Sec (∀ w', Below w1.heap.size w1 w' → ∀ i, w'.cell? ⟨w.heap.size, i, none⟩ = (rcs ⟨k, l, t, p, u, pg, ⟨ak, key, old, nw⟩, txns, dirty⟩ (.slice A1 txns.length c1) (.slice A2 dirty.length c2))[i]?) := ⟨fun w' h i => by
    rw [bk_cell (bk_below (bk_below Hbx.out hb1 (by simp)) h (by omega)) i]; simp [rcs]⟩
  have HH1 := Sec.mk (HH.out.below hb1)
  have hB1 := HB0.trans (hb1.mono (by simp))
  clear HH Hbx HB0
  refine (New_any _).mono ?_
  rintro e w2 ⟨rfl, hw, hb⟩
  generalize hBe : w1.heap.size = B at *
  have HBe := Sec.mk hBe
  have hBle : w.heap.size < B := by omega
  clear hBe
  have q0 : w2.cell? ⟨w.heap.size, 0, none⟩ = some (.int .i64 (k : Int)) := HBA.out _ hb 0
  go_wp2_with fail
  refine (Byte_go B B k (by omega) ([]) _ (by simp [le_length, textOf] <;> omega) hw).mono ?_
  rintro e w3 ⟨rfl, hw', hb'⟩
  replace hb := hb.trans hb'.bel
  clear hw hb' q0
  have hw := hw'
  clear hw'
  have q1 : w3.cell? ⟨w.heap.size, 1, none⟩ = some (.int .u64 (l : Int)) := HBA.out _ hb 1
  go_wp2_with fail
  refine (Eight_go B B l ([] ++ le k 1) _ (by simp [le_length, textOf] <;> omega) hw).mono ?_
  rintro e w4 ⟨rfl, hw', hb'⟩
  replace hb := hb.trans hb'.bel
  clear hw hb' q1
  have hw := hw'
  clear hw'
  have q2 : w4.cell? ⟨w.heap.size, 2, none⟩ = some (.int .i64 (t : Int)) := HBA.out _ hb 2
  go_wp2_with fail
  refine (Four_go B B t (by omega) ([] ++ le k 1 ++ le l 8) _ (by simp [le_length, textOf] <;> omega) hw).mono ?_
  rintro e w5 ⟨rfl, hw', hb'⟩
  replace hb := hb.trans hb'.bel
  clear hw hb' q2
  have hw := hw'
  clear hw'
  have q3 : w5.cell? ⟨w.heap.size, 3, none⟩ = some (.int .u64 (p : Int)) := HBA.out _ hb 3
  go_wp2_with fail
  refine (Eight_go B B p ([] ++ le k 1 ++ le l 8 ++ le t 4) _ (by simp [le_length, textOf] <;> omega) hw).mono ?_
  rintro e w6 ⟨rfl, hw', hb'⟩
  replace hb := hb.trans hb'.bel
  clear hw hb' q3
  have hw := hw'
  clear hw'
  have q0 : w6.cell? ⟨w.heap.size, 0, none⟩ = some (.int .i64 (k : Int)) := HBA.out _ hb 0
  have q5 : w6.cell? ⟨w.heap.size, 5, none⟩ = some (.int .i64 (pg : Int)) := HBA.out _ hb 5
  go_wp2_with (go_at_call 96; refine (changes_any _ _).mono ?_; rintro e w9 ⟨rfl, rfl⟩)
  refine (Two_go B B pg (by omega) ([] ++ le k 1 ++ le l 8 ++ le t 4 ++ le p 8) _ (by simp [le_length, textOf] <;> omega) hw).mono ?_
  rintro e w7 ⟨rfl, hw', hb'⟩
  replace hb := hb.trans hb'.bel
  clear hw hb' q0 q5
  have hw := hw'
  clear hw'
  have q6 : w7.cell? ⟨w.heap.size, 6, none⟩ = some (.int .i64 (ak : Int)) := HBA.out _ hb 6
  go_wp2_with fail
  refine (Byte_go B B ak (by omega) ([] ++ le k 1 ++ le l 8 ++ le t 4 ++ le p 8 ++ le pg 2) _ (by simp [le_length, textOf] <;> omega) hw).mono ?_
  rintro e w8 ⟨rfl, hw', hb'⟩
  replace hb := hb.trans hb'.bel
  clear hw hb' q6
  have hw := hw'
  clear hw'
  have q7 : w8.cell? ⟨w.heap.size, 7, none⟩ = some (.string ⟨key.toArray⟩) := HBA.out _ hb 7
  go_wp2_with fail
  refine (Text_go B B key (by omega) ([] ++ le k 1 ++ le l 8 ++ le t 4 ++ le p 8 ++ le pg 2 ++ le ak 1) _ (by simp [le_length, textOf] <;> omega) hw).mono ?_
  rintro e w9 ⟨rfl, hw', hb'⟩
  replace hb := hb.trans hb'.bel
  clear hw hb' q7
  have hw := hw'
  clear hw'
  have q8 : w9.cell? ⟨w.heap.size, 8, none⟩ = some (.string ⟨old.toArray⟩) := HBA.out _ hb 8
  go_wp2_with fail
  refine (Text_go B B old (by omega) ([] ++ le k 1 ++ le l 8 ++ le t 4 ++ le p 8 ++ le pg 2 ++ le ak 1 ++ textOf key) _ (by simp [le_length, textOf] <;> omega) hw).mono ?_
  rintro e w10 ⟨rfl, hw', hb'⟩
  replace hb := hb.trans hb'.bel
  clear hw hb' q8
  have hw := hw'
  clear hw'
  have q9 : w10.cell? ⟨w.heap.size, 9, none⟩ = some (.string ⟨nw.toArray⟩) := HBA.out _ hb 9
  go_wp2_with fail
  refine (Text_go B B nw (by omega) ([] ++ le k 1 ++ le l 8 ++ le t 4 ++ le p 8 ++ le pg 2 ++ le ak 1 ++ textOf key ++ textOf old) _ (by simp [le_length, textOf] <;> omega) hw).mono ?_
  rintro e w11 ⟨rfl, hw', hb'⟩
  replace hb := hb.trans hb'.bel
  clear hw hb' q9
  have hw := hw'
  clear hw'
  have q0 : w11.cell? ⟨w.heap.size, 0, none⟩ = some (.int .i64 (k : Int)) := HBA.out _ hb 0
  have q4 : w11.cell? ⟨w.heap.size, 4, none⟩ = some (.int .u64 (u : Int)) := HBA.out _ hb 4
  go_wp2_with fail
  refine (Eight_go B B u ([] ++ le k 1 ++ le l 8 ++ le t 4 ++ le p 8 ++ le pg 2 ++ le ak 1 ++ textOf key ++ textOf old ++ textOf nw) _ (by simp [le_length, textOf] <;> omega) hw).mono ?_
  rintro e w12 ⟨rfl, hw', hb'⟩
  replace hb := hb.trans hb'.bel
  clear hw hb' q0 q4
  have hw := hw'
  clear hw'
  have q0 : w12.cell? ⟨w.heap.size, 0, none⟩ = some (.int .i64 (k : Int)) := HBA.out _ hb 0
  go_wp2_with fail
  generalize hcf : ([] ++ le k 1 ++ le l 8 ++ le t 4 ++ le p 8 ++ le pg 2 ++ le ak 1 ++ textOf key ++ textOf old ++ textOf nw ++ le u 8) = bsF at *
  have Hcf := Sec.mk hcf
  have hlf : bsF.length ≤ 5000 := by rw [← hcf]; simp [le_length, textOf, flat_length_tx, flat_length_dy] <;> omega
  clear hcf
  refine (Done_any B B bsF _ (by omega) hw).mono ?_
  rintro e w20 ⟨v', rfl, hrow, hb'⟩
  obtain ⟨A3, c3, rfl⟩ := row_shape hrow
  go_wp2
  go_ret2
  have hsz2 := hb.size
  have hsz3 := hb'.size
  have hbm1 : Below w.heap.size w1 _ := hb.mono (by have := HBe.out; omega)
  have hbm2 : Below w.heap.size _ w20 := hb'.mono (by have := HBe.out; omega)
  refine ⟨_, rfl, ?_, hB1.trans (hbm1.trans hbm2)⟩
  rw [Hbody.out]
  exact row_lower (base' := w.heap.size) hrow (by have := HBe.out; omega)
set_option maxRecDepth 100000 in
set_option maxHeartbeats 8000000 in
theorem Encode_oth (ok : Nat → Prop) (k l t p u pg ak : Nat) (key old nw : List UInt8) (txns : List PTxn) (dirty : List PDirty) (vt vd : Value) (w : World)
    (H : RecSl w ok ⟨k, l, t, p, u, pg, ⟨ak, key, old, nw⟩, txns, dirty⟩ vt vd) (hm : (⟨k, l, t, p, u, pg, ⟨ak, key, old, nw⟩, txns, dirty⟩ : PRec).may)
    (hkc : chgB (k : Int) = false) (hk2 : ((k : Int) == 2) = false) (hk8 : ((k : Int) == 8) = false) (hl : l < 18446744073709551616) (hp : p < 18446744073709551616) (hu : u < 18446744073709551616) :
    Calls Try.prog 82 #[.agg (rcs ⟨k, l, t, p, u, pg, ⟨ak, key, old, nw⟩, txns, dirty⟩ vt vd).toArray] w fun e w' => ∃ v', e = .returned (.tuple #[v', .int .i64 0]) ∧
      w'.ownsRow w.heap.size 5 1 v' (body ⟨k, l, t, p, u, pg, ⟨ak, key, old, nw⟩, txns, dirty⟩).length (bv (body ⟨k, l, t, p, u, pg, ⟨ak, key, old, nw⟩, txns, dirty⟩)) ∧ Below w.heap.size w w' := by
  have HMay := Sec.mk hm
  obtain ⟨m1, m2, m3, m4, m5, m6, m7, m8, m9, m10, m11⟩ := hm
  simp only at m1 m2 m3 m6 m7 m8 m10 m11
  have hk9 : k < 9 := by omega
  have htx : txns.length ≤ 64 := m10.1
  have hdx : dirty.length ≤ 16 := m11.1
  have ht : t ≤ 1073741824 := by split at m7 <;> omega
  have hch : ¬ changes (k : Int) := by unfold chgB at hkc; exact of_decide_eq_false hkc
  have h2' : ¬ ((k : Int) = 2) := by simpa using hk2
  have h8' : ¬ ((k : Int) = 8) := by simpa using hk8
  have Hbody : Sec (body ⟨k, l, t, p, u, pg, ⟨ak, key, old, nw⟩, txns, dirty⟩ = [] ++ le k 1 ++ le l 8 ++ le t 4 ++ le p 8) := ⟨by unfold body; rw [if_neg hch, if_neg h2', if_neg h8']; simp [List.append_assoc]⟩
  clear h2' h8'
  clear m1 m2 m3 m4 m5 m6 m7 m8 m9 m10 m11
  have HH := Sec.mk (H.below ((Below.refl _ _).alloc (Nat.le_refl _) (.cells (rcs ⟨k, l, t, p, u, pg, ⟨ak, key, old, nw⟩, txns, dirty⟩ vt vd).toArray 41)))
  have HC := Sec.mk (Check_any ok _ vt vd (w.alloc (.cells (rcs ⟨k, l, t, p, u, pg, ⟨ak, key, old, nw⟩, txns, dirty⟩ vt vd).toArray 41)) HH.out (by simp only; omega) (by simp only; omega))
  have Hbx := Sec.mk (bk_new w (.cells (rcs ⟨k, l, t, p, u, pg, ⟨ak, key, old, nw⟩, txns, dirty⟩ vt vd).toArray 41))
  obtain ⟨A1, c1, rfl, hc1⟩ : ∃ A c, vt = .slice A txns.length c ∧ txns.length ≤ c := by obtain ⟨_, _, A, c, e, h, _⟩ := H.t; exact ⟨A, c, e, h⟩
  obtain ⟨A2, c2, rfl, hc2⟩ : ∃ A c, vd = .slice A dirty.length c ∧ dirty.length ≤ c := by obtain ⟨_, _, A, c, e, h, _⟩ := H.d; exact ⟨A, c, e, h⟩
  clear H
  simp only [rcs] at HC Hbx HH
  go_enter Try.func82, Try.ntmps82
  simp only [rcs]
  have HB0 : Below w.heap.size w (w.alloc (.cells #[Value.int IntKind.i64 ↑k, Value.int IntKind.u64 ↑l, Value.int IntKind.i64 ↑t, Value.int IntKind.u64 ↑p, Value.int IntKind.u64 ↑u, Value.int IntKind.i64 ↑pg, Value.int IntKind.i64 ↑ak, Value.string { data := key.toArray }, Value.string { data := old.toArray }, Value.string { data := nw.toArray }, Value.slice A1 txns.length c1, Value.slice A2 dirty.length c2] 41)) := (Below.refl _ _).alloc (Nat.le_refl _) _
  go_wp2_with (go_at_call 93; refine HC.out.mono ?_; rintro e w1 ⟨k', rfl, hk, hk2, hb1⟩; obtain rfl : k' = 0 := hk.2 HMay.out)
  clear HC HMay hk hk2
  have hs1 := hb1.size
  rw [World.size_alloc] at hs1
  have HBA : Sec (∀ w', Below w1.heap.size w1 w' → ∀ i, w'.cell? ⟨w.heap.size, i, none⟩ = (rcs ⟨k, l, t, p, u, pg, ⟨ak, key, old, nw⟩, txns, dirty⟩ (.slice A1 txns.length c1) (.slice A2 dirty.length c2))[i]?) := ⟨fun w' h i => by
    rw [bk_cell (bk_below (bk_below Hbx.out hb1 (by simp)) h (by omega)) i]; simp [rcs]⟩
  have HH1 := Sec.mk (HH.out.below hb1)
  have hB1 := HB0.trans (hb1.mono (by simp))
  clear HH Hbx HB0
  refine (New_any _).mono ?_
  rintro e w2 ⟨rfl, hw, hb⟩
  generalize hBe : w1.heap.size = B at *
  have HBe := Sec.mk hBe
  have hBle : w.heap.size < B := by omega
  clear hBe
  have q0 : w2.cell? ⟨w.heap.size, 0, none⟩ = some (.int .i64 (k : Int)) := HBA.out _ hb 0
  go_wp2_with fail
  refine (Byte_go B B k (by omega) ([]) _ (by simp [le_length, textOf] <;> omega) hw).mono ?_
  rintro e w3 ⟨rfl, hw', hb'⟩
  replace hb := hb.trans hb'.bel
  clear hw hb' q0
  have hw := hw'
  clear hw'
  have q1 : w3.cell? ⟨w.heap.size, 1, none⟩ = some (.int .u64 (l : Int)) := HBA.out _ hb 1
  go_wp2_with fail
  refine (Eight_go B B l ([] ++ le k 1) _ (by simp [le_length, textOf] <;> omega) hw).mono ?_
  rintro e w4 ⟨rfl, hw', hb'⟩
  replace hb := hb.trans hb'.bel
  clear hw hb' q1
  have hw := hw'
  clear hw'
  have q2 : w4.cell? ⟨w.heap.size, 2, none⟩ = some (.int .i64 (t : Int)) := HBA.out _ hb 2
  go_wp2_with fail
  refine (Four_go B B t (by omega) ([] ++ le k 1 ++ le l 8) _ (by simp [le_length, textOf] <;> omega) hw).mono ?_
  rintro e w5 ⟨rfl, hw', hb'⟩
  replace hb := hb.trans hb'.bel
  clear hw hb' q2
  have hw := hw'
  clear hw'
  have q3 : w5.cell? ⟨w.heap.size, 3, none⟩ = some (.int .u64 (p : Int)) := HBA.out _ hb 3
  go_wp2_with fail
  refine (Eight_go B B p ([] ++ le k 1 ++ le l 8 ++ le t 4) _ (by simp [le_length, textOf] <;> omega) hw).mono ?_
  rintro e w6 ⟨rfl, hw', hb'⟩
  replace hb := hb.trans hb'.bel
  clear hw hb' q3
  have hw := hw'
  clear hw'
  have q0 : w6.cell? ⟨w.heap.size, 0, none⟩ = some (.int .i64 (k : Int)) := HBA.out _ hb 0
  go_wp2_with (go_at_call 96; refine (changes_any _ _).mono ?_; rintro e w9 ⟨rfl, rfl⟩)
  generalize hcf : ([] ++ le k 1 ++ le l 8 ++ le t 4 ++ le p 8) = bsF at *
  have Hcf := Sec.mk hcf
  have hlf : bsF.length ≤ 5000 := by rw [← hcf]; simp [le_length, textOf, flat_length_tx, flat_length_dy] <;> omega
  clear hcf
  refine (Done_any B B bsF _ (by omega) hw).mono ?_
  rintro e w20 ⟨v', rfl, hrow, hb'⟩
  obtain ⟨A3, c3, rfl⟩ := row_shape hrow
  go_wp2
  go_ret2
  have hsz2 := hb.size
  have hsz3 := hb'.size
  have hbm1 : Below w.heap.size w1 _ := hb.mono (by have := HBe.out; omega)
  have hbm2 : Below w.heap.size _ w20 := hb'.mono (by have := HBe.out; omega)
  refine ⟨_, rfl, ?_, hB1.trans (hbm1.trans hbm2)⟩
  rw [Hbody.out]
  exact row_lower (base' := w.heap.size) hrow (by have := HBe.out; omega)
set_option maxRecDepth 100000 in
set_option maxHeartbeats 8000000 in
theorem Encode_chk (ok : Nat → Prop) (k l t p u pg ak : Nat) (key old nw : List UInt8) (txns : List PTxn) (dirty : List PDirty) (vt vd : Value) (w : World)
    (H : RecSl w ok ⟨k, l, t, p, u, pg, ⟨ak, key, old, nw⟩, txns, dirty⟩ vt vd) (hm : (⟨k, l, t, p, u, pg, ⟨ak, key, old, nw⟩, txns, dirty⟩ : PRec).may)
    (hkc : chgB (k : Int) = false) (hk2 : ((k : Int) == 2) = false) (hk8 : ((k : Int) == 8) = true) (hl : l < 18446744073709551616) (hp : p < 18446744073709551616) (hu : u < 18446744073709551616) :
    Calls Try.prog 82 #[.agg (rcs ⟨k, l, t, p, u, pg, ⟨ak, key, old, nw⟩, txns, dirty⟩ vt vd).toArray] w fun e w' => ∃ v', e = .returned (.tuple #[v', .int .i64 0]) ∧
      w'.ownsRow w.heap.size 5 1 v' (body ⟨k, l, t, p, u, pg, ⟨ak, key, old, nw⟩, txns, dirty⟩).length (bv (body ⟨k, l, t, p, u, pg, ⟨ak, key, old, nw⟩, txns, dirty⟩)) ∧ Below w.heap.size w w' := by
  have HMay := Sec.mk hm
  obtain ⟨m1, m2, m3, m4, m5, m6, m7, m8, m9, m10, m11⟩ := hm
  simp only at m1 m2 m3 m6 m7 m8 m10 m11
  have hk9 : k < 9 := by omega
  have htx : txns.length ≤ 64 := m10.1
  have hdx : dirty.length ≤ 16 := m11.1
  have ht : t ≤ 1073741824 := by split at m7 <;> omega
  have Htx := Sec.mk (fun x hx => m10.2.1 x hx)
  have Hdx := Sec.mk (fun x hx => m11.2.1 x hx)
  have hch : ¬ changes (k : Int) := by unfold chgB at hkc; exact of_decide_eq_false hkc
  have h2' : ¬ ((k : Int) = 2) := by simpa using hk2
  have h8' : ((k : Int) = 8) := by simpa using hk8
  have Hbody : Sec (body ⟨k, l, t, p, u, pg, ⟨ak, key, old, nw⟩, txns, dirty⟩ = [] ++ le k 1 ++ le l 8 ++ le t 4 ++ le p 8 ++ le txns.length 1 ++ flat txnBytes txns ++ le dirty.length 1 ++ flat dirtyBytes dirty) := ⟨by unfold body; rw [if_neg hch, if_neg h2', if_pos h8']; simp [List.append_assoc]⟩
  clear h2' h8'
  clear m1 m2 m3 m4 m5 m6 m7 m8 m9 m10 m11
  have HH := Sec.mk (H.below ((Below.refl _ _).alloc (Nat.le_refl _) (.cells (rcs ⟨k, l, t, p, u, pg, ⟨ak, key, old, nw⟩, txns, dirty⟩ vt vd).toArray 41)))
  have HC := Sec.mk (Check_any ok _ vt vd (w.alloc (.cells (rcs ⟨k, l, t, p, u, pg, ⟨ak, key, old, nw⟩, txns, dirty⟩ vt vd).toArray 41)) HH.out (by simp only; omega) (by simp only; omega))
  have Hbx := Sec.mk (bk_new w (.cells (rcs ⟨k, l, t, p, u, pg, ⟨ak, key, old, nw⟩, txns, dirty⟩ vt vd).toArray 41))
  obtain ⟨A1, c1, rfl, hc1⟩ : ∃ A c, vt = .slice A txns.length c ∧ txns.length ≤ c := by obtain ⟨_, _, A, c, e, h, _⟩ := H.t; exact ⟨A, c, e, h⟩
  obtain ⟨A2, c2, rfl, hc2⟩ : ∃ A c, vd = .slice A dirty.length c ∧ dirty.length ≤ c := by obtain ⟨_, _, A, c, e, h, _⟩ := H.d; exact ⟨A, c, e, h⟩
  clear H
  simp only [rcs] at HC Hbx HH
  go_enter Try.func82, Try.ntmps82
  simp only [rcs]
  have HB0 : Below w.heap.size w (w.alloc (.cells #[Value.int IntKind.i64 ↑k, Value.int IntKind.u64 ↑l, Value.int IntKind.i64 ↑t, Value.int IntKind.u64 ↑p, Value.int IntKind.u64 ↑u, Value.int IntKind.i64 ↑pg, Value.int IntKind.i64 ↑ak, Value.string { data := key.toArray }, Value.string { data := old.toArray }, Value.string { data := nw.toArray }, Value.slice A1 txns.length c1, Value.slice A2 dirty.length c2] 41)) := (Below.refl _ _).alloc (Nat.le_refl _) _
  go_wp2_with (go_at_call 93; refine HC.out.mono ?_; rintro e w1 ⟨k', rfl, hk, hk2, hb1⟩; obtain rfl : k' = 0 := hk.2 HMay.out)
  clear HC HMay hk hk2
  have hs1 := hb1.size
  rw [World.size_alloc] at hs1
  have HBA : Sec (∀ w', Below w1.heap.size w1 w' → ∀ i, w'.cell? ⟨w.heap.size, i, none⟩ = (rcs ⟨k, l, t, p, u, pg, ⟨ak, key, old, nw⟩, txns, dirty⟩ (.slice A1 txns.length c1) (.slice A2 dirty.length c2))[i]?) := ⟨fun w' h i => by
    rw [bk_cell (bk_below (bk_below Hbx.out hb1 (by simp)) h (by omega)) i]; simp [rcs]⟩
  have HH1 := Sec.mk (HH.out.below hb1)
  have hB1 := HB0.trans (hb1.mono (by simp))
  clear HH Hbx HB0
  refine (New_any _).mono ?_
  rintro e w2 ⟨rfl, hw, hb⟩
  generalize hBe : w1.heap.size = B at *
  have HBe := Sec.mk hBe
  have hBle : w.heap.size < B := by omega
  clear hBe
  have q0 : w2.cell? ⟨w.heap.size, 0, none⟩ = some (.int .i64 (k : Int)) := HBA.out _ hb 0
  go_wp2_with fail
  refine (Byte_go B B k (by omega) ([]) _ (by simp [le_length, textOf] <;> omega) hw).mono ?_
  rintro e w3 ⟨rfl, hw', hb'⟩
  replace hb := hb.trans hb'.bel
  clear hw hb' q0
  have hw := hw'
  clear hw'
  have q1 : w3.cell? ⟨w.heap.size, 1, none⟩ = some (.int .u64 (l : Int)) := HBA.out _ hb 1
  go_wp2_with fail
  refine (Eight_go B B l ([] ++ le k 1) _ (by simp [le_length, textOf] <;> omega) hw).mono ?_
  rintro e w4 ⟨rfl, hw', hb'⟩
  replace hb := hb.trans hb'.bel
  clear hw hb' q1
  have hw := hw'
  clear hw'
  have q2 : w4.cell? ⟨w.heap.size, 2, none⟩ = some (.int .i64 (t : Int)) := HBA.out _ hb 2
  go_wp2_with fail
  refine (Four_go B B t (by omega) ([] ++ le k 1 ++ le l 8) _ (by simp [le_length, textOf] <;> omega) hw).mono ?_
  rintro e w5 ⟨rfl, hw', hb'⟩
  replace hb := hb.trans hb'.bel
  clear hw hb' q2
  have hw := hw'
  clear hw'
  have q3 : w5.cell? ⟨w.heap.size, 3, none⟩ = some (.int .u64 (p : Int)) := HBA.out _ hb 3
  go_wp2_with fail
  refine (Eight_go B B p ([] ++ le k 1 ++ le l 8 ++ le t 4) _ (by simp [le_length, textOf] <;> omega) hw).mono ?_
  rintro e w6 ⟨rfl, hw', hb'⟩
  replace hb := hb.trans hb'.bel
  clear hw hb' q3
  have hw := hw'
  clear hw'
  have q0 : w6.cell? ⟨w.heap.size, 0, none⟩ = some (.int .i64 (k : Int)) := HBA.out _ hb 0
  have q10 : w6.cell? ⟨w.heap.size, 10, none⟩ = some (.slice A1 txns.length c1) := HBA.out _ hb 10
  go_wp2_with (go_at_call 96; refine (changes_any _ _).mono ?_; rintro e w9 ⟨rfl, rfl⟩)
  refine (Byte_go B B txns.length (by omega) ([] ++ le k 1 ++ le l 8 ++ le t 4 ++ le p 8) _ (by simp [le_length, textOf] <;> omega) hw).mono ?_
  rintro e w7 ⟨rfl, hw', hb'⟩
  replace hb := hb.trans hb'.bel
  clear hw hb' q0 q10
  have hw := hw'
  clear hw'
  have q10 : w7.cell? ⟨w.heap.size, 10, none⟩ = some (.slice A1 txns.length c1) := HBA.out _ hb 10
  go_wp2_with fail
  clear q10
  generalize hbs1 : ([] ++ le k 1 ++ le l 8 ++ le t 4 ++ le p 8 ++ le txns.length 1) = bs1 at *
  have Hbs1 := Sec.mk hbs1
  have hbl1 : bs1.length ≤ 1000 := by rw [← hbs1]; simp [le_length] <;> omega
  clear hbs1
  go_loopw [79] (fun i wr => ∃ j : Nat, j ≤ txns.length ∧ i = .int .i64 j ∧ WrAt B wr B (bs1 ++ flat txnBytes (txns.take j)) ∧ Below B w1 wr) (fun i _ => txns.length - (intOf i).toNat)
  case atStart => exact ⟨0, by omega, rfl, by simpa [flat] using hw, hb⟩
  case round =>
    obtain ⟨j, hj, rfl, hwr, hbr⟩ := hrel
    clear hw hb
    by_cases hlt : j < txns.length
    · have HTr := HH1.out.t.below (by rw [HBe.out]; exact hbr)
      obtain ⟨b, o, rfl, hc⟩ : ∃ b o, A1 = some ⟨b, o, none⟩ ∧ ∀ j u, (txCells txns)[j]? = some u → wr.cell? ⟨b, o + j, none⟩ = some u := by
        obtain ⟨_, _, A, c, e, _, _, h⟩ := HTr
        obtain ⟨b, o, e2, _, h2⟩ := h (by simp only; omega)
        injection e with e3
        exact ⟨b, o, e3.trans e2, h2⟩
      have g1 := txCells_get txns j hlt
      have k0 := hc _ _ g1.1
      have k1 := hc _ _ g1.2.1
      have k2 := hc _ _ g1.2.2
      rw [← Nat.add_assoc] at k1 k2
      have hokj := Htx.out txns[j] (List.getElem_mem hlt)
      have htk : txns.take (j + 1) = txns.take j ++ [txns[j]] := List.take_succ_eq_append_getElem hlt
      have hfl : (flat txnBytes (txns.take j)).length ≤ 832 := by rw [flat_length_tx]; simp; omega
      have Htk := Sec.mk htk
      clear g1 hc htk
      generalize txns[j] = tt at *
      obtain ⟨i1, s1, z1⟩ := tt
      obtain ⟨o1, o2, o3, o4, o5, o6⟩ := hokj
      simp only at o1 o2 o3 o4 o5 o6 k0 k1 k2
      obtain ⟨ii, rfl⟩ := Int.eq_ofNat_of_zero_le (show 0 ≤ i1 by omega)
      obtain ⟨ss, rfl⟩ := Int.eq_ofNat_of_zero_le o3
      obtain ⟨ll, rfl⟩ := Int.eq_ofNat_of_zero_le (show 0 ≤ z1 by omega)
      have hlw := hwr.lt
      have hwr0 : WrAt B (wr.alloc (.cells #[Value.int IntKind.i64 (ii : Int), Value.int IntKind.i64 (ss : Int), Value.int IntKind.u64 (ll : Int)] 136)) B (bs1 ++ flat txnBytes (txns.take j)) := hwr.below ((Below.refl _ _).alloc (Nat.le_refl _) _)
      go_wp2_with fail
      refine (Four_go B B ii (by omega) (bs1 ++ flat txnBytes (txns.take j)) _ (by simp [le_length] <;> omega) hwr0).mono ?_
      rintro e x1 ⟨rfl, hx1, hbx1⟩
      have hbt1 : Kp B B (wr.alloc (.cells #[Value.int IntKind.i64 (ii : Int), Value.int IntKind.i64 (ss : Int), Value.int IntKind.u64 (ll : Int)] 136)) x1 := hbx1
      have kb1 : x1.cell? ⟨wr.heap.size, 1, none⟩ = some (Value.int IntKind.i64 (ss : Int)) := bk_cell (hbt1.typ _ _ _ _ (bk_new wr _) (by decide) (by omega)) 1
      go_wp2_with fail
      refine (Byte_go B B ss (by omega) (bs1 ++ flat txnBytes (txns.take j) ++ le ii 4) _ (by simp [le_length] <;> omega) hx1).mono ?_
      rintro e x2 ⟨rfl, hx2, hbx2⟩
      have hbt2 : Kp B B (wr.alloc (.cells #[Value.int IntKind.i64 (ii : Int), Value.int IntKind.i64 (ss : Int), Value.int IntKind.u64 (ll : Int)] 136)) x2 := hbt1.trans hbx2
      have kb2 : x2.cell? ⟨wr.heap.size, 2, none⟩ = some (Value.int IntKind.u64 (ll : Int)) := bk_cell (hbt2.typ _ _ _ _ (bk_new wr _) (by decide) (by omega)) 2
      go_wp2_with fail
      refine (Eight_go B B ll (bs1 ++ flat txnBytes (txns.take j) ++ le ii 4 ++ le ss 1) _ (by simp [le_length] <;> omega) hx2).mono ?_
      rintro e x3 ⟨rfl, hx3, hbx3⟩
      have hbt3 : Kp B B (wr.alloc (.cells #[Value.int IntKind.i64 (ii : Int), Value.int IntKind.i64 (ss : Int), Value.int IntKind.u64 (ll : Int)] 136)) x3 := hbt2.trans hbx3
      go_wp2
      go_roundw
      case rel =>
        refine ⟨j + 1, by omega, by go_num, ?_, (hbr.alloc (by omega) _).trans hbt3.bel⟩
        rw [Htk.out, flat_snoc]
        simpa [txnBytes] using hx3
      case measure => simp [intOf]; omega
    · obtain rfl : j = txns.length := by omega
      rw [List.take_length] at hwr
      have hw := hwr
      have hb := hbr
      clear hlt hj hwr hbr
      have hfl : (flat txnBytes txns).length ≤ 832 := by rw [flat_length_tx]; omega
      obtain ⟨w30, rfl⟩ : ∃ w30, w30 = wr := ⟨_, rfl⟩
      have q11 : w30.cell? ⟨w.heap.size, 11, none⟩ = some (.slice A2 dirty.length c2) := HBA.out _ hb 11
      go_wp2_with fail
      refine (Byte_go B B dirty.length (by omega) (bs1 ++ flat txnBytes txns) _ (by simp [le_length, textOf] <;> omega) hw).mono ?_
      rintro e w31 ⟨rfl, hw', hb'⟩
      replace hb := hb.trans hb'.bel
      clear hw hb' q11
      have hw := hw'
      clear hw'
      have q11 : w31.cell? ⟨w.heap.size, 11, none⟩ = some (.slice A2 dirty.length c2) := HBA.out _ hb 11
      go_wp2_with fail
      clear q11
      generalize hbs2 : (bs1 ++ flat txnBytes txns ++ le dirty.length 1) = bs2 at *
      have Hbs2 := Sec.mk hbs2
      have hbl2 : bs2.length ≤ 3000 := by rw [← hbs2]; simp [le_length, flat_length_tx] <;> omega
      clear hbs2
      go_loopw [107] (fun i wr => ∃ j : Nat, j ≤ dirty.length ∧ i = .int .i64 j ∧ WrAt B wr B (bs2 ++ flat dirtyBytes (dirty.take j)) ∧ Below B w1 wr) (fun i _ => dirty.length - (intOf i).toNat)
      case atStart => exact ⟨0, by omega, rfl, by simpa [flat] using hw, hb⟩
      case round =>
        obtain ⟨j, hj, rfl, hwr, hbr⟩ := hrel
        clear hw hb
        by_cases hlt : j < dirty.length
        · have HTr := HH1.out.d.below (by rw [HBe.out]; exact hbr)
          obtain ⟨b, o, rfl, hc⟩ : ∃ b o, A2 = some ⟨b, o, none⟩ ∧ ∀ j u, (dyCells dirty)[j]? = some u → wr.cell? ⟨b, o + j, none⟩ = some u := by
            obtain ⟨_, _, A, c, e, _, _, h⟩ := HTr
            obtain ⟨b, o, e2, _, h2⟩ := h (by simp only; omega)
            injection e with e3
            exact ⟨b, o, e3.trans e2, h2⟩
          have g1 := dyCells_get dirty j hlt
          have k0 := hc _ _ g1.1
          have k1 := hc _ _ g1.2
          rw [← Nat.add_assoc] at k1
          have hokj := Hdx.out dirty[j] (List.getElem_mem hlt)
          have htk : dirty.take (j + 1) = dirty.take j ++ [dirty[j]] := List.take_succ_eq_append_getElem hlt
          have hfl : (flat dirtyBytes (dirty.take j)).length ≤ 160 := by rw [flat_length_dy]; simp; omega
          have Htk := Sec.mk htk
          clear g1 hc htk
          generalize dirty[j] = tt at *
          obtain ⟨i1, z1⟩ := tt
          obtain ⟨o1, o2, o5, o6⟩ := hokj
          simp only at o1 o2 o5 o6 k0 k1
          obtain ⟨ii, rfl⟩ := Int.eq_ofNat_of_zero_le o1
          obtain ⟨ll, rfl⟩ := Int.eq_ofNat_of_zero_le (show 0 ≤ z1 by omega)
          have hlw := hwr.lt
          have hwr0 : WrAt B (wr.alloc (.cells #[Value.int IntKind.i64 (ii : Int), Value.int IntKind.u64 (ll : Int)] 138)) B (bs2 ++ flat dirtyBytes (dirty.take j)) := hwr.below ((Below.refl _ _).alloc (Nat.le_refl _) _)
          go_wp2_with fail
          refine (Two_go B B ii (by omega) (bs2 ++ flat dirtyBytes (dirty.take j)) _ (by simp [le_length] <;> omega) hwr0).mono ?_
          rintro e x1 ⟨rfl, hx1, hbx1⟩
          have hbt1 : Kp B B (wr.alloc (.cells #[Value.int IntKind.i64 (ii : Int), Value.int IntKind.u64 (ll : Int)] 138)) x1 := hbx1
          have kb1 : x1.cell? ⟨wr.heap.size, 1, none⟩ = some (Value.int IntKind.u64 (ll : Int)) := bk_cell (hbt1.typ _ _ _ _ (bk_new wr _) (by decide) (by omega)) 1
          go_wp2_with fail
          refine (Eight_go B B ll (bs2 ++ flat dirtyBytes (dirty.take j) ++ le ii 2) _ (by simp [le_length] <;> omega) hx1).mono ?_
          rintro e x2 ⟨rfl, hx2, hbx2⟩
          have hbt2 : Kp B B (wr.alloc (.cells #[Value.int IntKind.i64 (ii : Int), Value.int IntKind.u64 (ll : Int)] 138)) x2 := hbt1.trans hbx2
          go_wp2
          go_roundw
          case rel =>
            refine ⟨j + 1, by omega, by go_num, ?_, (hbr.alloc (by omega) _).trans hbt2.bel⟩
            rw [Htk.out, flat_snoc]
            simpa [dirtyBytes] using hx2
          case measure => simp [intOf]; omega
        · obtain rfl : j = dirty.length := by omega
          rw [List.take_length] at hwr
          have hw := hwr
          have hb := hbr
          clear hlt hj hwr hbr
          have hfl2 : (flat dirtyBytes dirty).length ≤ 160 := by rw [flat_length_dy]; omega
          go_wp2_with fail
          generalize hcf : (bs2 ++ flat dirtyBytes dirty) = bsF at *
          have Hcf := Sec.mk hcf
          have hlf : bsF.length ≤ 5000 := by rw [← hcf]; simp [le_length, textOf, flat_length_tx, flat_length_dy] <;> omega
          clear hcf
          refine (Done_any B B bsF _ (by omega) hw).mono ?_
          rintro e w20 ⟨v', rfl, hrow, hb'⟩
          obtain ⟨A3, c3, rfl⟩ := row_shape hrow
          go_wp2
          go_ret2
          have hsz2 := hb.size
          have hsz3 := hb'.size
          have hbm1 : Below w.heap.size w1 _ := hb.mono (by have := HBe.out; omega)
          have hbm2 : Below w.heap.size _ w20 := hb'.mono (by have := HBe.out; omega)
          refine ⟨_, rfl, ?_, hB1.trans (hbm1.trans hbm2)⟩
          have hq := Hbody.out
          have h1 := Hbs1.out
          have h2 := Hbs2.out
          have h3 := Hcf.out
          simp only [List.append_assoc] at hq h1 h2 h3
          rw [show body ⟨k, l, t, p, u, pg, ⟨ak, key, old, nw⟩, txns, dirty⟩ = bsF by (rw [hq, ← h3, ← h2, ← h1] <;> simp [List.append_assoc])]
          exact row_lower (base' := w.heap.size) hrow (by have := HBe.out; omega)
theorem Encode_any (ok : Nat → Prop) (r : PRec) (vt vd : Value) (w : World) (H : RecSl w ok r vt vd) (hm : r.may) (hw : r.wf) :
    Calls Try.prog 82 #[.agg (rcs r vt vd).toArray] w fun e w' => ∃ v', e = .returned (.tuple #[v', .int .i64 0]) ∧ w'.ownsRow w.heap.size 5 1 v' (body r).length (bv (body r)) ∧ Below w.heap.size w w' := by
  obtain ⟨kind, lsn, txn, prev, undo, page, ⟨ak, key, old, nw⟩, txns, dirty⟩ := r
  have hm' := hm
  obtain ⟨m1, m2, m3, m4, m5, m6, m7, m8, m9, m10, m11⟩ := hm
  obtain ⟨v1, v2⟩ := hw
  have m3' : 16 ≤ lsn ∧ lsn ≤ 1152921504606846991 := m3
  simp only at m1 m2 m3' m4 m5 m6 m7 m8 m9 v1 v2
  have ht : 0 ≤ txn := by split at m7 <;> omega
  have hpa : 0 ≤ page ∧ 0 ≤ ak := by
    split at m6
    · have := m6.2.2.2.2.2.2
      simp only at this
      exact ⟨m6.1, by omega⟩
    · have h := m6.2
      unfold noAct at h
      injection h with h1
      exact ⟨by omega, by omega⟩
  obtain ⟨k, rfl⟩ := Int.eq_ofNat_of_zero_le (show 0 ≤ kind by omega)
  obtain ⟨l, rfl⟩ := Int.eq_ofNat_of_zero_le (show 0 ≤ lsn by omega)
  obtain ⟨t, rfl⟩ := Int.eq_ofNat_of_zero_le ht
  obtain ⟨p, rfl⟩ := Int.eq_ofNat_of_zero_le v1
  obtain ⟨u, rfl⟩ := Int.eq_ofNat_of_zero_le v2
  obtain ⟨pg, rfl⟩ := Int.eq_ofNat_of_zero_le hpa.1
  obtain ⟨a, rfl⟩ := Int.eq_ofNat_of_zero_le hpa.2
  have hl : l < 18446744073709551616 := by omega
  have hp : p < 18446744073709551616 := by omega
  have hu : u < 18446744073709551616 := by omega
  by_cases c2 : (k : Int) = 2
  · exact Encode_und ok k l t p u pg a key old nw txns dirty vt vd w H hm' ((chgB_iff _).2 (.inr c2)) (by simp [c2]) (by simp [c2]) hl hp hu
  · by_cases c1 : (k : Int) = 1
    · exact Encode_upd ok k l t p u pg a key old nw txns dirty vt vd w H hm' ((chgB_iff _).2 (.inl c1)) (by simp [c1]) (by simp [c1]) hl hp hu
    · have hno : chgB (k : Int) = false := by
        rw [Bool.eq_false_iff]; intro h
        rcases (chgB_iff _).1 h with h | h
        · exact c1 h
        · exact c2 h
      by_cases c8 : (k : Int) = 8
      · exact Encode_chk ok k l t p u pg a key old nw txns dirty vt vd w H hm' hno (by simp [c8]) (by simp [c8]) hl hp hu
      · exact Encode_oth ok k l t p u pg a key old nw txns dirty vt vd w H hm' hno (beq_eq_false_iff_ne.2 c2) (beq_eq_false_iff_ne.2 c8) hl hp hu
theorem body_length (r : PRec) (hm : r.may) : (body r).length ≤ 1200 := by
  obtain ⟨m1, m2, m3, m4, m5, m6, m7, m8, m9, m10, m11⟩ := hm
  have h1 := m10.1
  have h2 := m11.1
  unfold body
  split
  · rename_i hc
    rw [if_pos hc] at m6
    obtain ⟨_, _, _, a2, a3, a4, _⟩ := m6
    have : r.kind ≠ 8 := by rcases hc with h | h <;> omega
    rw [if_neg this]
    split <;> simp [le_length, textOf] <;> omega
  · split
    · rename_i h; rw [if_neg (by omega)]; simp [le_length]
    · split <;> simp [le_length, flat_length_tx, flat_length_dy] <;> omega
end Go.Proofs.Ytgnlhjphmaikkaa
