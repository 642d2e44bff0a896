/- Package flotillalaw09, walked: light, lives. Conditions: as each statement says. -/
import Derived.Test.YtgnlhjphmaikkaaZR
set_option linter.unusedVariables false
set_option linter.unusedSimpArgs false
namespace Go.Proofs.Ytgnlhjphmaikkaa
open Go.RowKit

/-- Is a record short? -/
def lightB (r : PRec) : Bool := decide ((r.txns.length : Int) ≤ 100) && decide ((r.dirty.length : Int) ≤ 100) && decide (wrap64 (wrap64 ((r.act.key.length : Int) + (r.act.old.length : Int)) + (r.act.new.length : Int)) ≤ 1000)
set_option maxRecDepth 100000 in
set_option maxHeartbeats 800000 in
theorem light_any (r : PRec) (vt vd : Value) (w : World) (hs : (∃ A c, vt = .slice A r.txns.length c) ∧ ∃ A c, vd = .slice A r.dirty.length c) :
    Calls Try.prog 11 #[.agg (rcs r vt vd).toArray] w fun e w' => e = .returned (.bool (lightB r)) ∧ Below w.heap.size w w' := by
  obtain ⟨⟨A1, c1, rfl⟩, A2, c2, rfl⟩ := hs
  have hbx := bk_new w (.cells (rcs r (.slice A1 r.txns.length c1) (.slice A2 r.dirty.length c2)).toArray 41)
  have HB := Sec.mk ((Below.refl w.heap.size w).alloc (Nat.le_refl _) (.cells (rcs r (.slice A1 r.txns.length c1) (.slice A2 r.dirty.length c2)).toArray 41))
  have HBX := Sec.mk hbx
  clear hbx
  simp only [rcs] at HBX HB
  obtain ⟨L, HL⟩ : ∃ L, Sec (lightB r = L) := ⟨_, ⟨rfl⟩⟩
  rw [HL.out]
  unfold lightB at HL
  have l1 : (⟨r.act.key.toArray⟩ : ByteArray).size = r.act.key.length := by simp [ByteArray.size]
  have l2 : (⟨r.act.old.toArray⟩ : ByteArray).size = r.act.old.length := by simp [ByteArray.size]
  have l3 : (⟨r.act.new.toArray⟩ : ByteArray).size = r.act.new.length := by simp [ByteArray.size]
  go_enter Try.func11, Try.ntmps11
  simp only [rcs]
  go_upto_region 1 with fail
  generalize w.alloc _ = W at *
  obtain ⟨q0, q1, q2, q3, q4, q5, q6, q7, q8, q9, q10, q11⟩ := box12 (r := r) (vt := .slice A1 r.txns.length c1) (vd := .slice A2 r.dirty.length c2) HBX.out
  by_cases h1 : (r.txns.length : Int) ≤ 100
  · by_cases h2 : (r.dirty.length : Int) ≤ 100
    · have hL : decide (wrap64 (wrap64 ((r.act.key.length : Int) + (r.act.old.length : Int)) + (r.act.new.length : Int)) ≤ 1000) = L := by rw [← HL.out, decide_eq_true h1, decide_eq_true h2]; simp
      clear HL
      have HLL := Sec.mk hL
      clear hL
      go_wp2
      go_ret
      refine ⟨?_, HB.out⟩
      have hL := HLL.out
      simp only [hL]
      rfl
    · have hL : false = L := by rw [← HL.out, decide_eq_false h2]; simp
      subst hL
      go_wp2
      go_ret
      exact ⟨rfl, HB.out⟩
  · have hL : false = L := by rw [← HL.out, decide_eq_false h1]; simp
    subst hL
    go_wp2
    go_ret
    exact ⟨rfl, HB.out⟩
theorem lightB_few {r : PRec} (h : lightB r = true) : r.txns.length ≤ 100 ∧ r.dirty.length ≤ 100 := by
  unfold lightB at h
  rw [Bool.and_eq_true, Bool.and_eq_true, decide_eq_true_eq, decide_eq_true_eq] at h
  omega

/-! ### A new device tells nothing -/
theorem zero_le (n : Nat) : leNum (List.replicate n 0) = 0 := by
  induction n with
  | zero => rfl
  | succ n ih => rw [List.replicate_succ, leNum, ih]; rfl
theorem unframe_nil : unframe [] = none := unframe_short [] _ rfl (.inl (by simp [Rd.num]))
theorem toldOf_zero (n : Nat) (h : 8 ≤ n) : toldOf (List.replicate n 0) = 0 := by
  unfold toldOf
  have e : ((List.replicate n (0 : UInt8)).drop 0).take 8 = List.replicate 8 0 := by rw [List.drop_zero, List.take_replicate]; congr 1; omega
  rw [e]
  have ho : opened (List.replicate 8 (0 : UInt8)) = none ∨ opened (List.replicate 8 (0 : UInt8)) = some (List.replicate 4 0) := by
    unfold opened
    rw [if_neg (by simp)]
    split
    · right; simp [List.take_replicate]
    · left; rfl
  rcases ho with h1 | h1
  · rw [h1]
  · rw [h1]
    simp only
    have : ((⟨List.replicate 4 0, 0⟩ : Rd).num 4).1 = 0 := by
      unfold Rd.num
      rw [if_neg (by simp), if_neg (by simp)]
      show leNum (List.take 4 (List.replicate 4 0)) = 0
      rw [List.take_replicate, zero_le]
    rw [this]
    split <;> rfl
theorem stands_zero (n : Nat) (h : 64 ≤ n) : stands (List.replicate n 0) = [] := by
  unfold stands
  rw [if_neg (by simpa using h), toldOf_zero n (by omega), List.take_zero, scanP_none _ _ unframe_nil]
def dev0 (n : Nat) : PDev := ⟨List.replicate n 0, List.replicate 8 none⟩
theorem dev0_len (n : Nat) : (dev0 n).b.length = n := by simp [dev0]
theorem dev0_up (n k : Nat) (h : k < 8) : (dev0 n).up[k]? = some none := by
  show (List.replicate 8 (none : Option (Nat × List UInt8)))[k]? = some none
  rw [List.getElem?_replicate, if_pos h]
theorem openP_zero (n hand : Nat) (h : 64 ≤ n) : openP (dev0 n).b hand = ⟨[], 0, 0, 0, 0, false, 0, hand⟩ := by
  unfold openP dev0
  simp only [stands_zero n h]
  rfl

/-! ### lives -/
def rec0 : PRec := ⟨3, 33, 7, 0, 0, 0, noAct, [], []⟩
theorem rec0_may : rec0.may := by
  refine ⟨by decide, by decide, ⟨by decide, by decide⟩, by decide, by decide, ?_, ?_, fun _ => ⟨rfl, rfl⟩, fun _ => rfl, ⟨by decide, by simp [rec0], by simp [rec0]⟩, ⟨by decide, by simp [rec0], by simp [rec0]⟩⟩
  · rw [if_neg (by decide)]; exact ⟨rfl, rfl⟩
  · rw [if_neg (by decide)]; exact ⟨by decide, by decide⟩
theorem rec0_frame : (frame rec0).length = 27 := by
  rw [frame_length]
  have : (body rec0).length = 21 := by
    unfold body
    rw [if_neg (by decide), if_neg (by decide), if_neg (by decide)]
    simp [le_length]
  omega
def lg0 : PLog := ⟨[], 0, 0, 0, 0, false, 0, 0⟩
def lg1 : PLog := ⟨[(rec0, frame rec0)], 27, 0, 0, 0, false, 0, 0⟩
theorem lg1_of : joinP lg0 rec0 (lg0.room 192 : Nat) = (lg1, 0) := by
  unfold joinP
  rw [if_pos ⟨rec0_may, by simp [lg0, lastOf, rec0]⟩, if_neg (by rw [rec0_frame]; simp [lg0, PLog.room])]
  simp [lg0, lg1, rec0_frame]
set_option maxRecDepth 100000 in
set_option maxHeartbeats 1600000 in
theorem lives_any (w : World) : Calls Try.prog 9 #[] w fun e w' => e = .returned (.bool true) ∧ Below w.heap.size w w' := by
  have hnew := New8 192 w (by omega) (by omega)
  rw [show ((192 : Nat) : Int) = 192 from rfl] at hnew
  have HN := Sec.mk hnew
  clear hnew
  go_enter Try.func9, Try.ntmps9
  go_wp2_with fail
  refine HN.out.mono ?_
  rintro e w1 ⟨dg, db, rfl, h1, h2, h3, h4⟩
  have hop := Open_ok w.heap.size dg db (dev0 192) 0 w1 h1 (by rw [dev0_len]; omega) (by omega) (dev0_up 192 0 (by omega)) h4.size h2 h3
  rw [openP_zero 192 0 (by omega), show ((0 : Nat) : Int) = 0 from rfl] at hop
  have HO := Sec.mk hop
  have HB1 := Sec.mk h4
  clear h1 h2 h3 h4 hop
  go_wp2_with fail
  refine HO.out.mono ?_
  rintro e w2 ⟨lg, rfl, g1, g2, g3⟩
  have HL := Sec.mk g1
  have HB2 := Sec.mk (HB1.out.trans (g2.mono HB1.out.size))
  clear g1 g2 g3
  have hap := Append_any HL.out (fun _ => True) rec0 (.slice none 0 0) (.slice none 0 0) ⟨⟨by simp [rec0, txCells], by simp [rec0], none, 0, rfl, by simp [rec0], fun _ => rfl, fun h => by simp [rec0] at h⟩, ⟨by simp [rec0, dyCells], by simp [rec0], none, 0, rfl, by simp [rec0], fun _ => rfl, fun h => by simp [rec0] at h⟩⟩ ⟨by decide, by decide⟩ (by decide) (by decide)
  rw [dev0_len] at hap
  change Calls _ _ _ _ (fun e w' => e = Ending.returned (.int .i64 (joinP lg0 rec0 (lg0.room 192 : Nat)).2) ∧ LogAt w' _ _ _ _ (joinP lg0 rec0 (lg0.room 192 : Nat)).1 _ ∧ _) at hap
  rw [lg1_of] at hap
  have HA := Sec.mk hap
  simp only [rcs, rec0, noAct] at HA
  clear hap
  go_wp2_with (go_at_call 12; refine HA.out.mono ?_; rintro e w3 ⟨rfl, g1, g2⟩; have HL3 := Sec.mk g1; have HK3 := Sec.mk g2; clear g1 g2)
  refine (Room_any HL3.out).mono ?_
  rintro e w4 ⟨rfl, m, hw4⟩
  rw [dev0_len, show lg1.room 192 = 101 from rfl]
  have hB4 : Below w3.heap.size w3 w4 := by rw [hw4]; exact below_drewN (Below.refl _ _) m
  have HL4 := Sec.mk (HL3.out.below hB4)
  have HK4 := Sec.mk (HK3.out.below hB4)
  clear hw4 hB4
  have hfo := Force_any HL4.out rfl (by decide) (dev0_up 192 0 (by omega)) (by rw [dev0_len])
  have HF := Sec.mk hfo
  clear hfo
  go_wp2_with (go_at_call 13; refine HF.out.mono ?_; rintro e w5 ⟨rfl, g1, g2⟩; have HL5 := Sec.mk g1; have HK5 := Sec.mk g2; clear g1 g2)
  obtain ⟨bs, hbs⟩ : ∃ bs, (forceD lg1 (dev0 192)).up[(forceG lg1).hand]? = some (some (64 + lg1.at0, bs)) := ⟨_, by simp only [forceD, PDev.start, forceG]; exact List.getElem?_set_self (by simp [dev0, lg1])⟩
  have hlen5 : 64 ≤ (forceD lg1 (dev0 192)).b.length := by simp only [forceD, PDev.start]; rw [dev0_len]; omega
  have hd1 := Done_first HL5.out (by decide) rfl _ bs hbs hlen5
  have HD1 := Sec.mk hd1
  clear hd1 hlen5
  refine HD1.out.mono ?_
  rintro e w6 ⟨rfl, g1, g2⟩
  have HL6 := Sec.mk g1
  have HK6 := Sec.mk g2
  clear g1 g2
  have hs6 := Stable_any HL6.out
  rw [show lsnAt (done1G (forceG lg1)).l (done1G (forceG lg1)).stable = 0 from rfl] at hs6
  have HS6 := Sec.mk hs6
  clear hs6
  go_wp2_with (go_at_call 25; refine HS6.out.mono ?_; rintro e w7 ⟨rfl, rfl⟩)
  obtain ⟨bs2, hbs2⟩ : ∃ bs2, (done1D (forceG lg1) (forceD lg1 (dev0 192)) (64 + lg1.at0) bs).up[(done1G (forceG lg1)).hand]? = some (some (0, bs2)) := ⟨_, by simp only [done1D, PDev.start, done1G, forceG]; exact List.getElem?_set_self (by simp [PDev.fin, forceD, PDev.start, dev0, lg1])⟩
  have hd2 := Done_second HL6.out (by decide) rfl _ bs2 hbs2
  have HD2 := Sec.mk hd2
  clear hd2
  refine HD2.out.mono ?_
  rintro e w8 ⟨rfl, g1, g2⟩
  have HL8 := Sec.mk g1
  have HK8 := Sec.mk g2
  clear g1 g2
  have hs8 := Stable_any HL8.out
  rw [show lsnAt (done2G (done1G (forceG lg1))).l (done2G (done1G (forceG lg1))).stable = 33 from rfl] at hs8
  have HS8 := Sec.mk hs8
  clear hs8
  go_wp2_with (go_at_call 25; refine HS8.out.mono ?_; rintro e w9 ⟨rfl, rfl⟩)
  go_ret
  have hb1 := HL4.out.b1
  have hb2 := HL4.out.b2
  have hb3 := HL4.out.b3
  have hP : ∀ b t, Pwal lg dg db w.heap.size b t → w.heap.size ≤ b := fun b t hp => by
    rcases hp with (⟨rfl, _⟩ | ⟨h, _⟩) | ⟨rfl, _⟩ | ⟨rfl, _⟩ <;> assumption
  refine ⟨rfl, ?_⟩
  have k4 : Below w.heap.size w w4 := HB2.out.trans (HK4.out.low HB2.out.size (Plg_low hb1))
  exact ((k4.trans (HK5.out.low k4.size hP)).trans (HK6.out.low (k4.trans (HK5.out.low k4.size hP)).size hP)).trans (HK8.out.low ((k4.trans (HK5.out.low k4.size hP)).trans (HK6.out.low (k4.trans (HK5.out.low k4.size hP)).size hP)).size hP)
end Go.Proofs.Ytgnlhjphmaikkaa
