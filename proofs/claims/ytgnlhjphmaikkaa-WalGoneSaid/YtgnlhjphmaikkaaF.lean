/- Package enc, its reader, walked: each method takes off what the plain reader takes off. Conditions: the reader's bytes are few. -/
import Derived.Test.YtgnlhjphmaikkaaB
import Derived.Laws.Tables
import Derived.Laws.BytesArg
set_option linter.unusedVariables false
set_option linter.unusedSimpArgs false
namespace Go.Proofs.Ytgnlhjphmaikkaa
open Go.RowKit

/-- A reader at block g; its bytes lie in an elder block. -/
structure RdAt (w : World) (g : Nat) (s : Rd) : Prop where
  few : s.b.length ≤ 1000000
  row : ∃ v, w.heap[g]? = some (.cells #[v, .int .i64 s.err] 163 (0, 0)) ∧ Sl w (fun b => b < g) 1 v s.b.length (bv s.b)
theorem RdAt.lt {g : Nat} {w : World} {s : Rd} (h : RdAt w g s) : g < w.heap.size := by obtain ⟨_, v, hb, _⟩ := h; exact bk_lt hb
theorem RdAt.kept {g : Nat} {w w1 : World} {s : Rd} (h : RdAt w g s) (hm : ∀ i, i ≤ g → w1.heap[i]? = w.heap[i]?) : RdAt w1 g s := by
  obtain ⟨f, v, hb, hs⟩ := h
  exact ⟨f, v, (hm g (Nat.le_refl _)).trans hb, hs.move fun b hb _ => hm b (by omega)⟩
theorem RdAt.below {g : Nat} {w w1 : World} {s : Rd} (h : RdAt w g s) (hb : Below w.heap.size w w1) : RdAt w1 g s := h.kept fun i hi => hb.block i (by have := h.lt; omega)
theorem RdAt.grown {g : Nat} {w w1 : World} {s : Rd} (h : RdAt w g s) {row : Option Nat} (hg : w.grownBy w1 row) (hr : ∀ k, row = some k → g < k) : RdAt w1 g s :=
  h.kept fun i hi => hg.block i (by have := h.lt; omega) (fun e => by have := hr i e.symm; omega)

theorem grown_set {w w1 : World} {g : Nat} (h : w.grownBy w1 (some g)) (i : Nat) (u : Value) : w.grownBy (w1.setCell ⟨g, i, none⟩ u) (some g) :=
  ⟨h.os, h.tape, h.output, by simpa [World.setCell] using h.size, fun k hk hne => (Below.heap_setCell w1 ⟨g, i, none⟩ u k (fun e => hne (by simp [e]))).trans (h.block k hk hne)⟩
theorem grown_refl (w : World) (r : Option Nat) : w.grownBy w r := ⟨rfl, rfl, rfl, Nat.le_refl _, fun _ _ _ => rfl⟩
theorem grown_trans {w w1 w2 : World} {r : Option Nat} (h : w.grownBy w1 r) (k : w1.grownBy w2 r) : w.grownBy w2 r := World.grownBy.trans h k
theorem grown_below {w w1 : World} {B : Nat} (r : Option Nat) (h : Below B w w1) (hB : w.heap.size ≤ B) : w.grownBy w1 r := ⟨h.os, h.tape, h.output, h.size, fun k hk _ => h.block k (by omega)⟩

set_option maxHeartbeats 400000 in
theorem Err_any (g : Nat) (s : Rd) (w : World) (H : RdAt w g s) :
    Calls Try.prog 80 #[.pointer (some ⟨g, 0, none⟩)] w fun e w' => e = .returned (.int .i64 s.err) ∧ w = w' := by
  obtain ⟨_, v, hb, _⟩ := H
  have hc : w.cell? ⟨g, 1, none⟩ = some (.int .i64 s.err) := bk_cell hb 1
  clear hb
  go_enter Try.func80, Try.ntmps80
  go_wp2
  go_ret
  exact ⟨rfl, rfl⟩

set_option maxHeartbeats 800000 in
theorem take_any (g n : Nat) (hn : n ≤ 1000000) (s : Rd) (w : World) (H : RdAt w g s) :
    Calls Try.prog 101 #[.pointer (some ⟨g, 0, none⟩), .int .i64 n] w fun e w' => ∃ v', e = .returned v' ∧ Sl w' (fun b => b < g) 1 v' (s.take n).1.length (bv (s.take n).1) ∧ RdAt w' g (s.take n).2 ∧ w.grownBy w' (some g) := by
  have HH := Sec.mk H
  obtain ⟨hfew, v, hb, hs⟩ := H
  have hc0 : w.cell? ⟨g, 0, none⟩ = some v := bk_cell hb 0
  have hc1 : w.cell? ⟨g, 1, none⟩ = some (.int .i64 s.err) := bk_cell hb 1
  have hf0 : w.frozen? ⟨g, 0, none⟩ = false := bk_frozen hb 0
  have hf1 : w.frozen? ⟨g, 1, none⟩ = false := bk_frozen hb 1
  have HB := Sec.mk hb
  clear hb
  by_cases he : s.err = 0
  · have hee : (s.err != 0) = false := by simp [he]
    have Hs := Sec.mk hs
    obtain ⟨_, _, A, c, rfl, hnc, _, _⟩ := hs
    by_cases hlt : s.b.length < n
    · have hpure : s.take n = ([], ⟨s.b, 4⟩) := by unfold Rd.take; rw [if_neg (by simpa using he), if_pos hlt]
      have HP := Sec.mk hpure
      clear he hpure
      go_enter Try.func101, Try.ntmps101
      go_wp2
      go_ret
      rw [HP.out]
      refine ⟨_, rfl, Sl.nil _ _ _, ⟨hfew, .slice A s.b.length c, ?_, ?_⟩, grown_set (grown_refl _ _) 1 _⟩
      · simpa using bk_set HB.out 1 (.int .i64 4)
      · exact Hs.out.move fun b hb _ => Below.heap_setCell w ⟨g, 1, none⟩ _ b (by simp; omega)
    · have hpure : s.take n = (s.b.take n, ⟨s.b.drop n, 0⟩) := by unfold Rd.take; rw [if_neg (by simpa using he), if_neg hlt]
      have HP := Sec.mk hpure
      have Hz := Sec.mk he
      have hcut := fun W => run_cut_to (P := Try.prog) 51 5 .i64 Try.underlying51 Try.info5 A s.b.length c n (by omega) W
      have hdrop := fun W => run_cut (P := Try.prog) 51 5 .i64 Try.underlying51 Try.info5 A s.b.length c n (by omega) W
      clear he hpure
      go_enter Try.func101, Try.ntmps101
      go_wp2
      go_ret
      rw [HP.out]
      have hmv : ∀ (u : Value) (b : Nat), b < g → b < w.heap.size → (w.setCell ⟨g, 0, none⟩ u).heap[b]? = w.heap[b]? := fun u b hb _ => Below.heap_setCell w ⟨g, 0, none⟩ u b (by simp; omega)
      refine ⟨_, rfl, (sl_take_bv Hs.out n (by omega)).move (hmv _), ⟨by simp; omega, .slice (cutA A c n) (s.b.length - n) (c - n), ?_, (sl_drop_bv Hs.out n (by omega)).move (hmv _)⟩, grown_set (grown_refl _ _) 0 _⟩
      have := bk_set HB.out 0 (.slice (cutA A c n) (s.b.length - n) (c - n))
      simpa [Hz.out] using this
  · have hee : (s.err != 0) = true := by simp [he]
    have hpure : s.take n = ([], s) := by unfold Rd.take; rw [if_pos he]
    have HP := Sec.mk hpure
    clear he hpure hs
    go_enter Try.func101, Try.ntmps101
    go_wp2
    go_ret
    rw [HP.out]
    exact ⟨_, rfl, Sl.nil _ _ _, HH.out, grown_refl _ _⟩

theorem leNum_snoc (l : List UInt8) (b : UInt8) : leNum (l ++ [b]) = leNum l + b.toNat * 256 ^ l.length := by
  induction l with
  | nil => simp [leNum]
  | cons x l ih =>
    simp only [List.cons_append, leNum, ih, List.length_cons, Nat.pow_succ]
    have : b.toNat * (256 ^ l.length * 256) = 256 * (b.toNat * 256 ^ l.length) := by
      rw [← Nat.mul_assoc, Nat.mul_comm]
    omega
theorem wrap_shl (u j : Nat) (hj : j < 8) (hu : u < 256) : IntKind.u64.wrap ((u : Int) * 2 ^ (8 * j)) = ((u * 256 ^ j : Nat) : Int) := by
  have e : (u : Int) * 2 ^ (8 * j) = ((u * 256 ^ j : Nat) : Int) := by
    rw [Int.natCast_mul, Int.natCast_pow, Int.pow_mul]
    rfl
  rw [e]
  have h1 : 256 ^ j ≤ 256 ^ 7 := Nat.pow_le_pow_right (by omega) (by omega)
  have h2 : u * 256 ^ j < 18446744073709551616 := Nat.lt_of_le_of_lt (Nat.mul_le_mul (Nat.le_of_lt_succ hu) h1) (by decide)
  exact IntWalk.u64_in _ (by omega)
theorem num_eq (k : Nat) (s : Rd) : s.num k = (leNum (s.take k).1, (s.take k).2) := by
  unfold Rd.num Rd.take
  split
  · rfl
  · split
    · rfl
    · rfl
theorem take_len (k : Nat) (s : Rd) : (s.take k).1.length ≤ k := by
  unfold Rd.take
  split
  · simp
  · split
    · simp
    · simp; omega

set_option maxRecDepth 100000 in
set_option maxHeartbeats 1600000 in
theorem num_any (g k : Nat) (hk : k ≤ 8) (s : Rd) (w : World) (H : RdAt w g s) :
    Calls Try.prog 90 #[.pointer (some ⟨g, 0, none⟩), .int .i64 k] w fun e w' => e = .returned (.int .u64 ((s.num k).1 : Nat)) ∧ RdAt w' g (s.num k).2 ∧ w.grownBy w' (some g) := by
  have HH := Sec.mk H
  clear H
  rw [num_eq]
  have hlen := take_len k s
  go_enter Try.func90, Try.ntmps90
  generalize hx : s.take k = x at *
  have Hx := Sec.mk hx
  clear hx
  go_wp2_with (go_at_call 101; refine (take_any g k (by omega) s _ HH.out).mono ?_; rintro e w1 ⟨v1, rfl, hs1, hr1, hg1⟩; rw [Hx.out] at hs1 hr1; obtain ⟨_, _, A, c, rfl, hnc, _, hrd⟩ := hs1)
  generalize hbx : x.1 = bs at *
  have Hbx := Sec.mk hbx
  clear hbx
  have Hrd := Sec.mk hrd
  clear hrd
  go_loop [5, 12] (fun y i => ∃ j : Nat, j ≤ bs.length ∧ i = .int .i64 j ∧ y = .int .u64 ((leNum (bs.take j) : Nat) : Int)) (fun _ i => bs.length - (intOf i).toNat)
  case atStart => exact ⟨0, by omega, rfl, rfl⟩
  case round =>
    obtain ⟨j, hj, rfl, rfl⟩ := hrel
    by_cases hlt : j < bs.length
    · obtain ⟨b, o, rfl, _, hc⟩ := Hrd.out (by omega)
      have hck := hc j _ (bv_get hlt)
      clear hc
      have hu := (bs[j]).toNat_lt
      have hsn := leNum_snoc (bs.take j) bs[j]
      rw [← List.take_succ_eq_append_getElem hlt, List.length_take, Nat.min_eq_left hj] at hsn
      have hlt2 := leNum_lt (bs.take (j + 1))
      rw [List.length_take, Nat.min_eq_left (by omega), hsn] at hlt2
      have hp : 256 ^ (j + 1) ≤ 256 ^ 8 := Nat.pow_le_pow_right (by omega) (by omega)
      have hsum : leNum (bs.take j) + (bs[j]).toNat * 256 ^ j < 18446744073709551616 := Nat.lt_of_lt_of_le hlt2 (Nat.le_trans hp (by decide))
      have Hsn := Sec.mk hsn
      clear hsn hlt2 hp
      generalize hue : (bs[j]).toNat = u at *
      have Hue := Sec.mk hue
      clear hue
      have Hw := Sec.mk (wrap_shl u j (by omega) (by omega))
      generalize leNum (bs.take j) = N at *
      generalize u * 256 ^ j = M at *
      have Hw2 : Sec (IntKind.u64.wrap ((N : Int) + (M : Int)) = ((N + M : Nat) : Int)) := ⟨by rw [IntWalk.u64_in _ (by omega)]; omega⟩
      go_wp2
      go_round
      case rel => exact ⟨j + 1, by omega, by go_num, by rw [Hsn.out, Hw.out, Hw2.out]⟩
      case measure => simp [intOf]; omega
    · obtain rfl : j = bs.length := by omega
      rw [List.take_length]
      go_wp2
      go_ret
      exact ⟨by rw [Hbx.out]; rfl, hr1, hg1⟩


theorem num_lt_1 (s : Rd) : (s.num 1).1 < 256 := by
  rw [num_eq]
  have h1 := leNum_lt (s.take 1).1
  have h2 := take_len 1 s
  have h3 : 256 ^ (s.take 1).1.length ≤ 256 ^ 1 := Nat.pow_le_pow_right (by omega) h2
  exact Nat.lt_of_lt_of_le h1 h3
set_option maxRecDepth 100000 in
set_option maxHeartbeats 400000 in
theorem RByte_any (g : Nat) (s : Rd) (w : World) (H : RdAt w g s) :
    Calls Try.prog 102 #[.pointer (some ⟨g, 0, none⟩)] w fun e w' => e = .returned (.int .u8 ((s.num 1).1 : Nat)) ∧ RdAt w' g (s.num 1).2 ∧ w.grownBy w' (some g) := by
  have HS := Sec.mk H
  clear H
  have hlt := num_lt_1 s
  have HN := Sec.mk (num_any g 1 (by omega) s)
  go_enter Try.func102, Try.ntmps102
  generalize s.num 1 = y at *
  go_wp2_with (go_at_call 90; refine (HN.out _ HS.out).mono ?_; rintro e w1 ⟨rfl, hr1, hg1⟩)
  go_ret
  exact ⟨rfl, hr1, hg1⟩

theorem num_lt_2 (s : Rd) : (s.num 2).1 < 65536 := by
  rw [num_eq]
  have h1 := leNum_lt (s.take 2).1
  have h2 := take_len 2 s
  have h3 : 256 ^ (s.take 2).1.length ≤ 256 ^ 2 := Nat.pow_le_pow_right (by omega) h2
  exact Nat.lt_of_lt_of_le h1 h3
set_option maxRecDepth 100000 in
set_option maxHeartbeats 400000 in
theorem RTwo_any (g : Nat) (s : Rd) (w : World) (H : RdAt w g s) :
    Calls Try.prog 79 #[.pointer (some ⟨g, 0, none⟩)] w fun e w' => e = .returned (.int .u16 ((s.num 2).1 : Nat)) ∧ RdAt w' g (s.num 2).2 ∧ w.grownBy w' (some g) := by
  have HS := Sec.mk H
  clear H
  have hlt := num_lt_2 s
  have HN := Sec.mk (num_any g 2 (by omega) s)
  go_enter Try.func79, Try.ntmps79
  generalize s.num 2 = y at *
  go_wp2_with (go_at_call 90; refine (HN.out _ HS.out).mono ?_; rintro e w1 ⟨rfl, hr1, hg1⟩)
  go_ret
  exact ⟨rfl, hr1, hg1⟩

theorem num_lt_4 (s : Rd) : (s.num 4).1 < 4294967296 := by
  rw [num_eq]
  have h1 := leNum_lt (s.take 4).1
  have h2 := take_len 4 s
  have h3 : 256 ^ (s.take 4).1.length ≤ 256 ^ 4 := Nat.pow_le_pow_right (by omega) h2
  exact Nat.lt_of_lt_of_le h1 h3
set_option maxRecDepth 100000 in
set_option maxHeartbeats 400000 in
theorem RFour_any (g : Nat) (s : Rd) (w : World) (H : RdAt w g s) :
    Calls Try.prog 78 #[.pointer (some ⟨g, 0, none⟩)] w fun e w' => e = .returned (.int .u32 ((s.num 4).1 : Nat)) ∧ RdAt w' g (s.num 4).2 ∧ w.grownBy w' (some g) := by
  have HS := Sec.mk H
  clear H
  have hlt := num_lt_4 s
  have HN := Sec.mk (num_any g 4 (by omega) s)
  go_enter Try.func78, Try.ntmps78
  generalize s.num 4 = y at *
  go_wp2_with (go_at_call 90; refine (HN.out _ HS.out).mono ?_; rintro e w1 ⟨rfl, hr1, hg1⟩)
  go_ret
  exact ⟨rfl, hr1, hg1⟩

set_option maxRecDepth 100000 in
set_option maxHeartbeats 400000 in
theorem REight_any (g : Nat) (s : Rd) (w : World) (H : RdAt w g s) :
    Calls Try.prog 103 #[.pointer (some ⟨g, 0, none⟩)] w fun e w' => e = .returned (.int .u64 ((s.num 8).1 : Nat)) ∧ RdAt w' g (s.num 8).2 ∧ w.grownBy w' (some g) := by
  have HS := Sec.mk H
  clear H
  have HN := Sec.mk (num_any g 8 (by omega) s)
  go_enter Try.func103, Try.ntmps103
  generalize s.num 8 = y at *
  go_wp2_with (go_at_call 90; refine (HN.out _ HS.out).mono ?_; rintro e w1 ⟨rfl, hr1, hg1⟩)
  go_ret
  exact ⟨rfl, hr1, hg1⟩

/-- The first error, or that bytes are left. -/
def Rd.fin (s : Rd) : Int := if s.err = 0 ∧ 0 < s.b.length then 5 else s.err
set_option maxRecDepth 100000 in
set_option maxHeartbeats 800000 in
theorem End_any (g : Nat) (s : Rd) (w : World) (H : RdAt w g s) :
    Calls Try.prog 106 #[.pointer (some ⟨g, 0, none⟩)] w fun e w' => e = .returned (.int .i64 s.fin) ∧ w = w' := by
  have HS := Sec.mk H
  obtain ⟨_, v, hb, _, hn, A, c, rfl, hnc, _, _⟩ := H
  have hc : w.cell? ⟨g, 0, none⟩ = some (.slice A s.b.length c) := bk_cell hb 0
  clear hb
  by_cases he : s.err = 0
  · have hee : (s.err == 0) = true := by simp [he]
    by_cases hl : 0 < s.b.length
    · have hd : decide ((0 : Int) < (s.b.length : Int)) = true := by simp; omega
      have hf : s.fin = 5 := by unfold Rd.fin; rw [if_pos ⟨he, hl⟩]
      have Hf := Sec.mk hf
      clear hf he
      go_enter Try.func106, Try.ntmps106
      go_wp2_with (go_at_call 80; refine (Err_any g s _ HS.out).mono ?_; rintro e w1 ⟨rfl, rfl⟩)
      go_ret
      exact ⟨by rw [Hf.out]; rfl, rfl⟩
    · have hd : decide ((0 : Int) < (s.b.length : Int)) = false := decide_eq_false (by omega)
      have hf : s.fin = s.err := by unfold Rd.fin; rw [if_neg (by omega)]
      have Hf := Sec.mk hf
      clear hf he
      go_enter Try.func106, Try.ntmps106
      go_wp2_with (go_at_call 80; refine (Err_any g s _ HS.out).mono ?_; rintro e w1 ⟨rfl, rfl⟩)
      go_ret
      exact ⟨by rw [Hf.out]; rfl, rfl⟩
  · have hee : (s.err == 0) = false := by simp [he]
    have hf : s.fin = s.err := by unfold Rd.fin; rw [if_neg (fun h => he h.1)]
    have Hf := Sec.mk hf
    clear hf he
    go_enter Try.func106, Try.ntmps106
    go_wp2_with (go_at_call 80; refine (Err_any g s _ HS.out).mono ?_; rintro e w1 ⟨rfl, rfl⟩)
    go_ret
    exact ⟨by rw [Hf.out]; rfl, rfl⟩

set_option maxHeartbeats 800000 in
theorem Read_any (ok : Nat → Prop) (v : Value) (bs : List UInt8) (w : World) (hl : bs.length ≤ 1000000) (H : Sl w ok 1 v bs.length (bv bs)) :
    Calls Try.prog 77 #[v] w fun e w' => ∃ g, e = .returned (.pointer (some ⟨g, 0, none⟩)) ∧ w.heap.size ≤ g ∧ RdAt w' g ⟨bs, 0⟩ ∧ Below w.heap.size w w' := by
  have HS := Sec.mk H
  clear H
  go_enter Try.func77, Try.ntmps77
  go_wp2_with (refine list_app_b w.heap.size rfl (.tmp 3) (.tmp 4) rfl (.slice (some ⟨w.heap.size, 0, none⟩) 0 0) rfl v rfl [] bs (row_empty _ _ (by simp)) ok (bv bs) (HS.out.below ((Below.refl _ _).alloc (Nat.le_refl _) _)) rfl (by simp) (by simp; omega) bs (by simp) ?_; intro A2 c2 w2 hown2 hgr2 hb2)
  go_ret
  refine ⟨w2.heap.size, rfl, by have := hb2.size; simp at this; omega, ⟨hl, _, bk_new _ _, ?_⟩, (((Below.refl _ _).alloc (Nat.le_refl _) _).trans hb2).alloc (by have := hb2.size; simp at this; omega) _⟩
  have h1 := (Sl.of_row_bv hown2 (by omega)).bound (by omega)
  exact (h1.imp (fun b hb => hb.2)).below ((Below.refl _ _).alloc (Nat.le_refl _) _)

set_option maxRecDepth 20000 in
theorem conv_bytes (ok : Nat → Prop) (v : Value) (bs : List UInt8) (w : World) (H : Sl w ok 1 v bs.length (bv bs)) : (convert 51 9 v).run Try.prog w = .ok (.string ⟨bs.toArray⟩) w := by
  obtain ⟨h1, hn, A, c, rfl, hnc, h4, hrd⟩ := H
  cases A with
  | none =>
    obtain rfl : c = 0 := h4 rfl
    obtain rfl : bs = [] := List.eq_nil_of_length_eq_zero (by omega)
    exact run_convert_bytes_nil w 51 5 Try.underlying51 Try.underlying5 _ _ 9 Try.underlying9
  | some ad =>
    have key : ∀ b o : Nat, (∀ i, i < bs.length → w.cell? ⟨b, o + i, none⟩ = some (.int .u8 ((bs.map fun x => (x.toNat : Int)).getD i 0))) →
        (convert 51 9 (.slice (some ⟨b, o, none⟩) bs.length c)).run Try.prog w = .ok (.string ⟨bs.toArray⟩) w := by
      intro b o hc
      have := run_convert_bytes_arg (P := Try.prog) w 51 5 Try.underlying51 Try.underlying5 b o bs.length c (bs.map fun x => (x.toNat : Int)) (by simp) hc 9 Try.underlying9
      rw [this]
      congr 3
      unfold strOfNums
      congr 2
      rw [List.map_map]
      conv => rhs; rw [← List.map_id bs]
      apply List.map_congr_left
      intro x _
      simp
    rcases Nat.eq_zero_or_pos bs.length with h0 | h0
    · have : bs = [] := List.eq_nil_of_length_eq_zero h0
      subst this
      have := run_convert_bytes_string (P := Try.prog) w 51 9 5 (some ad) 0 c Try.underlying51 Try.underlying5 Try.underlying9
      simp only [List.length_nil]
      rw [this]
      simp [Conv.bytesToString, loadCells, loadCellsFrom]
      rfl
    · obtain ⟨b, o, e, _, hc⟩ := hrd h0
      injection e with e
      subst e
      refine key b o fun i hi => ?_
      rw [hc i _ (bv_get hi)]
      simp [List.getD, hi]

theorem RdAt.back {w w2 : World} {g : Nat} {v v3 : Value} {b : List UInt8} {e : Int} (hf : b.length ≤ 1000000) (hs : Sl w (fun b => b < g) 1 v b.length (bv b)) (hlt : g < w.heap.size) (hg : w.grownBy w2 (some g))
    (hb : w2.heap[g]? = some (.cells #[v3, .int .i64 e] 163 (0, 0))) : RdAt (w2.setCell ⟨g, 0, none⟩ v) g ⟨b, e⟩ := by
  refine ⟨hf, v, by simpa using bk_set hb 0 v, hs.move fun k hk hlt => ?_⟩
  rw [Below.heap_setCell w2 ⟨g, 0, none⟩ v k (by simp; omega)]
  exact hg.block k hlt (by simp; omega)
theorem RdAt.fail {w : World} {g : Nat} {b : List UInt8} {e e' : Int} (h : RdAt w g ⟨b, e⟩) : RdAt (w.setCell ⟨g, 1, none⟩ (.int .i64 e')) g ⟨b, e'⟩ := by
  obtain ⟨hf, v, hb, hs⟩ := h
  exact ⟨hf, v, by simpa using bk_set hb 1 (.int .i64 e'), hs.move fun k hk hlt => Below.heap_setCell w ⟨g, 1, none⟩ _ k (by simp; omega)⟩
set_option maxRecDepth 100000 in
set_option maxHeartbeats 1600000 in
theorem RText_any (g most : Nat) (hm : most ≤ 1000) (s : Rd) (w : World) (H : RdAt w g s) :
    Calls Try.prog 105 #[.pointer (some ⟨g, 0, none⟩), .int .i64 most] w fun e w' => e = .returned (.string ⟨(s.text most).1.toArray⟩) ∧ RdAt w' g (s.text most).2 ∧ w.grownBy w' (some g) := by
  have HS := Sec.mk H
  obtain ⟨hfew, v, hb, hs⟩ := H
  have hc0 : w.cell? ⟨g, 0, none⟩ = some v := bk_cell hb 0
  have hc1 : w.cell? ⟨g, 1, none⟩ = some (.int .i64 s.err) := bk_cell hb 1
  have Hs := Sec.mk hs
  obtain ⟨A, c, rfl⟩ : ∃ A c, v = .slice A s.b.length c := by obtain ⟨_, _, A, c, e, _⟩ := hs; exact ⟨A, c, e⟩
  have hgl := bk_lt hb
  clear hb hs
  by_cases he : s.err = 0
  · have hee : (s.err != 0) = false := by simp [he]
    have HN := Sec.mk (num_any g 2 (by omega) s)
    by_cases h2 : s.b.length < 2
    · have hx : s.num 2 = (0, ⟨s.b, 4⟩) := by unfold Rd.num; rw [if_neg (by simpa using he), if_pos h2]
      have hp : s.text most = ([], ⟨s.b, 4⟩) := by
        unfold Rd.text
        rw [if_neg (by simpa using he), hx]
        simp [Rd.take]
      rw [hx] at HN
      have HT := Sec.mk (take_any g 0 (by omega) ⟨s.b, 4⟩)
      have ht : (⟨s.b, 4⟩ : Rd).take 0 = ([], ⟨s.b, 4⟩) := by simp [Rd.take]
      rw [ht] at HT
      have HP := Sec.mk hp
      clear he hp hx ht h2
      go_enter Try.func105, Try.ntmps105
      go_wp2_with (first
        | (go_at_call 90; refine (HN.out _ HS.out).mono ?_; rintro e w1 ⟨rfl, hr1, hg1⟩; have HR1 := Sec.mk hr1; obtain ⟨_, v1, hb1, _⟩ := hr1; have hc2 : w1.cell? ⟨g, 1, none⟩ = some (.int .i64 4) := bk_cell hb1 1)
        | (go_at_call 101; refine (HT.out _ HR1.out).mono ?_; rintro e w2 ⟨v2, rfl, hs2, hr2, hg2⟩; have hcv := conv_bytes _ v2 [] w2 hs2; clear hs2; obtain ⟨_, v3, hb2, _⟩ := hr2; have hc3 : w2.cell? ⟨g, 1, none⟩ = some (.int .i64 4) := bk_cell hb2 1; have hc4 : w2.cell? ⟨g, 0, none⟩ = some v3 := bk_cell hb2 0; have hf4 : w2.frozen? ⟨g, 0, none⟩ = false := bk_frozen hb2 0))
      go_ret
      rw [HP.out]
      exact ⟨rfl, RdAt.back hfew Hs.out hgl (hg1.trans hg2) hb2, grown_set (hg1.trans hg2) 0 _⟩
    · obtain ⟨N, hN⟩ : ∃ N, N = leNum (s.b.take 2) := ⟨_, rfl⟩
      have hx : s.num 2 = (N, ⟨s.b.drop 2, 0⟩) := by unfold Rd.num; rw [if_neg (by simpa using he), if_neg h2, hN]
      have hNb := num_lt_2 s
      rw [hx] at HN hNb
      simp only at hNb
      have ht : s.text most = (let s1 : Rd := if most < N then ⟨s.b.drop 2, 3⟩ else ⟨s.b.drop 2, 0⟩; let y := s1.take N; if y.2.err ≠ 0 then ([], ⟨s.b, y.2.err⟩) else y) := by
        unfold Rd.text
        rw [if_neg (by simpa using he), hx]
        simp
      clear hN hx
      by_cases hmN : most < N
      · have hd1 : decide ((max (most : Int) 0) < (N : Int)) = true := by simp; omega
        rw [if_pos hmN] at ht
        simp only [Rd.take] at ht
        have HT := Sec.mk (take_any g N (by omega) ⟨s.b.drop 2, 3⟩)
        have htk : (⟨s.b.drop 2, 3⟩ : Rd).take N = ([], ⟨s.b.drop 2, 3⟩) := by simp [Rd.take]
        rw [htk] at HT
        have HP : Sec (s.text most = ([], ⟨s.b, 3⟩)) := ⟨by rw [ht]; simp⟩
        clear ht htk he
        go_enter Try.func105, Try.ntmps105
        go_wp2_with (first
          | (go_at_call 90; refine (HN.out _ HS.out).mono ?_; rintro e w1 ⟨rfl, hr1, hg1⟩; have HR1 := Sec.mk hr1; obtain ⟨_, v1, hb1, hs1⟩ := hr1; have hc2 : w1.cell? ⟨g, 1, none⟩ = some (.int .i64 0) := bk_cell hb1 1; have hf2 : w1.frozen? ⟨g, 1, none⟩ = false := bk_frozen hb1 1)
          | (go_at_call 101; refine (HT.out _ HR1.out.fail).mono ?_; rintro e w2 ⟨v2, rfl, hs2, hr2, hg2⟩; have hcv := conv_bytes _ v2 [] w2 hs2; clear hs2; obtain ⟨_, v3, hb2, _⟩ := hr2; have hc3 : w2.cell? ⟨g, 1, none⟩ = some (.int .i64 3) := bk_cell hb2 1; have hc4 : w2.cell? ⟨g, 0, none⟩ = some v3 := bk_cell hb2 0; have hf4 : w2.frozen? ⟨g, 0, none⟩ = false := bk_frozen hb2 0))
        go_ret
        rw [HP.out]
        exact ⟨rfl, RdAt.back hfew Hs.out hgl ((grown_set hg1 1 _).trans hg2) hb2, grown_set ((grown_set hg1 1 _).trans hg2) 0 _⟩
      · have hd1 : decide ((max (most : Int) 0) < (N : Int)) = false := by simp; omega
        rw [if_neg hmN] at ht
        by_cases hl2 : (s.b.drop 2).length < N
        · have htk : (⟨s.b.drop 2, 0⟩ : Rd).take N = ([], ⟨s.b.drop 2, 4⟩) := by unfold Rd.take; rw [if_neg (by simp), if_pos hl2]
          have HT := Sec.mk (take_any g N (by omega) ⟨s.b.drop 2, 0⟩)
          rw [htk] at HT
          have HP : Sec (s.text most = ([], ⟨s.b, 4⟩)) := ⟨by rw [ht]; simp only [htk]; simp⟩
          clear ht htk he
          go_enter Try.func105, Try.ntmps105
          go_wp2_with (first
            | (go_at_call 90; refine (HN.out _ HS.out).mono ?_; rintro e w1 ⟨rfl, hr1, hg1⟩; have HR1 := Sec.mk hr1; obtain ⟨_, v1, hb1, hs1⟩ := hr1; have hc2 : w1.cell? ⟨g, 1, none⟩ = some (.int .i64 0) := bk_cell hb1 1; have hf2 : w1.frozen? ⟨g, 1, none⟩ = false := bk_frozen hb1 1)
            | (go_at_call 101; refine (HT.out _ HR1.out).mono ?_; rintro e w2 ⟨v2, rfl, hs2, hr2, hg2⟩; have hcv := conv_bytes _ v2 [] w2 hs2; clear hs2; obtain ⟨_, v3, hb2, _⟩ := hr2; have hc3 : w2.cell? ⟨g, 1, none⟩ = some (.int .i64 4) := bk_cell hb2 1; have hc4 : w2.cell? ⟨g, 0, none⟩ = some v3 := bk_cell hb2 0; have hf4 : w2.frozen? ⟨g, 0, none⟩ = false := bk_frozen hb2 0))
          go_ret
          rw [HP.out]
          exact ⟨rfl, RdAt.back hfew Hs.out hgl (hg1.trans hg2) hb2, grown_set (hg1.trans hg2) 0 _⟩
        · have htk : (⟨s.b.drop 2, 0⟩ : Rd).take N = ((s.b.drop 2).take N, ⟨(s.b.drop 2).drop N, 0⟩) := by unfold Rd.take; rw [if_neg (by simp), if_neg hl2]
          have HT := Sec.mk (take_any g N (by omega) ⟨s.b.drop 2, 0⟩)
          rw [htk] at HT
          have HP : Sec (s.text most = ((s.b.drop 2).take N, ⟨(s.b.drop 2).drop N, 0⟩)) := ⟨by rw [ht]; simp only [htk]; simp⟩
          clear ht htk he
          generalize (s.b.drop 2).take N = x at *
          generalize (s.b.drop 2).drop N = y at *
          go_enter Try.func105, Try.ntmps105
          go_wp2_with (first
            | (go_at_call 90; refine (HN.out _ HS.out).mono ?_; rintro e w1 ⟨rfl, hr1, hg1⟩; have HR1 := Sec.mk hr1; obtain ⟨_, v1, hb1, hs1⟩ := hr1; have hc2 : w1.cell? ⟨g, 1, none⟩ = some (.int .i64 0) := bk_cell hb1 1; have hf2 : w1.frozen? ⟨g, 1, none⟩ = false := bk_frozen hb1 1)
            | (go_at_call 101; refine (HT.out _ HR1.out).mono ?_; rintro e w2 ⟨v2, rfl, hs2, hr2, hg2⟩; have hcv := conv_bytes _ v2 x w2 hs2; clear hs2; have HR2 := Sec.mk hr2; obtain ⟨_, v3, hb2, _⟩ := hr2; have hc3 : w2.cell? ⟨g, 1, none⟩ = some (.int .i64 0) := bk_cell hb2 1))
          go_ret
          rw [HP.out]
          exact ⟨rfl, HR2.out, hg1.trans hg2⟩
  · have hee : (s.err != 0) = true := by simp [he]
    have hp : s.text most = ([], s) := by unfold Rd.text; rw [if_pos he]
    have HP := Sec.mk hp
    clear he hp
    go_enter Try.func105, Try.ntmps105
    go_wp2
    go_ret
    rw [HP.out]
    exact ⟨rfl, HS.out, grown_refl _ _⟩
end Go.Proofs.Ytgnlhjphmaikkaa
