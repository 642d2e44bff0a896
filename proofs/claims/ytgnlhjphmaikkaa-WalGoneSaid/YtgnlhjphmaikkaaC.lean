/- Package crc, walked: the table, the sum of a row of bytes, Seal and Open. Conditions: the bytes are a slice that reads, shorter than 2^40. -/
import Derived.Test.YtgnlhjphmaikkaaB
import Derived.Laws.Tables
set_option linter.unusedVariables false
set_option linter.unusedSimpArgs false
namespace Go.Proofs.Ytgnlhjphmaikkaa
open Go.RowKit

theorem bits_u32 (op : BinOp) (x y : Int) : 0 ≤ bits op .u32 x y ∧ bits op .u32 x y < 4294967296 := by
  unfold bits
  simp only [IntKind.wrap, IntKind.signed, IntKind.bits]
  constructor
  · simp; omega
  · simp; omega
theorem and_le_u32 (x y : Int) (hy : 0 ≤ y) (h2 : y < 4294967296) : bits .and .u32 x y ≤ y := by
  have h : bits .and .u32 x y = (((BitVec.ofInt 32 x) &&& (BitVec.ofInt 32 y) : BitVec 32).toNat : Int) := by
    unfold bits
    simp only [IntKind.wrap, IntKind.signed, IntKind.bits]
    have := (BitVec.ofInt 32 x &&& BitVec.ofInt 32 y : BitVec 32).isLt
    simp only [Bool.false_and]
    show ((BitVec.ofInt 32 x &&& BitVec.ofInt 32 y : BitVec 32).toNat : Int) % 4294967296 = _
    omega
  rw [h, BitVec.toNat_and]
  have h3 := Nat.and_le_right (n := (BitVec.ofInt 32 x).toNat) (m := (BitVec.ofInt 32 y).toNat)
  have e : ((BitVec.ofInt 32 y).toNat : Int) = y := by
    rw [BitVec.toNat_ofInt]
    rw [Int.toNat_of_nonneg (Int.emod_nonneg _ (by decide))]
    exact Int.emod_eq_of_lt hy (by simpa using h2)
  omega

/-- One bit of the register. -/
def crcBit (n : Int) : Int := if bits .and .u32 n 1 == 1 then bits .xor .u32 (n / 2) 2197175160 else n / 2
def crcBits : Nat → Int → Int
  | 0, n => n
  | k + 1, n => crcBit (crcBits k n)
theorem crcBit_range (n : Int) (h : 0 ≤ n ∧ n < 4294967296) : 0 ≤ crcBit n ∧ crcBit n < 4294967296 := by
  unfold crcBit
  split
  · exact bits_u32 _ _ _
  · omega
theorem crcBits_range (k : Nat) (n : Int) (h : 0 ≤ n ∧ n < 4294967296) : 0 ≤ crcBits k n ∧ crcBits k n < 4294967296 := by
  induction k with
  | zero => exact h
  | succ k ih => exact crcBit_range _ ih
/-- The table behind j rounds. -/
def tabAt (j : Nat) : Array Value := ((List.range 16).map fun i => Value.int .u32 (if i < j then crcBits 4 (i : Int) else 0)).toArray
theorem tabAt_size (j : Nat) : (tabAt j).size = 16 := by simp [tabAt]
theorem tabAt_get (j i : Nat) (h : i < 16) : (tabAt j)[i]? = some (.int .u32 (if i < j then crcBits 4 (i : Int) else 0)) := by simp [tabAt, h]
theorem tabAt_set (j : Nat) (h : j < 16) : (tabAt j).setIfInBounds j (.int .u32 (crcBits 4 (j : Int))) = tabAt (j + 1) := by
  apply Array.ext_getElem?
  intro i
  by_cases hi : i < 16
  · rw [Array.getElem?_setIfInBounds, tabAt_size, tabAt_get _ _ hi, tabAt_get _ _ hi]
    by_cases e : j = i
    · subst e; simp [h]
    · have : (i < j + 1) = (i < j) := by simp; omega
      simp [e, this]
  · rw [Array.getElem?_eq_none (by simp [tabAt_size]; omega), Array.getElem?_eq_none (by simp [tabAt_size]; omega)]
theorem tabAt_zero : (#[Value.int IntKind.u32 0, Value.int IntKind.u32 0, Value.int IntKind.u32 0, Value.int IntKind.u32 0,
          Value.int IntKind.u32 0, Value.int IntKind.u32 0, Value.int IntKind.u32 0, Value.int IntKind.u32 0,
          Value.int IntKind.u32 0, Value.int IntKind.u32 0, Value.int IntKind.u32 0, Value.int IntKind.u32 0,
          Value.int IntKind.u32 0, Value.int IntKind.u32 0, Value.int IntKind.u32 0, Value.int IntKind.u32 0] : Array Value) = tabAt 0 := by
  simp [tabAt, List.range_succ]
theorem tabAt_one (j : Nat) : ((tabAt j).all (·.oneCell')) = true := by
  rw [Array.all_eq_true_iff_forall_mem]
  intro u hu
  simp [tabAt] at hu
  obtain ⟨i, _, rfl⟩ := hu
  rfl
theorem below_setRow {B g : Nat} {w w1 : World} (h : Below B w w1) (hg : B ≤ g) (cs : Array Value) : Below B w (w1.setRow g cs) :=
  ⟨h.os, h.tape, h.output, by simpa [World.setRow] using h.size, fun k hk => (setRow_other w1 g k cs (by omega)).trans (h.block k hk)⟩

set_option maxHeartbeats 800000 in
theorem steps_any (w : World) :
    Calls Try.prog 98 #[] w fun e w' => e = .returned (.agg (tabAt 16)) ∧ Below w.heap.size w w' := by
  go_enter Try.func98, Try.ntmps98
  go_wp2_with fail
  rw [tabAt_zero]
  go_loopw [4] (fun i wr => ∃ j : Nat, j ≤ 16 ∧ i = .int .i64 j ∧ Below w.heap.size w wr ∧ wr.heap[w.heap.size]? = some (.cells (tabAt 0) 172 (0, 0)) ∧ wr.heap[w.heap.size + 1]? = some (.cells (tabAt j) 172 (0, 0))) (fun i _ => 16 - (intOf i).toNat)
  case atStart => exact ⟨0, by omega, rfl, ((Below.refl _ _).alloc (Nat.le_refl _) _).alloc (by simp) _, heap_alloc2_old _ _ _, heap_alloc2_new _ _ _⟩
  case round =>
    obtain ⟨j, hj, rfl, HB, H0, H1⟩ := hrel
    by_cases hlt : j < 16
    · have hcj : wr.cell? ⟨w.heap.size + 1, j, none⟩ = some (.int .u32 0) := by rw [bk_cell H1, tabAt_get j j hlt]; simp
      have hfj : wr.frozen? ⟨w.heap.size + 1, j, none⟩ = false := bk_frozen H1 j
      have K0 := Sec.mk H0
      have K1 := Sec.mk H1
      clear H0 H1
      have hrg := crcBits_range 4 (j : Int) (by omega)
      go_wp2_with fail
      go_loopw [3, 9] (fun x i wx => ∃ k : Nat, k ≤ 4 ∧ x = .int .u32 (crcBits k (j : Int)) ∧ i = .int .i64 k ∧ wx = wr) (fun _ i _ => 4 - (intOf i).toNat)
      case atStart => exact ⟨0, by omega, by simp [crcBits], rfl, rfl⟩
      case round =>
        obtain ⟨k, hk, rfl, rfl, rfl⟩ := hrel
        by_cases hlk : k < 4
        · have hr := crcBits_range k (j : Int) (by omega)
          have hs : crcBits (k + 1) (j : Int) = crcBit (crcBits k (j : Int)) := rfl
          have Hs := Sec.mk hs
          clear hs
          generalize crcBits k (j : Int) = X at *
          go_wp2
          all_goals
            go_roundw
            case rel => exact ⟨k + 1, by omega, by rw [Hs.out]; simp [crcBit, *], by go_num, trivial⟩
            case measure => simp [intOf]; omega
        · obtain rfl : k = 4 := by omega
          generalize hX : crcBits 4 (j : Int) = X at *
          have HX := Sec.mk hX
          clear hX
          go_wp2
          go_roundw
          case rel =>
            refine ⟨j + 1, by omega, by go_num, HB.setCell (p := ⟨w.heap.size + 1, j, none⟩) (by simp) _, bk_far K0.out (by simp) _, ?_⟩
            rw [bk_set K1.out, ← HX.out, tabAt_set j hlt]
          case measure => simp [intOf]; omega
    · obtain rfl : j = 16 := by omega
      clear hlt
      go_wp2_with (first | (refine wpList_load_row rfl 172 _ rfl (w.heap.size + 1) rfl 172 (tabAt 16) (0, 0) _ H1 Try.underlying172 rfl (by rw [tabAt_size]; kernel_rfl) ?_) | (refine wpList_store_row rfl 172 _ _ rfl w.heap.size (tabAt 16) rfl rfl 172 (tabAt 0) H0 (by rw [tabAt_size]; kernel_rfl) (by rw [tabAt_size, tabAt_size]) (tabAt_one 16) ?_))
      refine bodyPost_ret (results_cell_row rfl _ _ w.heap.size 172 (tabAt 16) (0, 0) _ rfl (setRow_heap _ _ _ _ _ _ H0) Try.underlying172 rfl (by rw [tabAt_size]; kernel_rfl)) rfl ⟨rfl, below_setRow HB (Nat.le_refl _) _⟩

/-- A byte goes into the register: four bits and four bits. -/
def crcNib (n : Int) : Int := bits .xor .u32 (n / 16) (crcBits 4 (bits .and .u32 n 15))
def crcByte (n : Int) (b : UInt8) : Int := crcNib (crcNib (bits .xor .u32 n b.toNat))
def crcRun (n : Int) (bs : List UInt8) : Int := bs.foldl crcByte n
def crcNot (n : Int) : Int := bits .xor .u32 IntKind.u32.max n
theorem crcNib_range (n : Int) : 0 ≤ crcNib n ∧ crcNib n < 4294967296 := bits_u32 _ _ _
theorem crcByte_range (n : Int) (b : UInt8) : 0 ≤ crcByte n b ∧ crcByte n b < 4294967296 := crcNib_range _
theorem crcRun_range (bs : List UInt8) : ∀ n, (0 ≤ n ∧ n < 4294967296) → 0 ≤ crcRun n bs ∧ crcRun n bs < 4294967296 := by
  induction bs with
  | nil => intro n h; exact h
  | cons b t ih => intro n h; exact ih _ (crcByte_range n b)
theorem crcRun_snoc (n : Int) (bs : List UInt8) (b : UInt8) : crcRun n (bs ++ [b]) = crcByte (crcRun n bs) b := by simp [crcRun]

def crcMore (sum : Int) (bs : List UInt8) : Int := crcNot (crcRun (crcNot sum) bs)
theorem crcNot_range (n : Int) : 0 ≤ crcNot n ∧ crcNot n < 4294967296 := by
  unfold crcNot
  exact bits_u32 _ _ _
theorem crcMore_range (sum : Int) (bs : List UInt8) : 0 ≤ crcMore sum bs ∧ crcMore sum bs < 4294967296 := by
  unfold crcMore
  exact crcNot_range _
theorem take_snoc (bs : List UInt8) (k : Nat) (h : k < bs.length) : bs.take (k + 1) = bs.take k ++ [bs[k]] := by
  rw [List.take_succ_eq_append_getElem h]

set_option maxHeartbeats 800000 in
theorem more_any (sum : Int) (h0 : 0 ≤ sum) (h1 : sum < 4294967296) (ok : Nat → Prop) (v : Value) (bs : List UInt8) (w : World) (H : Sl w ok 1 v bs.length (bv bs)) :
    Calls Try.prog 84 #[.int .u32 sum, v] w fun e w' => e = .returned (.int .u32 (crcMore sum bs)) ∧ Below w.heap.size w w' := by
  have HS := Sec.mk H
  obtain ⟨_, hn, A, c, rfl, hnc, _, _⟩ := H
  go_enter Try.func84, Try.ntmps84
  go_wp2_with (first | (go_at_call 98; refine (steps_any _).mono ?_; rintro e w1 ⟨rfl, hb1⟩) | (refine wpList_store_row rfl 172 _ _ rfl _ (tabAt 16) rfl rfl 172 _ (bk_new _ _) (by rw [tabAt_size]; kernel_rfl) (by rw [tabAt_size]; rfl) (tabAt_one 16) ?_))
  have HB : Below w.heap.size w ((w1.alloc (.cells #[Value.int IntKind.u32 0, Value.int IntKind.u32 0, Value.int IntKind.u32 0, Value.int IntKind.u32 0,
          Value.int IntKind.u32 0, Value.int IntKind.u32 0, Value.int IntKind.u32 0, Value.int IntKind.u32 0,
          Value.int IntKind.u32 0, Value.int IntKind.u32 0, Value.int IntKind.u32 0, Value.int IntKind.u32 0,
          Value.int IntKind.u32 0, Value.int IntKind.u32 0, Value.int IntKind.u32 0, Value.int IntKind.u32 0] 172)).setRow w1.heap.size (tabAt 16)) :=
    below_setRow (hb1.alloc hb1.size _) hb1.size _
  have hT := setRow_heap _ _ _ (tabAt 16) _ _ (bk_new w1 (.cells #[Value.int IntKind.u32 0, Value.int IntKind.u32 0, Value.int IntKind.u32 0, Value.int IntKind.u32 0,
          Value.int IntKind.u32 0, Value.int IntKind.u32 0, Value.int IntKind.u32 0, Value.int IntKind.u32 0,
          Value.int IntKind.u32 0, Value.int IntKind.u32 0, Value.int IntKind.u32 0, Value.int IntKind.u32 0,
          Value.int IntKind.u32 0, Value.int IntKind.u32 0, Value.int IntKind.u32 0, Value.int IntKind.u32 0] 172))
  generalize ((w1.alloc (.cells #[Value.int IntKind.u32 0, Value.int IntKind.u32 0, Value.int IntKind.u32 0, Value.int IntKind.u32 0,
          Value.int IntKind.u32 0, Value.int IntKind.u32 0, Value.int IntKind.u32 0, Value.int IntKind.u32 0,
          Value.int IntKind.u32 0, Value.int IntKind.u32 0, Value.int IntKind.u32 0, Value.int IntKind.u32 0,
          Value.int IntKind.u32 0, Value.int IntKind.u32 0, Value.int IntKind.u32 0, Value.int IntKind.u32 0] 172)).setRow w1.heap.size (tabAt 16)) = W at *
  generalize w1.heap.size = g at *
  have hS := HS.out.below HB
  have hcell : ∀ i : Int, 0 ≤ i → i ≤ 15 → W.cell? ⟨g, i.toNat, none⟩ = some (.int .u32 (crcBits 4 i)) := by
    intro i i0 i1
    rw [bk_cell hT, tabAt_get _ _ (by omega), if_pos (by omega), Int.toNat_of_nonneg i0]
  have KT := Sec.mk hcell
  clear hT hcell
  go_loop [6, 14] (fun x i => ∃ k : Nat, k ≤ bs.length ∧ i = .int .i64 k ∧ x = .int .u32 (crcRun (crcNot sum) (bs.take k))) (fun _ i => bs.length - (intOf i).toNat)
  case atStart => exact ⟨0, by omega, rfl, rfl⟩
  case round =>
    obtain ⟨k, hk, rfl, rfl⟩ := hrel
    have hrg := crcRun_range (bs.take k) (crcNot sum) (crcNot_range _)
    by_cases hlt : k < bs.length
    · have hsn := crcRun_snoc (crcNot sum) (bs.take k) bs[k]
      rw [← take_snoc bs k hlt] at hsn
      obtain ⟨_, _, A', c', e', _, _, hrd⟩ := hS
      injection e' with e1 e2 e3
      subst e1 e3
      obtain ⟨b, o, rfl, _, hc⟩ := hrd (by omega)
      have hck := hc k _ (bv_get hlt)
      have Hsn := Sec.mk hsn
      clear hsn hc hrd HS
      have hu := (bs[k]).toNat_lt
      generalize hu' : (bs[k]).toNat = u at *
      have Hu := Sec.mk hu'
      clear hu'
      generalize crcRun (crcNot sum) (bs.take k) = X at *
      have y1 := bits_u32 .xor X u
      have y2 := bits_u32 .and (bits .xor .u32 X u) 15
      have y3 := and_le_u32 (bits .xor .u32 X u) 15 (by omega) (by omega)
      have z1 := bits_u32 .xor ((bits .xor .u32 X u) / 16) (crcBits 4 (bits .and .u32 (bits .xor .u32 X u) 15))
      have z2 := bits_u32 .and (bits .xor .u32 ((bits .xor .u32 X u) / 16) (crcBits 4 (bits .and .u32 (bits .xor .u32 X u) 15))) 15
      have z3 := and_le_u32 (bits .xor .u32 ((bits .xor .u32 X u) / 16) (crcBits 4 (bits .and .u32 (bits .xor .u32 X u) 15))) 15 (by omega) (by omega)
      have a1 := KT.out _ y2.1 y3
      have a2 := KT.out _ z2.1 z3
      have y4 : bits .and .u32 (bits .xor .u32 X u) 15 < 16 := by omega
      have z4 : bits .and .u32 (bits .xor .u32 ((bits .xor .u32 X u) / 16) (crcBits 4 (bits .and .u32 (bits .xor .u32 X u) 15))) 15 < 16 := by omega
      clear y3 z3
      obtain ⟨y1, y1'⟩ := y1
      obtain ⟨y2, y2'⟩ := y2
      obtain ⟨z1, z1'⟩ := z1
      obtain ⟨z2, z2'⟩ := z2
      go_wp2
      go_round
      case rel => exact ⟨k + 1, by omega, by go_num, by rw [Hsn.out]; unfold crcByte crcNib; rw [Hu.out]⟩
      case measure => simp [intOf]; omega
    · obtain rfl : k = bs.length := by omega
      rw [List.take_length]
      go_wp2
      go_ret
      exact ⟨rfl, HB⟩

theorem sum_any (ok : Nat → Prop) (v : Value) (bs : List UInt8) (w : World) (H : Sl w ok 1 v bs.length (bv bs)) :
    Calls Try.prog 69 #[v] w fun e w' => e = .returned (.int .u32 (crcMore 0 bs)) ∧ Below w.heap.size w w' := by
  go_enter Try.func69, Try.ntmps69
  go_wp2_with (go_at_call 84; refine (more_any 0 (by omega) (by omega) ok v bs _ H).mono ?_; rintro e w1 ⟨rfl, hb1⟩)
  go_ret
  exact ⟨rfl, hb1⟩

def crcSum (bs : List UInt8) : Nat := (crcMore 0 bs).toNat
theorem crcSum_cast (bs : List UInt8) : crcMore 0 bs = (crcSum bs : Int) := (Int.toNat_of_nonneg (crcMore_range 0 bs).1).symm
theorem crcSum_lt (bs : List UInt8) : crcSum bs < 4294967296 := by have := (crcMore_range 0 bs).2; rw [crcSum_cast] at this; omega
def sealed (bs : List UInt8) : List UInt8 := bs ++ le (crcSum bs) 4
theorem le_four (n : Nat) : le n 4 = [UInt8.ofNat (n % 256), UInt8.ofNat (n / 256 % 256), UInt8.ofNat (n / 65536 % 256), UInt8.ofNat (n / 16777216 % 256)] := by
  simp only [le, Nat.div_div_eq_div_mul]

theorem four_cells (n : Nat) (h : n < 4294967296) : [Value.int .u8 ((n : Int) % 256), .int .u8 ((n : Int) / 256 % 256), .int .u8 ((n : Int) / 65536 % 256), .int .u8 ((n : Int) / 16777216)] = bv (le n 4) := by
  rw [le_four]
  have t : ∀ m, (UInt8.ofNat m).toNat = m % 2 ^ 8 := fun m => by simp
  simp only [bv, List.map_cons, List.map_nil, t]
  have e1 : (n : Int) % 256 = ((n % 256 % 2 ^ 8 : Nat) : Int) := by omega
  have e2 : (n : Int) / 256 % 256 = ((n / 256 % 256 % 2 ^ 8 : Nat) : Int) := by omega
  have e3 : (n : Int) / 65536 % 256 = ((n / 65536 % 256 % 2 ^ 8 : Nat) : Int) := by omega
  have e4 : (n : Int) / 16777216 = ((n / 16777216 % 256 % 2 ^ 8 : Nat) : Int) := by omega
  rw [e1, e2, e3, e4]
set_option maxHeartbeats 800000 in
theorem Seal_any (ok : Nat → Prop) (v : Value) (bs : List UInt8) (w : World) (hl : bs.length ≤ 1000000) (H : Sl w ok 1 v bs.length (bv bs)) :
    Calls Try.prog 45 #[v] w fun e w' => ∃ v', e = .returned v' ∧ w'.ownsRow w.heap.size 5 1 v' (sealed bs).length (bv (sealed bs)) ∧ Below w.heap.size w w' := by
  have HS := Sec.mk H
  have hc := crcSum_lt bs
  go_enter Try.func45, Try.ntmps45
  go_wp2_with (first
    | (go_at_call 69; refine (sum_any ok v bs _ HS.out).mono ?_; rintro e w1 ⟨rfl, hb1⟩; rw [crcSum_cast bs])
    | (refine list_app_b w.heap.size rfl (.tmp 6) (.tmp 7) rfl (.slice (some ⟨w1.heap.size, 0, none⟩) 0 0) rfl v rfl [] bs (row_empty _ _ hb1.size) ok (bv bs) ((HS.out.below hb1).below ((Below.refl _ _).alloc (Nat.le_refl _) _)) rfl (by simp; have := hb1.size; omega) (by simp; omega) bs (by simp) ?_; intro A2 c2 w2 hown2 hgr2 hb2)
    | (refine list_app_b w.heap.size rfl (.tmp 8) (.tmp 20) rfl (.slice A2 bs.length c2) rfl (.slice (some ⟨w2.heap.size, 0, none⟩) 4 4) rfl bs (le (crcSum bs) 4) (hown2.alloc _) (fun b => b = w2.heap.size) [Value.int .u8 ((crcSum bs : Int) % 256), .int .u8 ((crcSum bs : Int) / 256 % 256), .int .u8 ((crcSum bs : Int) / 65536 % 256), .int .u8 ((crcSum bs : Int) / 16777216)] (sl_box w2.heap.size 1 4 (bk_new w2 _) rfl (by omega)) (four_cells _ hc) (by simp; have := hb2.size; have := hb1.size; simp at *; omega) (by simp [le_length]; omega) (sealed bs) rfl ?_; intro A3 c3 w3 hown3 hgr3 hb3))
  go_ret
  refine ⟨_, rfl, hown3, (((hb1.alloc hb1.size _).trans hb2).alloc (by have := hb2.size; have := hb1.size; simp at *; omega) _).trans hb3⟩

/-- What was sealed. -/
def opened (bs : List UInt8) : Option (List UInt8) :=
  if bs.length < 4 then none
  else if bs.drop (bs.length - 4) = le (crcSum (bs.take (bs.length - 4))) 4 then some (bs.take (bs.length - 4)) else none
theorem opened_sealed (bs : List UInt8) : opened (sealed bs) = some bs := by
  unfold opened sealed
  have : (bs ++ le (crcSum bs) 4).length - 4 = bs.length := by simp [le_length]
  rw [this, if_neg (by simp [le_length])]
  simp
def OpenPost (w : World) (bs : List UInt8) (e : Ending) (w' : World) : Prop :=
  Below w.heap.size w w' ∧ ((∃ x v', opened bs = some x ∧ e = .returned (.tuple #[v', .int .i64 0]) ∧ w'.ownsRow w.heap.size 5 1 v' x.length (bv x)) ∨
    (opened bs = none ∧ ∃ k : Int, k ≠ 0 ∧ e = .returned (.tuple #[.slice none 0 0, .int .i64 k])))
theorem run_shr_u32 (n j : Nat) (hj : j < 4) (w0 : World) : (Op.shift BinOp.shr IntKind.u32 (↑n) IntKind.i64 (IntKind.i64.wrap (8 * ↑j))).run Try.prog w0 = .ok (.int .u32 ((n / 2 ^ (8 * j) : Nat) : Int)) w0 := by
  rw [IntWalk.i64_in _ (by omega)]
  unfold Op.shift
  rw [if_neg (by omega)]
  have : min ((8 * (j : Int)).toNat) IntKind.u32.bits = 8 * j := by simp [IntKind.bits]; omega
  rw [this]
  simp only [Sem.run_pure]
  congr 2
  rw [Int.fdiv_eq_ediv_of_nonneg _ (by exact_mod_cast Nat.zero_le _)]
  push_cast
  rfl
theorem le_get (n k j : Nat) (h : j < k) : (le n k)[j]? = some (UInt8.ofNat (n / 2 ^ (8 * j) % 256)) := by
  induction k generalizing n j with
  | zero => omega
  | succ k ih =>
    cases j with
    | zero => simp [le]
    | succ j =>
      simp only [le, List.getElem?_cons_succ]
      rw [ih _ _ (by omega), Nat.div_div_eq_div_mul, show 8 * (j + 1) = 8 + 8 * j by omega, Nat.pow_add]

set_option maxHeartbeats 1600000 in
theorem Open_any (ok : Nat → Prop) (v : Value) (bs : List UInt8) (w : World) (hl : bs.length ≤ 1000000) (H : Sl w ok 1 v bs.length (bv bs)) :
    Calls Try.prog 76 #[v] w (OpenPost w bs) := by
  by_cases h4 : bs.length < 4
  · obtain ⟨_, hn, A, c, rfl, hnc, _, _⟩ := H
    go_enter Try.func76, Try.ntmps76
    go_wp2
    go_ret2
    exact ⟨Below.refl _ _, .inr ⟨by simp [opened, h4], 4, by omega, rfl⟩⟩
  · have HS := Sec.mk H
    obtain ⟨_, hn, A, c, rfl, hnc, _, _⟩ := H
    obtain ⟨k, hk⟩ : ∃ k, bs.length = k + 4 := ⟨bs.length - 4, by omega⟩
    have Hk := Sec.mk hk
    have hkl : (bs.take k).length = k := by rw [List.length_take]; omega
    have HT : Sec (Sl w ok 1 (.slice A k c) (bs.take k).length (bv (bs.take k))) := ⟨sl_take_bv HS.out k (by omega)⟩
    have hsub : IntKind.i64.wrap ((bs.length : Int) - 4) = (k : Int) := by rw [IntWalk.i64_in _ (by omega)]; omega
    have hcut := fun W => run_cut_to (P := Try.prog) 51 5 .i64 Try.underlying51 Try.info5 A bs.length c k (by omega) W
    have hs := crcSum_lt (bs.take k)
    have h4d : decide ((bs.length : Int) < 4) = false := by simp; omega
    clear hk
    go_enter Try.func76, Try.ntmps76
    go_wp2_with (first
      | (go_at_call 69; refine (sum_any ok _ (bs.take k) _ HT.out).mono ?_; rintro e w1 ⟨rfl, hb1⟩; rw [crcSum_cast (bs.take k)]))
    have hS1 := HS.out.below hb1
    have HS1 := Sec.mk hS1
    obtain ⟨_, _, A', c', e', _, _, hrd⟩ := hS1
    injection e' with e1 e2 e3
    subst e1 e3
    obtain ⟨b, o, rfl, _, hc⟩ := hrd (by omega)
    clear hrd e2
    have Hc := Sec.mk hc
    clear hc
    generalize hSv : crcSum (bs.take k) = S at *
    have HSv := Sec.mk hSv
    clear hSv
    go_loopw [17] (fun i wr => ∃ j : Nat, j ≤ 4 ∧ i = .int .i64 j ∧ (∃ nd, wr = w1.drewN nd) ∧ (bs.drop k).take j = (le S 4).take j) (fun i _ => 4 - (intOf i).toNat)
    case atStart => exact ⟨0, by omega, rfl, ⟨0, rfl⟩, rfl⟩
    case round =>
      obtain ⟨j, hj, rfl, ⟨nd, rfl⟩, heq⟩ := hrel
      have Heq := Sec.mk heq
      clear heq
      by_cases hlt : j < 4
      · have hkj : k + j < bs.length := by have := Hk.out; omega
        have hck : w1.cell? ⟨b, o + (k + j), none⟩ = some (.int .u8 ((bs[k + j]).toNat : Int)) := Hc.out (k + j) _ (bv_get hkj)
        have hsh := fun w0 => run_shr_u32 S j hlt w0
        have hwb := u8_wrap_ofNat (S / 2 ^ (8 * j))
        have hadd : IntKind.i64.wrap ((k : Int) + (j : Int)) = (k : Int) + (j : Int) := by rw [IntWalk.i64_in _ (by omega)]
        have hge := le_get S 4 j hlt
        have hj0 : (0:Int) ≤ (k : Int) + (j : Int) := by omega
        have hj1 : (k : Int) + (j : Int) < (bs.length : Int) := by omega
        have hto : ((k : Int) + (j : Int)).toNat = k + j := by omega
        have hcast : ((UInt8.ofNat (S / 2 ^ (8 * j) % 256)).toNat : Int) = (S : Int) / 2 ^ (8 * j) % 256 := by
          rw [← hwb]
          simp [IntKind.wrap, IntKind.bits, IntKind.signed]
        have hdk : (bs.drop k)[j]? = some bs[k + j] := by rw [List.getElem?_drop]; exact List.getElem?_eq_getElem hkj
        by_cases hbe : bs[k + j] = UInt8.ofNat (S / 2 ^ (8 * j) % 256)
        · have hb' : (((bs[k + j]).toNat : Int) != (S : Int) / 2 ^ (8 * j) % 256) = false := by rw [hbe, hcast]; simp
          have hgo : (bs.drop k).take (j + 1) = (le S 4).take (j + 1) := by
            rw [List.take_add_one, List.take_add_one, Heq.out, hdk, hge, hbe]
          have Hgo := Sec.mk hgo
          clear hgo hbe hcast hdk hge hwb
          go_wp2_with fail
          go_quiet (fail)
          go_wp2
          go_roundw
          case rel => exact ⟨j + 1, by omega, by go_num, ⟨_, rfl⟩, Hgo.out⟩
          case measure => simp [intOf]; omega
        · have hb' : (((bs[k + j]).toNat : Int) != (S : Int) / 2 ^ (8 * j) % 256) = true := by
            rw [← hcast, bne_iff_ne]
            intro e
            exact hbe (UInt8.toNat_inj.1 (by exact_mod_cast e))
          have hno : opened bs = none := by
            unfold opened
            rw [if_neg h4, show bs.length - 4 = k by have := Hk.out; omega, HSv.out, if_neg]
            intro e
            rw [e, hge] at hdk
            exact hbe (Option.some.inj hdk).symm
          have Hno := Sec.mk hno
          clear hno hbe hcast hdk hge hwb
          go_wp2_with fail
          go_quiet (fail)
          go_wp2
          go_ret2
          exact ⟨below_drewN (below_drewN hb1 _) _, .inr ⟨Hno.out, 6, by omega, rfl⟩⟩
      · obtain rfl : j = 4 := by omega
        have hyes : opened bs = some (bs.take k) := by
          unfold opened
          rw [if_neg h4, show bs.length - 4 = k by have := Hk.out; omega, HSv.out, if_pos]
          have := Heq.out
          rwa [List.take_of_length_le (by have := Hk.out; simp; omega), List.take_of_length_le (by simp [le_length])] at this
        have Hyes := Sec.mk hyes
        clear hyes hlt
        go_wp2_with (first
          | (refine list_app_b w.heap.size rfl (.tmp 33) (.tmp 36) rfl (.slice (some ⟨w1.heap.size, 0, none⟩) 0 0) rfl (.slice (some ⟨b, o, none⟩) k c) rfl [] (bs.take k) (row_empty _ _ (by simp; exact hb1.size)) ok (bv (bs.take k)) ((HT.out.below hb1).below (below_drewN ((Below.refl _ _).alloc (Nat.le_refl _) _) nd)) rfl (by simp; have := hb1.size; omega) (by simp; omega) (bs.take k) (by simp) ?_; intro A2 c2 w2 hown2 hgr2 hb2))
        go_ret2
        refine ⟨(below_drewN (hb1.alloc hb1.size _) nd).trans hb2, .inl ⟨bs.take k, .slice A2 k c2, Hyes.out, rfl, ?_⟩⟩
        rw [hkl] at hown2 ⊢
        exact hown2
end Go.Proofs.Ytgnlhjphmaikkaa
