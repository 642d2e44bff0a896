/- Package enc, its writer, walked: what each method lays behind what was laid. Conditions: the writer's bytes stay few. -/
import Derived.Test.YtgnlhjphmaikkaaB
import Derived.Lib.AppendStr
import Derived.Laws.Tables
set_option linter.unusedVariables false
set_option linter.unusedSimpArgs false
namespace Go.Proofs.Ytgnlhjphmaikkaa
open Go.RowKit

theorem le_snoc (k : Nat) : ∀ n, le n (k + 1) = le n k ++ [UInt8.ofNat (n / 2 ^ (8 * k) % 256)] := by
  induction k with
  | zero => intro n; simp [le]
  | succ k ih =>
    intro n
    rw [le, ih]
    have : n / 256 / 2 ^ (8 * k) = n / 2 ^ (8 * (k + 1)) := by
      rw [Nat.div_div_eq_div_mul]
      congr 1
      rw [show 8 * (k + 1) = 8 + 8 * k by omega, Nat.pow_add]
    rw [this]
    rfl
theorem run_shr_byte (n j : Nat) (hj : j < 8) (w0 : World) : (Op.shift BinOp.shr IntKind.u64 (↑n) IntKind.i64 (IntKind.i64.wrap (8 * ↑j))).run Try.prog w0 = .ok (.int .u64 ((n / 2 ^ (8 * j) : Nat) : Int)) w0 := by
  rw [IntWalk.i64_in _ (by omega)]
  unfold Op.shift
  rw [if_neg (by omega)]
  have : min ((8 * (j : Int)).toNat) IntKind.u64.bits = 8 * j := by simp [IntKind.bits]; omega
  rw [this]
  simp only [Sem.run_pure]
  congr 2
  rw [Int.fdiv_eq_ediv_of_nonneg _ (by exact_mod_cast Nat.zero_le _)]
  push_cast
  rfl

/-- A writer at block g that has laid bs; its bytes lie in a row of its own; all of it from block B on. -/
structure WrAt (B : Nat) (w : World) (g : Nat) (bs : List UInt8) : Prop where
  lo : B ≤ g
  row : ∃ v, w.heap[g]? = some (.cells #[v] 129 (0, 0)) ∧ w.ownsRow B 5 1 v bs.length (bv bs)
theorem WrAt.put {B g : Nat} {w1 : World} {v v1 : Value} {bs : List UInt8} (lo : B ≤ g) (hb : w1.heap[g]? = some (.cells #[v] 129 (0, 0)))
    (ho : w1.ownsRow B 5 1 v1 bs.length (bv bs)) : WrAt B (w1.setCell ⟨g, 0, none⟩ v1) g bs :=
  ⟨lo, v1, by simpa using bk_set hb 0 v1, row_set ho (row_ne ho hb (by decide)) v1⟩
theorem WrAt.lt {B g : Nat} {w : World} {bs : List UInt8} (h : WrAt B w g bs) : g < w.heap.size := by obtain ⟨_, v, hb, _⟩ := h; exact bk_lt hb
theorem below_put {B g : Nat} {w w1 : World} (h : Below B w w1) (lo : B ≤ g) (u : Value) : Below B w (w1.setCell ⟨g, 0, none⟩ u) := h.setCell (p := ⟨g, 0, none⟩) lo u
/-- A writer is kept by what only makes memory. -/
theorem WrAt.below {B g : Nat} {w w1 : World} {bs : List UInt8} (h : WrAt B w g bs) (hb : Below w.heap.size w w1) : WrAt B w1 g bs := by
  obtain ⟨lo, v, hblk, hown⟩ := h
  exact ⟨lo, v, bk_below hblk hb (bk_lt hblk), row_below hown hb⟩

/-- What a writer's methods leave alone: all below B, and every block that holds no bytes and is not the writer's own. -/
structure Kp (B g : Nat) (w w' : World) : Prop where
  bel : Below B w w'
  typ : ∀ b cs T fr, w.heap[b]? = some (.cells cs T fr) → T ≠ 5 → b ≠ g → w'.heap[b]? = some (.cells cs T fr)
theorem Kp.refl (B g : Nat) (w : World) : Kp B g w w := ⟨Below.refl _ _, fun _ _ _ _ h _ _ => h⟩
theorem Kp.trans {B g : Nat} {a b c : World} (h : Kp B g a b) (k : Kp B g b c) : Kp B g a c := ⟨h.bel.trans k.bel, fun i cs T fr h1 h2 h3 => k.typ i cs T fr (h.typ i cs T fr h1 h2 h3) h2 h3⟩
theorem Kp.put {B g : Nat} {w w1 : World} (h : Kp B g w w1) (lo : B ≤ g) (u : Value) : Kp B g w (w1.setCell ⟨g, 0, none⟩ u) :=
  ⟨below_put h.bel lo u, fun b cs T fr h1 h2 h3 => (Below.heap_setCell w1 ⟨g, 0, none⟩ u b h3).trans (h.typ b cs T fr h1 h2 h3)⟩
theorem Kp.alloc {B g : Nat} {w w1 : World} (h : Kp B g w w1) (hB : B ≤ w1.heap.size) (o : Obj) : Kp B g w (w1.alloc o) :=
  ⟨h.bel.alloc hB o, fun b cs T fr h1 h2 h3 => bk_alloc (h.typ b cs T fr h1 h2 h3) o⟩
theorem Kp.drew {B g : Nat} {w w1 : World} (h : Kp B g w w1) : Kp B g w w1.drew := ⟨h.bel.drew, h.typ⟩
theorem Kp.app {B g size n : Nat} {w w1 w2 : World} {v : Value} {xs : List Value} (h : Kp B g w w1) (hB : B ≤ w1.heap.size) (ho : w1.ownsRow B 5 size v n xs) (hg : w1.grownBy w2 v.ownBlock) : Kp B g w w2 :=
  ⟨h.bel.grown hg hB (row_base ho), fun b cs T fr h1 h2 h3 => bk_grown (h.typ b cs T fr h1 h2 h3) hg (row_ne ho (h.typ b cs T fr h1 h2 h3) (Ne.symm h2))⟩

set_option maxHeartbeats 400000 in
theorem New_any (w : World) :
    Calls Try.prog 42 #[] w fun e w' => e = .returned (.pointer (some ⟨w.heap.size, 0, none⟩)) ∧ WrAt w.heap.size w' w.heap.size [] ∧ Below w.heap.size w w' := by
  go_enter Try.func42, Try.ntmps42
  go_wp2
  go_ret
  exact ⟨rfl, ⟨Nat.le_refl _, _, bk_new _ _, World.ownsRow_nil _ _ _ _⟩, (Below.refl _ _).alloc (Nat.le_refl _) _⟩

set_option maxHeartbeats 4000000 in
theorem num_go (B g : Nat) (n : Nat) (k : Nat) (bs : List UInt8) (w : World) (hk : k ≤ 8) (hl : bs.length + k ≤ 1000000) (H : WrAt B w g bs) :
    Calls Try.prog 68 #[.pointer (some ⟨g, 0, none⟩), .int .u64 n, .int .i64 k] w fun e w' => e = .returned (.tuple #[]) ∧ WrAt B w' g (bs ++ le n k) ∧ Kp B g w w' := by
  obtain ⟨i0, hi0, hz0, hz1, hz2⟩ := info_parts Try.info5
  go_enter Try.func68, Try.ntmps68
  go_wp2_with fail
  go_loopw [10] (fun i wr => ∃ j : Nat, j ≤ k ∧ i = .int .i64 j ∧ WrAt B wr g (bs ++ le n j) ∧ Kp B g w wr) (fun i _ => k - (intOf i).toNat)
  case atStart => exact ⟨0, by omega, rfl, by simpa [le] using H, Kp.refl _ _ _⟩
  case round =>
    obtain ⟨j, hj, rfl, HW, HB⟩ := hrel
    by_cases hlt : j < k
    · obtain ⟨hlo, v, hblk, hown⟩ := HW
      have hc : wr.cell? ⟨g, 0, none⟩ = some v := bk_cell hblk 0
      have hca : ∀ o, (wr.alloc o).cell? ⟨g, 0, none⟩ = some v := fun o => bk_cell (bk_alloc hblk o) 0
      have hlg := bk_lt hblk
      have hne := row_ne hown hblk (by decide)
      have hln : (bs ++ le n j).length = bs.length + j := by simp [le_length]
      generalize hbs : (bs ++ le n j) = bs1 at *
      have Hbs := Sec.mk hbs
      clear hbs
      have Hln := Sec.mk hln
      clear hln
      go_wp2_with fail
      have hsh := fun w0 => run_shr_byte n j (by omega) w0
      go_region_law (
        (refine step_app_b B (by rfl) (.tmp 18) (.tmp 24) (by rfl) v (by rfl) (.slice (some ⟨wr.heap.size, 0, none⟩) 1 1) (by rfl) bs1 [UInt8.ofNat (n / 2 ^ (8 * j) % 256)] ((hown.alloc _).drew) (fun b => b = wr.heap.size) [.int .u8 (IntKind.u8.wrap (↑n / 2 ^ (8 * j)))]
            (sl_box wr.heap.size 1 1 (bk_drew (bk_new wr _)) rfl (by omega)) (by have := u8_wrap_ofNat (n / 2 ^ (8 * j)); push_cast at this; simp only [bv, List.map_cons, List.map_nil]; rw [this]) (by simp; omega) (by have := Hln.out; simp; omega) (bs1 ++ [UInt8.ofNat (n / 2 ^ (8 * j) % 256)]) rfl ?_
         intro A1 c1 w1 hown1 hgrow hbw
         have hblk1 := bk_grown (bk_drew (bk_alloc hblk _)) hgrow hne
         have hc1 : w1.cell? ⟨g, 0, none⟩ = some v := bk_cell hblk1 0
         have hf1 : w1.frozen? ⟨g, 0, none⟩ = false := bk_frozen hblk1 0))
      all_goals
        go_wp2
        go_roundw
        case rel =>
          refine ⟨j + 1, by omega, by go_num, ?_, ?_⟩
          · rw [le_snoc, ← List.append_assoc, Hbs.out]
            have := WrAt.put hlo hblk1 hown1
            simpa using this
          · exact ((((HB.alloc (by omega) _).drew).app (by simp; omega) ((hown.alloc _).drew) hgrow)).put hlo _
        case measure => simp [intOf]; omega
    · obtain rfl : j = k := by omega
      go_wp2
      go_end0
      exact ⟨rfl, HW, HB⟩

set_option maxHeartbeats 400000 in
theorem Byte_go (B g n : Nat) (hn : n < 256) (bs : List UInt8) (w : World) (hl : bs.length ≤ 900000) (H : WrAt B w g bs) :
    Calls Try.prog 94 #[.pointer (some ⟨g, 0, none⟩), .int .u8 n] w fun e w' => e = .returned (.tuple #[]) ∧ WrAt B w' g (bs ++ le n 1) ∧ Kp B g w w' := by
  have HS := Sec.mk H
  clear H
  go_enter Try.func94, Try.ntmps94
  go_wp2_with (go_at_call 68; refine (num_go B g n 1 bs _ (by omega) (by omega) HS.out).mono ?_; rintro e w1 ⟨rfl, hw1, hb1⟩)
  go_end0
  exact ⟨rfl, hw1, hb1⟩

set_option maxHeartbeats 400000 in
theorem Two_go (B g n : Nat) (hn : n < 65536) (bs : List UInt8) (w : World) (hl : bs.length ≤ 900000) (H : WrAt B w g bs) :
    Calls Try.prog 83 #[.pointer (some ⟨g, 0, none⟩), .int .u16 n] w fun e w' => e = .returned (.tuple #[]) ∧ WrAt B w' g (bs ++ le n 2) ∧ Kp B g w w' := by
  have HS := Sec.mk H
  clear H
  go_enter Try.func83, Try.ntmps83
  go_wp2_with (go_at_call 68; refine (num_go B g n 2 bs _ (by omega) (by omega) HS.out).mono ?_; rintro e w1 ⟨rfl, hw1, hb1⟩)
  go_end0
  exact ⟨rfl, hw1, hb1⟩

set_option maxHeartbeats 400000 in
theorem Four_go (B g n : Nat) (hn : n < 4294967296) (bs : List UInt8) (w : World) (hl : bs.length ≤ 900000) (H : WrAt B w g bs) :
    Calls Try.prog 43 #[.pointer (some ⟨g, 0, none⟩), .int .u32 n] w fun e w' => e = .returned (.tuple #[]) ∧ WrAt B w' g (bs ++ le n 4) ∧ Kp B g w w' := by
  have HS := Sec.mk H
  clear H
  go_enter Try.func43, Try.ntmps43
  go_wp2_with (go_at_call 68; refine (num_go B g n 4 bs _ (by omega) (by omega) HS.out).mono ?_; rintro e w1 ⟨rfl, hw1, hb1⟩)
  go_end0
  exact ⟨rfl, hw1, hb1⟩

set_option maxHeartbeats 400000 in
theorem Eight_go (B g n : Nat) (bs : List UInt8) (w : World) (hl : bs.length ≤ 900000) (H : WrAt B w g bs) :
    Calls Try.prog 95 #[.pointer (some ⟨g, 0, none⟩), .int .u64 n] w fun e w' => e = .returned (.tuple #[]) ∧ WrAt B w' g (bs ++ le n 8) ∧ Kp B g w w' := by
  have HS := Sec.mk H
  clear H
  go_enter Try.func95, Try.ntmps95
  go_wp2_with (go_at_call 68; refine (num_go B g n 8 bs _ (by omega) (by omega) HS.out).mono ?_; rintro e w1 ⟨rfl, hw1, hb1⟩)
  go_end0
  exact ⟨rfl, hw1, hb1⟩

theorem strCells_bv (l : List UInt8) : Lib.strCells ⟨l.toArray⟩ = bv l := by
  simp [Lib.strCells, bv]
set_option maxRecDepth 100000 in
set_option maxHeartbeats 1600000 in
theorem Text_go (B g : Nat) (l : List UInt8) (hn : l.length ≤ 60000) (bs : List UInt8) (w : World) (hl : bs.length ≤ 800000) (H : WrAt B w g bs) :
    Calls Try.prog 97 #[.pointer (some ⟨g, 0, none⟩), .string ⟨l.toArray⟩] w fun e w' => e = .returned (.tuple #[]) ∧ WrAt B w' g (bs ++ textOf l) ∧ Kp B g w w' := by
  obtain ⟨i0, hi0, hz0, hz1, hz2⟩ := info_parts Try.info5
  have HS := Sec.mk H
  clear H
  have hsz : (⟨l.toArray⟩ : ByteArray).size = l.length := by simp [ByteArray.size]
  have HA : Sec ((bs ++ le l.length 2).length + (⟨l.toArray⟩ : ByteArray).size ≤ maxLen) := ⟨by rw [hsz]; simp [le_length, maxLen]; omega⟩
  have HB : Sec ((bs ++ le l.length 2).length + (⟨l.toArray⟩ : ByteArray).size ≤ 140737488355328) := ⟨by rw [hsz]; simp [le_length]; omega⟩
  have h5 : decide ((65535 : Int) < (l.length : Int)) = false := by simp; omega
  go_enter Try.func97, Try.ntmps97
  go_wp2_with (first
    | (go_at_call 68; go_must (refine (num_go B g l.length 2 bs _ (by omega) (by omega) HS.out).mono ?_); rintro e w1 ⟨rfl, ⟨hlo, v1, hblk1, hown1⟩, hb1⟩; have hc1 : w1.cell? ⟨g, 0, none⟩ = some v1 := bk_cell hblk1 0)
    | (at_builtin; go_must (refine Lib.wpList_append_own_string _ rfl (.tmp 21) (.tmp 22) 51 9 rfl B 5 i0 Try.underlying51 Try.underlying9 hi0 hz0 hz1 hz2 v1 (bs ++ le l.length 2).length (bv (bs ++ le l.length 2)) rfl hown1 ⟨l.toArray⟩ rfl HA.out HB.out (by have := bk_lt hblk1; omega) ?_); intro v2 w2 hown2 hgr2 _; have hblk2 := bk_grown hblk1 hgr2 (row_ne hown1 hblk1 (by decide)); have hc2 : w2.cell? ⟨g, 0, none⟩ = some v1 := bk_cell hblk2 0; have hf2 : w2.frozen? ⟨g, 0, none⟩ = false := bk_frozen hblk2 0; obtain ⟨A2, c2, rfl⟩ := row_shape hown2))
  go_end0
  refine ⟨rfl, ?_, (hb1.app (by have := bk_lt hblk1; omega) hown1 hgr2).put hlo _⟩
  rw [strCells_bv, ← bv_append, hsz] at hown2
  have e : bs ++ textOf l = bs ++ le l.length 2 ++ l := by simp [textOf]
  rw [e]
  have hl2 : (bs ++ le l.length 2).length + l.length = (bs ++ le l.length 2 ++ l).length := by simp; omega
  rw [hl2] at hown2
  have := WrAt.put hlo hblk2 hown2
  rw [← hl2] at this
  simpa [hsz] using this

set_option maxHeartbeats 400000 in
theorem Done_any (B g : Nat) (bs : List UInt8) (w : World) (hl : bs.length ≤ 1000000) (H : WrAt B w g bs) :
    Calls Try.prog 46 #[.pointer (some ⟨g, 0, none⟩)] w fun e w' => ∃ v', e = .returned v' ∧ w'.ownsRow w.heap.size 5 1 v' bs.length (bv bs) ∧ Below w.heap.size w w' := by
  obtain ⟨hlo, v, hblk, hown⟩ := H
  have hc : w.cell? ⟨g, 0, none⟩ = some v := bk_cell hblk 0
  have hca : ∀ o, (w.alloc o).cell? ⟨g, 0, none⟩ = some v := fun o => bk_cell (bk_alloc hblk o) 0
  have HR := Sec.mk (Sl.of_row_bv hown (by omega))
  clear hown
  obtain ⟨A, c, rfl⟩ : ∃ A c, v = .slice A bs.length c := by obtain ⟨_, _, A, c, e, _⟩ := HR.out; exact ⟨A, c, e⟩
  go_enter Try.func46, Try.ntmps46
  go_wp2_with (refine list_app_b w.heap.size rfl (.tmp 5) (.tmp 10) rfl (.slice (some ⟨w.heap.size, 0, none⟩) 0 0) rfl (.slice A bs.length c) rfl [] bs (row_empty _ _ (by simp)) _ (bv bs) (HR.out.below ((Below.refl _ _).alloc (Nat.le_refl _) _)) rfl (by simp) (by simp; omega) bs (by simp) ?_; intro A2 c2 w2 hown2 hgr2 hb2)
  go_ret
  exact ⟨_, rfl, hown2, ((Below.refl _ _).alloc (Nat.le_refl _) _).trans hb2⟩
end Go.Proofs.Ytgnlhjphmaikkaa
