/- Package wal, walked: told, fill.lay, entry.lay. Conditions: as each statement says. -/
import Derived.Test.YtgnlhjphmaikkaaR
set_option linter.unusedVariables false
set_option linter.unusedSimpArgs false
namespace Go.Proofs.Ytgnlhjphmaikkaa
open Go.RowKit

/-- What a device's mark tells. -/
def toldOf (b : List UInt8) : Nat :=
  match opened ((b.drop 0).take 8) with
  | none => 0
  | some x => if (b.length : Int) - 64 < (((⟨x, 0⟩ : Rd).num 4).1 : Nat) then 0 else ((⟨x, 0⟩ : Rd).num 4).1
set_option maxRecDepth 100000 in
set_option maxHeartbeats 1600000 in
theorem told_any (dg db : Nat) (D : PDev) (w : World) (H : DevAt w dg db D) (hl : 64 ≤ D.b.length) :
    Calls Try.prog 65 #[.pointer (some ⟨dg, 0, none⟩)] w fun e w' => e = .returned (.int .i64 (toldOf D.b : Nat)) ∧ Below w.heap.size w w' := by
  have hlen := H.ok.2.1
  have hr := Sec.mk (DRead_any dg db D 0 8 w H (by omega))
  have HH := Sec.mk H
  have e8 : ((D.b.drop 0).take 8).length = 8 := by simp; omega
  have E8 := Sec.mk e8
  clear H e8
  obtain ⟨T, HT⟩ : ∃ T, Sec (toldOf D.b = T) := ⟨_, ⟨rfl⟩⟩
  rw [HT.out]
  have HT2 := HT
  unfold toldOf at HT
  generalize (D.b.drop 0).take 8 = hd at *
  go_enter Try.func65, Try.ntmps65
  go_wp2_with (go_at_call 24; refine hr.out.mono ?_; rintro e w1 ⟨v1, rfl, h1, h2⟩; have HR1 := Sec.mk h1; have HB1 := Sec.mk h2; clear h1 h2)
  refine (Open_any _ _ hd w1 (by rw [E8.out]; omega) (Sl.of_row_bv HR1.out (by rw [E8.out]; omega))).mono ?_
  rintro e w2 ⟨hb2, ⟨x, v', ho, rfl, hrx⟩ | ⟨ho, k, hk, rfl⟩⟩
  · have HO := Sec.mk ho
    have hxl := opened_length _ _ ho
    rw [E8.out] at hxl
    have HR2 := Sec.mk hrx
    have hB2 := HB1.out.trans (hb2.mono HB1.out.size)
    have HB2 := Sec.mk hB2
    clear ho hrx hb2 hB2
    go_wp2_with fail
    refine (Read_any _ _ x w2 (by omega) (Sl.of_row_bv HR2.out (by omega))).mono ?_
    rintro e w3 ⟨g, rfl, hg, hrd, hb3⟩
    have hgw : w.heap.size ≤ g := by have := HB2.out.size; omega
    have HRD := Sec.mk hrd
    have HB3 := Sec.mk (HB2.out.trans (hb3.mono HB2.out.size))
    clear hrd hb3 hg
    have d4 := num_lt_4 ⟨x, 0⟩
    go_wp2_with fail
    refine (RFour_any g ⟨x, 0⟩ w3 HRD.out).mono ?_
    rintro e w4 ⟨rfl, hr4, hg4⟩
    have HB4 := Sec.mk (grown_bel HB3.out hg4 HB3.out.size hgw)
    have HD4 := Sec.mk (HH.out.below HB4.out)
    clear hr4 hg4
    have HTT : Sec (((D.b.length : Int) - 64 < (((⟨x, 0⟩ : Rd).num 4).1 : Nat) → T = 0) ∧ (¬ (D.b.length : Int) - 64 < (((⟨x, 0⟩ : Rd).num 4).1 : Nat) → T = ((⟨x, 0⟩ : Rd).num 4).1)) := ⟨by
      have := HT.out
      rw [HO.out] at this
      simp only at this
      constructor
      · intro h; rw [if_pos h] at this; exact this.symm
      · intro h; rw [if_neg h] at this; exact this.symm⟩
    clear HT
    generalize ((⟨x, 0⟩ : Rd).num 4).1 = n at *
    have hw0 : IntKind.i64.wrap (n : Int) = (n : Int) := IntWalk.i64_in _ (by omega)
    have hw1 : IntKind.i64.wrap ((D.b.length : Int) - 64) = (D.b.length : Int) - 64 := IntWalk.i64_in _ (by omega)
    by_cases hn : (D.b.length : Int) - 64 < (n : Int)
    · go_wp2_with (go_at_call 38; refine (Size_any dg db D _ HD4.out).mono ?_; rintro e w5 ⟨rfl, rfl⟩)
      go_ret
      refine ⟨?_, HB4.out⟩
      rw [HTT.out.1 hn]; rfl
    · go_wp2_with (go_at_call 38; refine (Size_any dg db D _ HD4.out).mono ?_; rintro e w5 ⟨rfl, rfl⟩)
      go_ret
      refine ⟨?_, HB4.out⟩
      rw [HTT.out.2 (by omega)]; rfl
  · have HO := Sec.mk ho
    have hkk : (k == 0) = false := by simp [hk]
    have HB2 := Sec.mk (HB1.out.trans (hb2.mono HB1.out.size))
    clear ho hk hb2
    go_wp2
    go_ret
    refine ⟨?_, HB2.out⟩
    rw [← HT.out, HO.out]; rfl
/-- Noughts up to a multiple of a sector. -/
def fillTo (b : List UInt8) : List UInt8 := b ++ List.replicate ((64 - b.length % 64) % 64) 0
theorem fillTo_length (b : List UInt8) : (fillTo b).length % 64 = 0 ∧ b.length ≤ (fillTo b).length ∧ (fillTo b).length < b.length + 64 := by
  simp [fillTo]; omega

theorem fillTo_none (b : List UInt8) (h : b.length % 64 = 0) : fillTo b = b := by simp [fillTo, h]
theorem fillTo_step (b : List UInt8) (h : b.length % 64 ≠ 0) : fillTo (b ++ [0]) = fillTo b := by
  unfold fillTo
  rw [List.append_assoc]
  congr 1
  rw [show [(0 : UInt8)] = List.replicate 1 0 from rfl, List.replicate_append_replicate]
  congr 1
  simp; omega
set_option maxRecDepth 100000 in
set_option maxHeartbeats 1600000 in
theorem fill_any (B : Nat) (v : Value) (bs : List UInt8) (w : World) (hl : bs.length ≤ 1000000) (hB : B ≤ w.heap.size) (H : w.ownsRow B 5 1 v bs.length (bv bs)) :
    Calls Try.prog 44 #[.agg #[], v] w fun e w' => ∃ v', e = .returned v' ∧ w'.ownsRow B 5 1 v' (fillTo bs).length (bv (fillTo bs)) ∧ Below B w w' := by
  have HS := Sec.mk H
  obtain ⟨A, c, rfl⟩ := row_shape H
  clear H
  obtain ⟨T, HT⟩ : ∃ T, Sec (fillTo bs = T) := ⟨_, ⟨rfl⟩⟩
  rw [HT.out]
  go_enter Try.func44, Try.ntmps44
  go_wp2_with fail
  go_loopw [1] (fun p wr => ∃ (x : List UInt8) (A : Option Addr) (c : Nat), p = .slice A x.length c ∧ fillTo x = T ∧ x.length ≤ T.length ∧ wr.ownsRow B 5 1 (.slice A x.length c) x.length (bv x) ∧ Below B w wr) (fun p _ => T.length - (match p with | .slice _ n _ => n | _ => 0))
  case atStart => exact ⟨bs, A, c, rfl, HT.out, by rw [← HT.out]; exact (fillTo_length bs).2.1, HS.out.alloc _, (Below.refl _ _).alloc hB _⟩
  case round =>
    obtain ⟨x, A, c, rfl, hf, hxl, hr, hb⟩ := hrel
    have HF := Sec.mk hf
    have HR := Sec.mk hr
    have HB := Sec.mk hb
    have hBw : B ≤ wr.heap.size := by have := hb.size; omega
    have hTl : T.length < bs.length + 64 := by rw [← HT.out]; exact (fillTo_length bs).2.2
    clear hf hr hb
    by_cases hm : x.length % 64 = 0
    · have hmb : ((x.length : Int) % 64 != 0) = false := by simp; omega
      have HM := Sec.mk hm
      clear hm
      go_wp2
      go_ret
      have e : x = T := by rw [← HF.out, fillTo_none x HM.out]
      rw [← e]
      exact ⟨_, rfl, HR.out, HB.out⟩
    · have hmb : ((x.length : Int) % 64 != 0) = true := by simp; omega
      have hlt : x.length + 1 ≤ T.length := by
        have h1 := (fillTo_length x).1
        rw [HF.out] at h1
        rcases Nat.lt_or_ge x.length T.length with h | h
        · omega
        · have : x.length = T.length := by omega
          rw [this] at hm; exact absurd h1 hm
      have HM := Sec.mk hm
      clear hm
      obtain ⟨y, HY⟩ : ∃ y, Sec (x ++ [0] = y) := ⟨_, ⟨rfl⟩⟩
      have hyl : y.length = x.length + 1 := by rw [← HY.out]; simp
      have HYL := Sec.mk hyl
      clear hyl
      go_wp2_with (refine list_app_b B rfl (.tmp 9) (.tmp 10) rfl (.slice A x.length c) rfl (.slice (some ⟨wr.heap.size, 0, none⟩) 1 1) rfl x [0] (HR.out.alloc _) (fun b => b = wr.heap.size) [.int .u8 0] (sl_box wr.heap.size 1 1 (bk_new wr _) rfl (by omega)) rfl (by simp; omega) (by simp; omega) y HY.out ?_; intro A1 c1 w1 h1 h2 h3; have H1 := Sec.mk h1; have H3 := Sec.mk h3; clear h1 h2 h3)
      go_roundw
      case rel => exact ⟨y, A1, c1, rfl, by rw [← HY.out, fillTo_step x HM.out, HF.out], by rw [HYL.out]; exact hlt, H1.out, (HB.out.alloc hBw _).trans H3.out⟩
      case measure => simp only; rw [HYL.out]; omega

/-- The 13 cells of an entry. -/
def ecs (r : PRec) (vt vd vb : Value) : List Value := rcs r vt vd ++ [vb]
set_option maxRecDepth 100000 in
set_option maxHeartbeats 1600000 in
theorem elay_any (B : Nat) (v : Value) (bs fb : List UInt8) (r : PRec) (A1 A2 : Option Addr) (n1 n2 c1 c2 : Nat) (ok : Nat → Prop) (vb : Value) (w : World) (hl : bs.length + fb.length ≤ 1000000000) (hB : B ≤ w.heap.size) (H : w.ownsRow B 5 1 v bs.length (bv bs)) (HV : Sl w ok 1 vb fb.length (bv fb)) :
    Calls Try.prog 128 #[.agg (ecs r (.slice A1 n1 c1) (.slice A2 n2 c2) vb).toArray, v] w fun e w' => ∃ v', e = .returned v' ∧ w'.ownsRow B 5 1 v' (bs ++ fb).length (bv (bs ++ fb)) ∧ Below B w w' := by
  have HS := Sec.mk H
  obtain ⟨A, c, rfl⟩ := row_shape H
  obtain ⟨A3, c3, rfl⟩ : ∃ A c, vb = .slice A fb.length c := by obtain ⟨_, _, A, c, e, _⟩ := HV; exact ⟨A, c, e⟩
  have hbox := bk_new w (.cells (ecs r (.slice A1 n1 c1) (.slice A2 n2 c2) (.slice A3 fb.length c3)).toArray 95)
  have hq : (w.alloc (.cells (ecs r (.slice A1 n1 c1) (.slice A2 n2 c2) (.slice A3 fb.length c3)).toArray 95)).cell? ⟨w.heap.size, 12, none⟩ = some (.slice A3 fb.length c3) := bk_cell hbox 12
  have HH := Sec.mk (And.intro (H.alloc (.cells (ecs r (.slice A1 n1 c1) (.slice A2 n2 c2) (.slice A3 fb.length c3)).toArray 95)) (And.intro (HV.below ((Below.refl _ _).alloc (Nat.le_refl _) (.cells (ecs r (.slice A1 n1 c1) (.slice A2 n2 c2) (.slice A3 fb.length c3)).toArray 95))) ((Below.refl B w).alloc hB (.cells (ecs r (.slice A1 n1 c1) (.slice A2 n2 c2) (.slice A3 fb.length c3)).toArray 95))))
  have hs : (w.alloc (.cells (ecs r (.slice A1 n1 c1) (.slice A2 n2 c2) (.slice A3 fb.length c3)).toArray 95)).heap.size = w.heap.size + 1 := by simp
  have HSZ := Sec.mk hs
  clear H HV hbox hs
  obtain ⟨y, HY⟩ : ∃ y, Sec (bs ++ fb = y) := ⟨_, ⟨rfl⟩⟩
  rw [HY.out]
  simp only [ecs, rcs, List.cons_append, List.nil_append] at hq HH HSZ
  go_enter Try.func128, Try.ntmps128
  simp only [ecs, rcs, List.cons_append, List.nil_append]
  go_upto_region 1 with fail
  generalize w.alloc _ = W at *
  go_wp2_with (refine list_app_b B rfl (.tmp 5) (.tmp 7) rfl (.slice A bs.length c) rfl (.slice A3 fb.length c3) rfl bs fb HH.out.1 ok (bv fb) HH.out.2.1 rfl (by rw [HSZ.out]; omega) (by omega) y HY.out ?_; intro A4 c4 w1 h1 h2 h3; have H1 := Sec.mk h1; have H3 := Sec.mk h3; clear h1 h2 h3)
  go_ret
  exact ⟨_, rfl, H1.out, HH.out.2.2.trans H3.out⟩
end Go.Proofs.Ytgnlhjphmaikkaa
