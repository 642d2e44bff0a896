/- WalTorn, walked: it answers true. Conditions: its list reads as steps. -/
import Derived.Test.YtgnlhjphmaikkaaSY
import Derived.Test.YtgnlhjphmaikkaaSM
import Derived.Test.YtgnlhjphmaikkaaOP
set_option linter.unusedVariables false
set_option linter.unusedSimpArgs false
namespace Go.Proofs.Ytgnlhjphmaikkaa
open Go.RowKit

theorem RecsAt.kept {P : Nat → TypeId → Prop} {w w1 : World} {B : Nat} {v : Value} {l : List PRec} (h : RecsAt w B v l) (hk : Kept P w w1) (h0 : ∀ b, ¬ P b 41) (h1 : ∀ b, ¬ P b 136) (h2 : ∀ b, ¬ P b 138) : RecsAt w1 B v l := by
  obtain ⟨es, g1, g2, g3⟩ := h.ex
  refine ⟨es, g1, row_kept g2 fun k hk' => ?_, fun e he => ⟨row_kept (g3 e he).t fun k hk' => ?_, row_kept (g3 e he).d fun k hk' => ?_⟩⟩
  · obtain ⟨cs, f, hh⟩ := row_typed g2 hk'; rw [hh]; exact hk.blk k cs 41 f hh (h0 k)
  · obtain ⟨cs, f, hh⟩ := row_typed (g3 e he).t hk'; rw [hh]; exact hk.blk k cs 136 f hh (h1 k)
  · obtain ⟨cs, f, hh⟩ := row_typed (g3 e he).d hk'; rw [hh]; exact hk.blk k cs 138 f hh (h2 k)
theorem run_cut31 (A : Option Addr) (n c k : Nat) (hk : k ≤ c) (W : World) :
    (Instr.slice 31 (.slice A n c) none (some (.int .i64 (k : Int))) none).run Try.prog W = .ok (.slice A k c) W := by
  obtain ⟨i, hi, hzz⟩ := Option.map_eq_some_iff.1 info41
  simp only [Prod.mk.injEq] at hzz
  have hel : Try.prog.elem 31 = 41 := by simp [Program.elem, Try.underlying31]
  have hu : Try.prog.underlying 31 = some (.slice (Try.prog.elem 31)) := by rw [hel]; exact Try.underlying31
  have ha : (A.map fun x => x.add 0) = A := by cases A <;> simp [Addr.add]
  rw [run_slice_h W 31 A n c hu .i64 (k : Int) (Int.natCast_nonneg _) (by omega), hel]
  simp [sizeOf, typeInfo, hi, hzz.2.1, sliced, Result.andThen, ha]

/-! ### What the steps leave of a log -/
theorem joinP_fix (G : PLog) (r : PRec) (room : Int) : (joinP G r room).1.flies = G.flies ∧ (joinP G r room).1.hand = G.hand ∧ (joinP G r room).1.kept = G.kept ∧ (joinP G r room).1.stable = G.stable := by
  rcases joinP_cases G r room with e | e | ⟨e, _⟩ <;> rw [e] <;> exact ⟨rfl, rfl, rfl, rfl⟩
theorem spendP_fix (G : PLog) (r : PRec) : (spendP G r).1.flies = G.flies ∧ (spendP G r).1.hand = G.hand := by
  unfold spendP
  have := joinP_fix G r (G.kept : Nat)
  split
  · exact ⟨this.1, this.2.1⟩
  · exact ⟨this.1, this.2.1⟩
theorem keepP_fix (G : PLog) (n : Nat) (i : Int) : (keepP G n i).1.flies = G.flies ∧ (keepP G n i).1.hand = G.hand ∧ (keepP G n i).1.l = G.l := by
  unfold keepP
  split
  · exact ⟨rfl, rfl, rfl⟩
  · split <;> exact ⟨rfl, rfl, rfl⟩
theorem forceD'_len (G : PLog) (D : PDev) : (forceD' G D).b.length = D.b.length := by
  unfold forceD'; split <;> rfl
theorem doneG_fix (G : PLog) : (0 < (doneG G).flies → (doneG G).flies = G.flies) ∧ (doneG G).hand = G.hand ∧ (doneG G).l = G.l ∧ (doneG G).kept = G.kept := by
  unfold doneG
  split
  · exact ⟨fun _ => rfl, rfl, rfl, rfl⟩
  · split
    · exact ⟨fun h => by simp [done2G] at h, rfl, rfl, rfl⟩
    · exact ⟨fun _ => rfl, rfl, rfl, rfl⟩
theorem Inv.doneD_len {G : PLog} {D : PDev} (h : Inv G D) : (doneD G D).b.length = D.b.length := by
  unfold doneD
  split
  · rfl
  · rename_i hf
    cases ht : G.twice with
    | true => exact (h.mark_fin (by omega) ht (-1)).1
    | false => exact (h.recs_fin (by omega) ht (-1)).2.2
structure TRel (w : World) (N dg db lg : Nat) (forced : Nat) (wr : World) : Prop where
  ex : ∃ G D, St wr w.heap.size lg dg db G D ∧ (0 < G.flies → forced = G.flies) ∧ G.hand = 1 ∧ D.b.length = N
  low : Below w.heap.size w wr
set_option maxRecDepth 100000 in
set_option maxHeartbeats 30000000 in
theorem WalTorn_any (size sectors : Int) (v : Value) (n : Nat) (f : Nat → OpE) (w : World) (HO : OpsAt w v n f) :
    Calls Try.prog 6 #[.int .i64 size, v, .int .i64 sectors] w fun e w' => e = .returned (.bool true) ∧ Below w.heap.size w w' := by
  obtain ⟨A, c, rfl⟩ := HO.shape
  by_cases hbad : size < 0 ∨ 65536 < size ∨ size % 64 ≠ 0
  · have HN := Sec.mk (New_bad8 size w hbad)
    clear hbad
    go_enter Try.func6, Try.ntmps6
    go_wp2_with (first
      | (go_at_call 8; refine HN.out.mono ?_; rintro e w1 ⟨rfl, rfl⟩)
      | (go_at_call 10; refine (Open_nil _ _).mono ?_; rintro e w1 ⟨rfl, rfl⟩)
      | (go_at_call 9; refine (lives_any _).mono ?_; rintro e w1 ⟨rfl, g2⟩; have HB := Sec.mk g2; clear g2))
    go_ret
    exact ⟨rfl, HB.out⟩
  · have h1 : 0 ≤ size := by omega
    have h2 : size ≤ 65536 := by omega
    have h3 : size % 64 = 0 := by omega
    obtain ⟨N, rfl⟩ := Int.eq_ofNat_of_zero_le h1
    have HN := Sec.mk (New8 N w (by omega) (by omega))
    clear hbad h1
    by_cases h64 : N < 64
    · have h64i : (N : Int) < 64 := by omega
      have hn4 : ¬ (4096 : Int) < (N : Int) := by omega
      go_enter Try.func6, Try.ntmps6
      go_wp2_with (first
        | (go_at_call 8; refine HN.out.mono ?_; rintro e w1 ⟨dg, db, rfl, g1, g2, g3, g4⟩; have HD := Sec.mk g1; have HB1 := Sec.mk g4; clear g1 g2 g3 g4)
        | (go_at_call 10; refine (Open_small dg db (dev0 N) _ w1 HD.out (by rw [dev0_len]; omega)).mono ?_; rintro e w2 ⟨rfl, rfl⟩)
        | (go_at_call 9; refine (lives_any _).mono ?_; rintro e w3 ⟨rfl, g2⟩; have HB := Sec.mk (HB1.out.trans (g2.mono HB1.out.size)); clear g2))
      go_ret
      exact ⟨rfl, HB.out⟩
    · have h64n : 64 ≤ N := by omega
      have h64i : ¬ (N : Int) < 64 := by omega
      have hinv := dev0_inv N 1 h64n (by omega) (by omega) (by omega)
      have HI := Sec.mk hinv
      have h2n : N ≤ 65536 := by omega
      clear hinv h64 h2 h3
      go_enter Try.func6, Try.ntmps6
      go_upto_region 3 with (first
        | (go_at_call 8; refine HN.out.mono ?_; rintro e w1 ⟨dg, db, rfl, g1, g2, g3, g4⟩; have HD := Sec.mk g1; have HB1 := Sec.mk g4; have HG := Sec.mk (And.intro g2 g3); clear g1 g2 g3 g4)
        | (go_at_call 10; refine (S_open w.heap.size dg db 1 (dev0 N) w1 HD.out (by omega) HI.out HB1.out.size HG.out.1 HG.out.2).mono ?_; rintro e w2 ⟨lg, rfl, g1, g2, g3⟩; have HS := Sec.mk g1; have HB2 := Sec.mk (HB1.out.trans (g2.mono HB1.out.size)); clear g1 g2 g3))
      by_cases h4096 : (4096 : Int) < (N : Int)
      · go_wp2_with (go_at_call 9; refine (lives_any _).mono ?_; rintro e w3 ⟨rfl, g2⟩; have HB := Sec.mk (HB2.out.trans (g2.mono HB2.out.size)); clear g2)
        go_ret
        exact ⟨rfl, HB.out⟩
      · go_wp2_with fail
        go_loopw [11, 12] (fun fo i wr => ∃ k forced : Nat, k ≤ n ∧ k ≤ 60 ∧ i = .int .i64 k ∧ fo = .int .i64 forced ∧ TRel w N dg db lg forced wr) (fun _ i _ => 61 - (intOf i).toNat)
        case atStart => exact ⟨0, 0, by omega, by omega, rfl, rfl, ⟨⟨_, _, HS.out, fun h => by simp [openP] at h, rfl, dev0_len N⟩, HB2.out⟩⟩
        case round =>
          obtain ⟨k, forced, hkn, hk60, rfl, rfl, hT⟩ := hrel
          obtain ⟨G, D, hst, hfo, hha, hN⟩ := hT.ex
          have HST := Sec.mk hst
          have HLOW := Sec.mk hT.low
          have HFO := Sec.mk (And.intro hfo (And.intro hha hN))
          clear hst hfo hha hN hT
          by_cases hk : k < n ∧ k < 60
          · obtain ⟨hk1, hk2⟩ := hk
            have hki : (k : Int) < (n : Int) := by omega
            obtain ⟨b, o, rfl, hbl, hrg⟩ := HO.range hk1
            have hgood := HO.good k hk1
            generalize f k = op at *
            obtain ⟨kind, num, at_, r, vt, vd⟩ := op
            have hrr := OpE.rec_range hrg
            have hsh := hgood.sh
            have hlo := hgood.lo
            have hhi := hgood.hi
            simp only at hrr hsh hlo hhi
            obtain ⟨⟨A1, c1, rfl⟩, A2, c2, rfl⟩ := hsh
            have HRG : Sec (∀ W : World, Below w.heap.size w W → W.rangeAt b (o + k * 15 + 3) (rcs r (.slice A1 r.txns.length c1) (.slice A2 r.dirty.length c2)) ∧ W.cell? ⟨b, o + k * 15, none⟩ = some (.int .i64 kind) ∧ W.cell? ⟨b, o + k * 15 + 1, none⟩ = some (.int .i64 num)) := ⟨fun W hW => ⟨range_below hrr hbl hW, range_below hrg hbl hW 0 _ rfl, range_below hrg hbl hW 1 _ rfl⟩⟩
            have HGD := Sec.mk hgood
            clear hrg hrr hgood
            obtain ⟨_, kc0, kc1⟩ := HRG.out wr HLOW.out
            have HLI := Sec.mk (light_any r (.slice A1 r.txns.length c1) (.slice A2 r.dirty.length c2) wr ⟨⟨_, _, rfl⟩, _, _, rfl⟩)
            obtain ⟨Lb, HLb⟩ : ∃ Lb, Sec (lightB r = Lb) := ⟨_, ⟨rfl⟩⟩
            rw [HLb.out] at HLI
            simp only [rcs] at HLI
            cases Lb with
            | false =>
              go_wp2_with (first
                | (refine wpList_load_mid rfl 41 (.tmp 67) rfl b (o + k * 15 + 3) rfl _ _ (HRG.out _ HLOW.out).1 Try.underlying41 rfl (size41.trans rfl) ?_; simp only [rcs])
                | (go_at_call 11; refine HLI.out.mono ?_; rintro e w3 ⟨rfl, g2⟩; have HB3 := Sec.mk (HLOW.out.trans (g2.mono HLOW.out.size)); clear g2)
                | (go_at_call 9; refine (lives_any _).mono ?_; rintro e w4 ⟨rfl, g2⟩; have HB4 := Sec.mk (HB3.out.trans (g2.mono HB3.out.size)); clear g2))
              go_ret
              exact ⟨rfl, HB4.out⟩
            | true =>
              obtain ⟨ht1, hd1⟩ := lightB_few HLb.out
              go_upto_region 13 with (first
                | (refine wpList_load_mid rfl 41 (.tmp 67) rfl b (o + k * 15 + 3) rfl _ _ (HRG.out _ HLOW.out).1 Try.underlying41 rfl (size41.trans rfl) ?_; simp only [rcs])
                | (go_at_call 11; refine HLI.out.mono ?_; rintro e w3 ⟨rfl, g2⟩; have HB3 := Sec.mk (HLOW.out.trans (g2.mono HLOW.out.size)); have HS3 := Sec.mk (HST.out.below g2); clear g2))
              clear kc0 kc1
              obtain ⟨_, kc0, kc1⟩ := HRG.out w3 HB3.out
              have HRS : Sec (RecSl w3 (fun b => b < w.heap.size) r (.slice A1 r.txns.length c1) (.slice A2 r.dirty.length c2)) := ⟨HGD.out.below HB3.out (by show r.txns.length ≤ 1000000; omega) (by show r.dirty.length ≤ 1000000; omega)⟩
              have hwf : r.wf := HGD.out.wf
              have HFX := Sec.mk (And.intro (joinP_fix G r (G.room D.b.length : Nat)) (And.intro (spendP_fix G r) (And.intro (keepP_fix G D.b.length num) (doneG_fix G))))
              by_cases e0 : kind = 0
              · subst e0
                have HA := Sec.mk (S_append HS3.out _ r _ _ HRS.out hwf (by omega) (by omega))
                simp only [rcs] at HA
                go_wp2_with (first
                  | (refine wpList_load_mid rfl 41 (.tmp 83) rfl b (o + k * 15 + 3) rfl _ _ (HRG.out _ HB3.out).1 Try.underlying41 rfl (size41.trans rfl) ?_; simp only [rcs])
                  | (go_at_call 12; refine HA.out.mono ?_; rintro e w4 ⟨rfl, g1, g2, g3⟩; have HS4 := Sec.mk g1; have HB4 := Sec.mk (HB3.out.trans g3); clear g1 g2 g3))
                go_roundw
                case rel => exact ⟨k + 1, forced, by omega, by omega, by go_num, rfl, ⟨⟨_, _, HS4.out, fun h => by rw [HFX.out.1.1] at h ⊢; exact HFO.out.1 h, HFX.out.1.2.1.trans HFO.out.2.1, HFO.out.2.2⟩, HB4.out⟩⟩
                case measure => simp [intOf]; omega
              · have b0 : (kind == 0) = false := by simp [e0]
                by_cases e1 : kind = 1
                · subst e1
                  have HA := Sec.mk (S_keep HS3.out num hhi)
                  clear hlo hhi
                  go_wp2_with (go_at_call 29; refine HA.out.mono ?_; rintro e w4 ⟨rfl, g1, g2, g3⟩; have HS4 := Sec.mk g1; have HB4 := Sec.mk (HB3.out.trans g3); clear g1 g2 g3)
                  go_roundw
                  case rel => exact ⟨k + 1, forced, by omega, by omega, by go_num, rfl, ⟨⟨_, _, HS4.out, fun h => by rw [HFX.out.2.2.1.1] at h ⊢; exact HFO.out.1 h, HFX.out.2.2.1.2.1.trans HFO.out.2.1, HFO.out.2.2⟩, HB4.out⟩⟩
                  case measure => simp [intOf]; omega
                · have b1 : (kind == 1) = false := by simp [e1]
                  by_cases e2 : kind = 2
                  · subst e2
                    have HA := Sec.mk (S_spend HS3.out _ r _ _ HRS.out hwf (by omega) (by omega))
                    simp only [rcs] at HA
                    go_wp2_with (first
                      | (refine wpList_load_mid rfl 41 (.tmp 101) rfl b (o + k * 15 + 3) rfl _ _ (HRG.out _ HB3.out).1 Try.underlying41 rfl (size41.trans rfl) ?_; simp only [rcs])
                      | (go_at_call 33; refine HA.out.mono ?_; rintro e w4 ⟨rfl, g1, g2, g3⟩; have HS4 := Sec.mk g1; have HB4 := Sec.mk (HB3.out.trans g3); clear g1 g2 g3))
                    go_roundw
                    case rel => exact ⟨k + 1, forced, by omega, by omega, by go_num, rfl, ⟨⟨_, _, HS4.out, fun h => by rw [HFX.out.2.1.1] at h ⊢; exact HFO.out.1 h, HFX.out.2.1.2.trans HFO.out.2.1, HFO.out.2.2⟩, HB4.out⟩⟩
                    case measure => simp [intOf]; omega
                  · have b2 : (kind == 2) = false := by simp [e2]
                    by_cases e4 : kind = 4
                    · subst e4
                      have hfa : Sec (forceA G = decide (G.flies = 0 ∧ G.stable < G.l.length)) := ⟨rfl⟩
                      have HA := Sec.mk (S_force HS3.out)
                      by_cases hfc : G.flies = 0 ∧ G.stable < G.l.length
                      · have g1 : forceA G = true := decide_eq_true hfc
                        have g2 : forceG' G = forceG G := if_pos hfc
                        rw [g1, g2] at HA
                        have HF2 := Sec.mk hfc
                        clear g1 g2 hfc
                        go_wp2_with (first
                          | (go_at_call 13; refine HA.out.mono ?_; rintro e w4 ⟨rfl, g1, g2, g3⟩; have HS4 := Sec.mk g1; have HB4 := Sec.mk (HB3.out.trans g3); clear g1 g2 g3)
                          | (go_at_call 16; refine (Records_any HS4.out.log).mono ?_; rintro e w5 ⟨v5, rfl, g1, g2⟩; obtain ⟨A5, c5, rfl⟩ := row_shape g1.ex.choose_spec.2.1; have HS5 := Sec.mk (HS4.out.below g2); have HB5 := Sec.mk (HB4.out.trans (g2.mono HB4.out.size)); clear g1 g2))
                        go_roundw
                        case rel => exact ⟨k + 1, G.l.length, by omega, by omega, by go_num, by simp [forceG], ⟨⟨_, _, HS5.out, fun _ => rfl, HFO.out.2.1, (forceD'_len G D).trans HFO.out.2.2⟩, HB5.out⟩⟩
                        case measure => simp [intOf]; omega
                      · have g1 : forceA G = false := decide_eq_false hfc
                        have g2 : forceG' G = G := if_neg hfc
                        rw [g1, g2] at HA
                        clear g1 g2 hfc
                        go_wp2_with (go_at_call 13; refine HA.out.mono ?_; rintro e w4 ⟨rfl, g1, g2, g3⟩; have HS4 := Sec.mk g1; have HB4 := Sec.mk (HB3.out.trans g3); clear g1 g2 g3)
                        go_roundw
                        case rel => exact ⟨k + 1, forced, by omega, by omega, by go_num, rfl, ⟨⟨_, _, HS4.out, HFO.out.1, HFO.out.2.1, (forceD'_len G D).trans HFO.out.2.2⟩, HB4.out⟩⟩
                        case measure => simp [intOf]; omega
                    · have b4 : (kind == 4) = false := by simp [e4]
                      by_cases e5 : kind = 5
                      · subst e5
                        have HA := Sec.mk (S_done HS3.out)
                        have hdl := HS3.out.inv.doneD_len
                        have HDL := Sec.mk hdl
                        clear hdl
                        go_wp2_with (go_at_call 14; refine HA.out.mono ?_; rintro e w4 ⟨⟨x4, rfl⟩, g1, g2, g3⟩; have HS4 := Sec.mk g1; have HB4 := Sec.mk (HB3.out.trans g3); clear g1 g2 g3)
                        go_roundw
                        case rel => exact ⟨k + 1, forced, by omega, by omega, by go_num, rfl, ⟨⟨_, _, HS4.out, fun h => by have e9 := HFX.out.2.2.2.1 h; rw [e9] at h ⊢; exact HFO.out.1 h, HFX.out.2.2.2.2.1.trans HFO.out.2.1, HDL.out.trans HFO.out.2.2⟩, HB4.out⟩⟩
                        case measure => simp [intOf]; omega
                      · have b5 : (kind == 5) = false := by simp [e5]
                        go_wp2
                        go_roundw
                        case rel => exact ⟨k + 1, forced, by omega, by omega, by go_num, rfl, ⟨⟨_, _, HS3.out, HFO.out.1, HFO.out.2.1, HFO.out.2.2⟩, HB3.out⟩⟩
                        case measure => simp [intOf]; omega
          · have hxk : ¬ (k < n) ∨ (k < n ∧ k = 60) := by omega
            clear hk
            obtain ⟨kk, hkk, hsd, hln, hup, h8⟩ := HST.out.inv.crash sectors
            rw [HFO.out.2.1] at hup
            have hG := HST.out.inv.good
            have hkl : kk ≤ G.l.length := by
              have h1 := HST.out.inv.ok.stable
              have h2 := HST.out.inv.ok.flies
              rcases hkk with rfl | ⟨_, rfl⟩ <;> assumption
            have hin := Inv.opened 1 (by omega) (by rw [hln]; exact HST.out.inv.mod) (by rw [hln]; exact HST.out.inv.big) (by rw [hln]; exact HST.out.inv.few) (hG.take kk) hsd hup h8
            have hst := stands_of (by rw [hln]; exact HST.out.inv.big) (hG.take kk) hsd.told hsd.data
            have hcr : ∀ W : World, St W w.heap.size lg dg db G D → Calls Try.prog 15 #[.pointer (some ⟨dg, 0, none⟩), .int .i64 1, .int .i64 sectors] W fun e w' => (∃ x, e = .returned (.int .i64 x)) ∧ DevAt w' dg db (crashD G D sectors) ∧ Kept (Pwal lg dg db w.heap.size) W w' ∧ Below w.heap.size W w' := fun W h => by
              have h1 := S_crash h sectors
              rw [HFO.out.2.1, show ((1 : Nat) : Int) = 1 from rfl] at h1
              exact h1
            have hkept : ∀ (W W' : World) (v : Value) (l : List PRec), RecsRd W v l → W.heap.size ≤ W'.heap.size → True := fun _ _ _ _ _ _ => trivial
            clear hkept
            have hfewl : G.l.length ≤ 100000 := by have := HST.out.inv.ok.six; have := HST.out.inv.ok.fits; have := HST.out.inv.few; omega
            have hsmall : ∀ r ∈ G.l.map (·.1), r.txns.length ≤ 1000000 ∧ r.dirty.length ≤ 1000000 := fun r hr => by
              obtain ⟨x, hx, rfl⟩ := List.mem_map.1 hr
              have hm := (hG.each x hx).1
              have h1 : x.1.txns.length ≤ 64 := hm.2.2.2.2.2.2.2.2.2.1.1
              have h2 : x.1.dirty.length ≤ 16 := hm.2.2.2.2.2.2.2.2.2.2.1
              omega
            have hxy : (kk = 0 → lsnAt G.l G.stable = 0) ∧ (0 < kk → lsnAt G.l kk ≠ lsnAt G.l G.stable → 0 < G.flies ∧ forced = kk) := by
              constructor
              · intro h
                rcases hkk with h1 | ⟨h1, h2⟩
                · rw [← h1, h]; rfl
                · omega
              · intro h1 h2
                rcases hkk with h3 | ⟨h3, h4⟩
                · rw [h3] at h2; exact (h2 rfl).elim
                · exact ⟨h3, by rw [h4]; exact HFO.out.1 h3⟩
            have HCR := Sec.mk hcr
            have HIN := Sec.mk hin
            have HSTD := Sec.mk (And.intro hst (And.intro hsmall (And.intro hln hxy)))
            have HBIG := Sec.mk HST.out.inv.big
            clear hin hst hcr hsmall hln hxy hkk hsd hup h8 hG
            rcases hxk with hx1 | ⟨hx1, hx2⟩
            all_goals
              first
                | (have hki : ¬ (k : Int) < (n : Int) := by omega)
                | (have hki : (k : Int) < (n : Int) := by omega)
              try subst hx2
              go_upto_region 28 with (first
                | (go_at_call 16; refine (Records_any HST.out.log).mono ?_; rintro e w3 ⟨v3, rfl, g1, g2⟩; have HR3 := Sec.mk g1; have HS3 := Sec.mk (HST.out.below g2); have HB3 := Sec.mk (HLOW.out.trans (g2.mono HLOW.out.size)); clear g1 g2)
                | (go_at_call 25; refine (Stable_any HS3.out.log).mono ?_; rintro e w4 ⟨rfl, rfl⟩)
                | (go_at_call 35; refine (LFlying_any HS3.out.log).mono ?_; rintro e w5 ⟨rfl, g2⟩; have HR5 := Sec.mk (HR3.out.below g2); have HS5 := Sec.mk (HS3.out.below g2); have HB5 := Sec.mk (HB3.out.trans (g2.mono HB3.out.size)); clear g2)
                | (go_at_call 15; refine (HCR.out _ HS5.out).mono ?_; rintro e w6 ⟨⟨x6, rfl⟩, g1, g3, g2⟩; have HR6 := Sec.mk (HR5.out.kept g3 (by simp [Pwal, Plg]) (by simp [Pwal, Plg]) (by simp [Pwal, Plg])); have HD6 := Sec.mk g1; have HB6 := Sec.mk (HB5.out.trans g2); clear g1 g2 g3)
                | (go_at_call 21; refine (WRead_any dg db (crashD G D sectors) w6 HD6.out (by rw [HSTD.out.2.2.1]; exact HBIG.out)).mono ?_; rw [HSTD.out.1]; rintro e w7 ⟨v7, rfl, g1, g2⟩; have HG7 := Sec.mk g1; have HR7 := Sec.mk (HR6.out.below g2); have HD7 := Sec.mk (HD6.out.below g2); have HB7 := Sec.mk (HB6.out.trans (g2.mono HB6.out.size)); clear g1 g2))
              obtain ⟨RL, HRL⟩ : ∃ RL, Sec (G.l.map (·.1) = RL) := ⟨_, ⟨rfl⟩⟩
              have hrl : RL.length = G.l.length := by rw [← HRL.out, List.length_map]
              have hgot : (G.l.take kk).map (·.1) = RL.take kk := by rw [← HRL.out, List.map_take]
              have hsm := HSTD.out.2.1
              rw [HRL.out] at HR7 hsm
              rw [hgot] at HG7
              have hkr : kk ≤ RL.length := by omega
              have hgl : (RL.take kk).length = kk := by rw [List.length_take]; omega
              have hrd7 := HR7.out.rd (by omega) hsm
              have hgd7 := HG7.out.rd (by omega) (fun r hr => hsm r (List.mem_of_mem_take hr))
              obtain ⟨A3, c3, rfl⟩ := hrd7.shape
              obtain ⟨A7, c7, e7⟩ := hgd7.shape
              rw [hgl] at e7
              subst e7
              have hcap : RL.length ≤ c3 := by obtain ⟨_, _, ⟨_, _, A', c', e, h, _⟩, _⟩ := hrd7.ex; injection e with _ _ e; omega
              have hcut := run_cut31 A3 RL.length c3 kk (by omega)
              have htk := hrd7.take kk hkr
              have HSR := Sec.mk (SameRecords_eq (RL.take kk) _ _ w7 hgd7 htk)
              have hlast : 0 < kk → ∃ b o, A7 = some ⟨b, o, none⟩ ∧ w7.cell? ⟨b, o + (kk - 1) * 12 + 1, none⟩ = some (.int .u64 (lsnAt G.l kk)) := fun hp => by
                have hq : kk - 1 < (RL.take kk).length := by omega
                have hgd8 : RecsRd w7 (.slice A7 (RL.take kk).length c7) (RL.take kk) := by rw [hgl]; exact hgd7
                obtain ⟨b, o, vt, vd, e, hr, _⟩ := hgd8.elem (kk - 1) hq
                refine ⟨b, o, e, ?_⟩
                have h1 := hr 1 _ rfl
                rw [h1]
                congr 2
                unfold lsnAt
                rw [if_neg (by omega)]
                have h2 : (RL.take kk)[kk - 1] = RL[kk - 1]'(by omega) := List.getElem_take
                rw [h2]
                have h3 : G.l[kk - 1]? = some (G.l[kk - 1]'(by omega)) := List.getElem?_eq_getElem (by omega)
                rw [h3]
                simp only [Option.map_some, Option.getD_some]
                have h4 : RL[kk - 1]'(by omega) = (G.l[kk - 1]'(by omega)).1 := by subst_vars; simp [← HRL.out]
                rw [h4]
              have HG7r := Sec.mk hgd7
              have HXY := Sec.mk HSTD.out.2.2.2
              have hxy := HSTD.out.2.2.2
              have hcmp : ¬ (RL.length : Int) < (kk : Int) := by omega
              generalize lsnAt G.l G.stable = x at *
              generalize lsnAt G.l kk = y at *
              have HGT := Sec.mk hgot
              have HSMT : Sec (∀ r ∈ RL.take kk, r.txns.length ≤ 1000000 ∧ r.dirty.length ≤ 1000000) := ⟨fun r hr => hsm r (List.mem_of_mem_take hr)⟩
              have HST2 : Sec (∀ (W : World) {lg2 : Nat}, St W w.heap.size lg2 dg db (openP (crashD G D sectors).b 1) (crashD G D sectors) → Calls Try.prog 25 #[.pointer (some ⟨lg2, 0, none⟩)] W fun e w' => e = .returned (.int .u64 (lastOf (openP (crashD G D sectors).b 1).l)) ∧ W = w') := ⟨fun W lg2 h => by
                have h1 := Stable_any h.log
                rw [show (openP (crashD G D sectors).b 1).stable = (openP (crashD G D sectors).b 1).l.length from rfl, lsnAt_all] at h1
                exact h1⟩
              have HRC : Sec (∀ (W : World) {lg2 : Nat}, St W w.heap.size lg2 dg db (openP (crashD G D sectors).b 1) (crashD G D sectors) → Calls Try.prog 16 #[.pointer (some ⟨lg2, 0, none⟩)] W fun e w' => ∃ v', e = .returned v' ∧ RecsAt w' W.heap.size v' (RL.take kk) ∧ Below W.heap.size W w') := ⟨fun W lg2 h => by
                have h1 := Records_any h.log
                rw [HIN.out.2, hgot] at h1
                exact h1⟩
              have HKP : Sec (∀ (W : World) {lg2 : Nat}, St W w.heap.size lg2 dg db (openP (crashD G D sectors).b 1) (crashD G D sectors) → Calls Try.prog 31 #[.pointer (some ⟨lg2, 0, none⟩)] W fun e w' => e = .returned (.int .i64 0) ∧ W = w') := ⟨fun W lg2 h => LKept_any h.log⟩
              have HRL2 := Sec.mk hrl
              have HGL := Sec.mk hgl
              clear hgot hsm hrd7 hgd7 htk hrl hgl
              by_cases hk0 : kk = 0
              · have hx0 := hxy.1 hk0
                subst hx0
                have z1 : ((kk : Int) == 0) = true := by simp [hk0]
                have z2 : decide ((0 : Int) < (kk : Int)) = false := decide_eq_false (by omega)
                have hgl := HGL.out
                have HK0 := Sec.mk hk0
                have hkl2 : (RL.take kk).length ≤ 1000000 := by omega
                clear hk0 hxy hlast hgl
                go_wp2_with (first
                  | (go_at_call 17; first
                      | (refine (SameRecords_eq (RL.take kk) _ _ _ HV10.out HG10.out).mono ?_; rintro e w11 ⟨rfl, g2⟩; have HS11 := Sec.mk (HS10.out.below g2); have HB11 := Sec.mk (HB10.out.trans (g2.mono HB10.out.size)); clear g2)
                      | (refine HSR.out.mono ?_; rintro e w8 ⟨rfl, g2⟩; have HG8 := Sec.mk (HG7r.out.below g2); have HD8 := Sec.mk (HD7.out.below g2); have HB8 := Sec.mk (HB7.out.trans (g2.mono HB7.out.size)); clear g2))
                  | (go_at_call 10; refine (S_open w.heap.size dg db 1 (crashD G D sectors) w8 HD8.out (by omega) HIN.out.1 HB8.out.size HG.out.1 HG.out.2).mono ?_; rintro e w9 ⟨lg2, rfl, g1, g2, g3⟩; have HS9 := Sec.mk g1; have HG9 := Sec.mk (HG8.out.below g2); have HB9 := Sec.mk (HB8.out.trans (g2.mono HB8.out.size)); clear g1 g2 g3)
                  | (go_at_call 16; refine (HRC.out _ HS9.out).mono ?_; rintro e w10 ⟨v10, rfl, g1, g2⟩; obtain ⟨A10, c10, e10⟩ := (g1.rd (by omega) HSMT.out).shape; rw [HGL.out] at e10; subst e10; have HV10 := Sec.mk (g1.rd (by omega) HSMT.out); have HS10 := Sec.mk (HS9.out.below g2); have HG10 := Sec.mk (HG9.out.below g2); have HB10 := Sec.mk (HB9.out.trans (g2.mono HB9.out.size)); clear g1 g2)
                  | (go_at_call 25; refine (HST2.out _ HS11.out).mono ?_; rintro e w12 ⟨rfl, rfl⟩)
                  | (go_at_call 32; refine (Last_any HS11.out.log).mono ?_; rintro e w12 ⟨rfl, rfl⟩)
                  | (go_at_call 31; refine (HKP.out _ HS11.out).mono ?_; rintro e w12 ⟨rfl, rfl⟩)
                  | (go_at_call 9; refine (lives_any _).mono ?_; rintro e w13 ⟨rfl, g2⟩; have HB13 := Sec.mk (HB11.out.trans (g2.mono HB11.out.size)); clear g2))
                go_ret
                exact ⟨rfl, HB13.out⟩
              · have hp : 0 < kk := by omega
                obtain ⟨b, o, rfl, hcl⟩ := hlast hp
                have z1 : ((kk : Int) == 0) = false := by simp; omega
                have z2 : (0 : Int) < (kk : Int) := by omega
                have z3 : IntKind.i64.wrap ((kk : Int) - 1) = (kk : Int) - 1 := IntWalk.i64_in _ (by omega)
                have hgl := HGL.out
                have hkl2 : (RL.take kk).length ≤ 1000000 := by omega
                clear hk0 hlast hgl
                by_cases hyx : y = x
                · subst hyx
                  clear hxy
                  by_cases hx0 : y = 0
                  · subst hx0
                    go_wp2_with (first
                      | (go_at_call 17; first
                          | (refine (SameRecords_eq (RL.take kk) _ _ _ HV10.out HG10.out).mono ?_; rintro e w11 ⟨rfl, g2⟩; have HS11 := Sec.mk (HS10.out.below g2); have HB11 := Sec.mk (HB10.out.trans (g2.mono HB10.out.size)); clear g2)
                          | (refine HSR.out.mono ?_; rintro e w8 ⟨rfl, g2⟩; have hcl8 := (g2.cell (World.block_lt_of_cell? w7 _ hcl)).trans hcl; have HG8 := Sec.mk (HG7r.out.below g2); have HD8 := Sec.mk (HD7.out.below g2); have HB8 := Sec.mk (HB7.out.trans (g2.mono HB7.out.size)); clear g2))
                      | (go_at_call 10; refine (S_open w.heap.size dg db 1 (crashD G D sectors) w8 HD8.out (by omega) HIN.out.1 HB8.out.size HG.out.1 HG.out.2).mono ?_; rintro e w9 ⟨lg2, rfl, g1, g2, g3⟩; have HS9 := Sec.mk g1; have HG9 := Sec.mk (HG8.out.below g2); have HB9 := Sec.mk (HB8.out.trans (g2.mono HB8.out.size)); clear g1 g2 g3)
                      | (go_at_call 16; refine (HRC.out _ HS9.out).mono ?_; rintro e w10 ⟨v10, rfl, g1, g2⟩; obtain ⟨A10, c10, e10⟩ := (g1.rd (by omega) HSMT.out).shape; rw [HGL.out] at e10; subst e10; have HV10 := Sec.mk (g1.rd (by omega) HSMT.out); have HS10 := Sec.mk (HS9.out.below g2); have HG10 := Sec.mk (HG9.out.below g2); have HB10 := Sec.mk (HB9.out.trans (g2.mono HB9.out.size)); clear g1 g2)
                      | (go_at_call 25; refine (HST2.out _ HS11.out).mono ?_; rintro e w12 ⟨rfl, rfl⟩)
                      | (go_at_call 32; refine (Last_any HS11.out.log).mono ?_; rintro e w12 ⟨rfl, rfl⟩)
                      | (go_at_call 31; refine (HKP.out _ HS11.out).mono ?_; rintro e w12 ⟨rfl, rfl⟩)
                      | (go_at_call 9; refine (lives_any _).mono ?_; rintro e w13 ⟨rfl, g2⟩; have HB13 := Sec.mk (HB11.out.trans (g2.mono HB11.out.size)); clear g2))
                    go_ret
                    exact ⟨rfl, HB13.out⟩
                  · have z4 : (y == 0) = false := by simp [hx0]
                    clear hx0
                    go_wp2_with (first
                      | (go_at_call 17; first
                          | (refine (SameRecords_eq (RL.take kk) _ _ _ HV10.out HG10.out).mono ?_; rintro e w11 ⟨rfl, g2⟩; have HS11 := Sec.mk (HS10.out.below g2); have HB11 := Sec.mk (HB10.out.trans (g2.mono HB10.out.size)); clear g2)
                          | (refine HSR.out.mono ?_; rintro e w8 ⟨rfl, g2⟩; have hcl8 := (g2.cell (World.block_lt_of_cell? w7 _ hcl)).trans hcl; have HG8 := Sec.mk (HG7r.out.below g2); have HD8 := Sec.mk (HD7.out.below g2); have HB8 := Sec.mk (HB7.out.trans (g2.mono HB7.out.size)); clear g2))
                      | (go_at_call 10; refine (S_open w.heap.size dg db 1 (crashD G D sectors) w8 HD8.out (by omega) HIN.out.1 HB8.out.size HG.out.1 HG.out.2).mono ?_; rintro e w9 ⟨lg2, rfl, g1, g2, g3⟩; have HS9 := Sec.mk g1; have HG9 := Sec.mk (HG8.out.below g2); have HB9 := Sec.mk (HB8.out.trans (g2.mono HB8.out.size)); clear g1 g2 g3)
                      | (go_at_call 16; refine (HRC.out _ HS9.out).mono ?_; rintro e w10 ⟨v10, rfl, g1, g2⟩; obtain ⟨A10, c10, e10⟩ := (g1.rd (by omega) HSMT.out).shape; rw [HGL.out] at e10; subst e10; have HV10 := Sec.mk (g1.rd (by omega) HSMT.out); have HS10 := Sec.mk (HS9.out.below g2); have HG10 := Sec.mk (HG9.out.below g2); have HB10 := Sec.mk (HB9.out.trans (g2.mono HB9.out.size)); clear g1 g2)
                      | (go_at_call 25; refine (HST2.out _ HS11.out).mono ?_; rintro e w12 ⟨rfl, rfl⟩)
                      | (go_at_call 32; refine (Last_any HS11.out.log).mono ?_; rintro e w12 ⟨rfl, rfl⟩)
                      | (go_at_call 31; refine (HKP.out _ HS11.out).mono ?_; rintro e w12 ⟨rfl, rfl⟩)
                      | (go_at_call 9; refine (lives_any _).mono ?_; rintro e w13 ⟨rfl, g2⟩; have HB13 := Sec.mk (HB11.out.trans (g2.mono HB11.out.size)); clear g2))
                    go_ret
                    exact ⟨rfl, HB13.out⟩
                · obtain ⟨hf1, hf2⟩ := hxy.2 hp hyx
                  have hf3 := hf2.symm
                  clear hf2
                  subst hf3
                  have z5 : (y == x) = false := by simp [hyx]
                  have z6 : decide (0 < G.flies) = true := decide_eq_true hf1
                  clear hxy hyx
                  by_cases hx0 : x = 0
                  · subst hx0
                    go_wp2_with (first
                      | (go_at_call 17; first
                          | (refine (SameRecords_eq (RL.take kk) _ _ _ HV10.out HG10.out).mono ?_; rintro e w11 ⟨rfl, g2⟩; have HS11 := Sec.mk (HS10.out.below g2); have HB11 := Sec.mk (HB10.out.trans (g2.mono HB10.out.size)); clear g2)
                          | (refine HSR.out.mono ?_; rintro e w8 ⟨rfl, g2⟩; have hcl8 := (g2.cell (World.block_lt_of_cell? w7 _ hcl)).trans hcl; have HG8 := Sec.mk (HG7r.out.below g2); have HD8 := Sec.mk (HD7.out.below g2); have HB8 := Sec.mk (HB7.out.trans (g2.mono HB7.out.size)); clear g2))
                      | (go_at_call 10; refine (S_open w.heap.size dg db 1 (crashD G D sectors) w8 HD8.out (by omega) HIN.out.1 HB8.out.size HG.out.1 HG.out.2).mono ?_; rintro e w9 ⟨lg2, rfl, g1, g2, g3⟩; have HS9 := Sec.mk g1; have HG9 := Sec.mk (HG8.out.below g2); have HB9 := Sec.mk (HB8.out.trans (g2.mono HB8.out.size)); clear g1 g2 g3)
                      | (go_at_call 16; refine (HRC.out _ HS9.out).mono ?_; rintro e w10 ⟨v10, rfl, g1, g2⟩; obtain ⟨A10, c10, e10⟩ := (g1.rd (by omega) HSMT.out).shape; rw [HGL.out] at e10; subst e10; have HV10 := Sec.mk (g1.rd (by omega) HSMT.out); have HS10 := Sec.mk (HS9.out.below g2); have HG10 := Sec.mk (HG9.out.below g2); have HB10 := Sec.mk (HB9.out.trans (g2.mono HB9.out.size)); clear g1 g2)
                      | (go_at_call 25; refine (HST2.out _ HS11.out).mono ?_; rintro e w12 ⟨rfl, rfl⟩)
                      | (go_at_call 32; refine (Last_any HS11.out.log).mono ?_; rintro e w12 ⟨rfl, rfl⟩)
                      | (go_at_call 31; refine (HKP.out _ HS11.out).mono ?_; rintro e w12 ⟨rfl, rfl⟩)
                      | (go_at_call 9; refine (lives_any _).mono ?_; rintro e w13 ⟨rfl, g2⟩; have HB13 := Sec.mk (HB11.out.trans (g2.mono HB11.out.size)); clear g2))
                    go_ret
                    exact ⟨rfl, HB13.out⟩
                  · have z4 : (x == 0) = false := by simp [hx0]
                    clear hx0
                    go_wp2_with (first
                      | (go_at_call 17; first
                          | (refine (SameRecords_eq (RL.take kk) _ _ _ HV10.out HG10.out).mono ?_; rintro e w11 ⟨rfl, g2⟩; have HS11 := Sec.mk (HS10.out.below g2); have HB11 := Sec.mk (HB10.out.trans (g2.mono HB10.out.size)); clear g2)
                          | (refine HSR.out.mono ?_; rintro e w8 ⟨rfl, g2⟩; have hcl8 := (g2.cell (World.block_lt_of_cell? w7 _ hcl)).trans hcl; have HG8 := Sec.mk (HG7r.out.below g2); have HD8 := Sec.mk (HD7.out.below g2); have HB8 := Sec.mk (HB7.out.trans (g2.mono HB7.out.size)); clear g2))
                      | (go_at_call 10; refine (S_open w.heap.size dg db 1 (crashD G D sectors) w8 HD8.out (by omega) HIN.out.1 HB8.out.size HG.out.1 HG.out.2).mono ?_; rintro e w9 ⟨lg2, rfl, g1, g2, g3⟩; have HS9 := Sec.mk g1; have HG9 := Sec.mk (HG8.out.below g2); have HB9 := Sec.mk (HB8.out.trans (g2.mono HB8.out.size)); clear g1 g2 g3)
                      | (go_at_call 16; refine (HRC.out _ HS9.out).mono ?_; rintro e w10 ⟨v10, rfl, g1, g2⟩; obtain ⟨A10, c10, e10⟩ := (g1.rd (by omega) HSMT.out).shape; rw [HGL.out] at e10; subst e10; have HV10 := Sec.mk (g1.rd (by omega) HSMT.out); have HS10 := Sec.mk (HS9.out.below g2); have HG10 := Sec.mk (HG9.out.below g2); have HB10 := Sec.mk (HB9.out.trans (g2.mono HB9.out.size)); clear g1 g2)
                      | (go_at_call 25; refine (HST2.out _ HS11.out).mono ?_; rintro e w12 ⟨rfl, rfl⟩)
                      | (go_at_call 32; refine (Last_any HS11.out.log).mono ?_; rintro e w12 ⟨rfl, rfl⟩)
                      | (go_at_call 31; refine (HKP.out _ HS11.out).mono ?_; rintro e w12 ⟨rfl, rfl⟩)
                      | (go_at_call 9; refine (lives_any _).mono ?_; rintro e w13 ⟨rfl, g2⟩; have HB13 := Sec.mk (HB11.out.trans (g2.mono HB11.out.size)); clear g2))
                    go_ret
                    exact ⟨rfl, HB13.out⟩
end Go.Proofs.Ytgnlhjphmaikkaa
