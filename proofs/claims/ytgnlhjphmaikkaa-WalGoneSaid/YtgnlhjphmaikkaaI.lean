/- Package rec, walked: Check. Conditions: the record's slices read, its numbers are of their kinds. -/
import Derived.Test.YtgnlhjphmaikkaaH
set_option linter.unusedVariables false
set_option linter.unusedSimpArgs false
namespace Go.Proofs.Ytgnlhjphmaikkaa
open Go.RowKit

def CkRel (W : World) (B : Nat) (p : Prop) (s : Value) (wx : World) : Prop := ∃ b : Bool, s = .bool b ∧ (b = true ↔ p) ∧ Below B W wx
theorem CkRel.mk' {W : World} {B : Nat} {p : Prop} {b : Bool} {wx : World} (h : b = true ↔ p) (hb : Below B W wx) : CkRel W B p (.bool b) wx := ⟨b, rfl, h, hb⟩
/-- A record's box, cell by cell. -/
def Box12 (w : World) (g : Nat) (r : PRec) (vt vd : Value) : Prop := w.cell? ⟨g, 0, none⟩ = some (.int .i64 r.kind) ∧ w.cell? ⟨g, 1, none⟩ = some (.int .u64 r.lsn) ∧ w.cell? ⟨g, 2, none⟩ = some (.int .i64 r.txn) ∧ w.cell? ⟨g, 3, none⟩ = some (.int .u64 r.prev) ∧
  w.cell? ⟨g, 4, none⟩ = some (.int .u64 r.undo) ∧ w.cell? ⟨g, 5, none⟩ = some (.int .i64 r.page) ∧ w.cell? ⟨g, 6, none⟩ = some (.int .i64 r.act.kind) ∧ w.cell? ⟨g, 7, none⟩ = some (.string ⟨r.act.key.toArray⟩) ∧
  w.cell? ⟨g, 8, none⟩ = some (.string ⟨r.act.old.toArray⟩) ∧ w.cell? ⟨g, 9, none⟩ = some (.string ⟨r.act.new.toArray⟩) ∧ w.cell? ⟨g, 10, none⟩ = some vt ∧ w.cell? ⟨g, 11, none⟩ = some vd
theorem box12 {w : World} {g : Nat} {r : PRec} {vt vd : Value} {t : TypeId} {f : Nat × Nat} (h : w.heap[g]? = some (.cells (rcs r vt vd).toArray t f)) : Box12 w g r vt vd :=
  ⟨bk_cell h 0, bk_cell h 1, bk_cell h 2, bk_cell h 3, bk_cell h 4, bk_cell h 5, bk_cell h 6, bk_cell h 7, bk_cell h 8, bk_cell h 9, bk_cell h 10, bk_cell h 11⟩
def ck1 (r : PRec) : Prop := 0 < r.kind ∧ r.kind < 9 ∧ numB r.lsn = true ∧ r.prev < r.lsn ∧ r.undo < r.lsn
def ck2 (r : PRec) : Prop := ck1 r ∧ (if chgB r.kind = true then pageB r.page = true ∧ actB r.act = true else r.page = 0 ∧ r.act = noAct)
def ck3 (r : PRec) : Prop := ck2 r ∧ (if ptsB r.kind = true then r.txn = 0 ∧ r.prev = 0 else txnB r.txn = true)
def ck4 (r : PRec) : Prop := ck3 r ∧ (r.kind ≠ 8 → r.txns.length = 0 ∧ r.dirty.length = 0)
theorem may_iff (r : PRec) : r.may ↔ ck4 r ∧ (r.kind ≠ 2 → r.undo = 0) ∧ okTxns r.txns ∧ okDirties r.dirty := by
  unfold PRec.may ck4 ck3 ck2 ck1
  have e1 : chgB r.kind = true ↔ changes r.kind := by unfold chgB; exact decide_eq_true_iff
  have e2 : ptsB r.kind = true ↔ points r.kind := by unfold ptsB; exact decide_eq_true_iff
  have e3 : numB r.lsn = true ↔ numbered r.lsn := by unfold numB; exact decide_eq_true_iff
  have e4 : actB r.act = true ↔ mayAct r.act := by unfold actB; exact decide_eq_true_iff
  simp only [e1, e2, e3, e4, pageB_iff, txnB_iff, List.length_eq_zero_iff]
  constructor
  · rintro ⟨a1, a2, a3, a4, a5, a6, a7, a8, a9, a10, a11⟩
    refine ⟨⟨⟨⟨⟨a1, a2, a3, a4, a5⟩, ?_⟩, a7⟩, a8⟩, a9, a10, a11⟩
    split at a6
    · rename_i h; rw [if_pos h]; exact ⟨⟨a6.1, a6.2.1⟩, a6.2.2⟩
    · rename_i h; rw [if_neg h]; exact a6
  · rintro ⟨⟨⟨⟨⟨a1, a2, a3, a4, a5⟩, a6⟩, a7⟩, a8⟩, a9, a10, a11⟩
    refine ⟨a1, a2, a3, a4, a5, ?_, a7, a8, a9, a10, a11⟩
    split at a6
    · rename_i h; rw [if_pos h]; exact ⟨a6.1.1, a6.1.2, a6.2⟩
    · rename_i h; rw [if_neg h]; exact a6
set_option maxRecDepth 100000 in
set_option maxHeartbeats 8000000 in
theorem Check_any (ok : Nat → Prop) (r : PRec) (vt vd : Value) (w : World) (H : RecSl w ok r vt vd) (hn1 : r.txns.length ≤ 1000000) (hn2 : r.dirty.length ≤ 1000000) :
    Calls Try.prog 93 #[.agg (rcs r vt vd).toArray] w fun e w' => ∃ k : Int, e = .returned (.int .i64 k) ∧ (k = 0 ↔ r.may) ∧ (k = 0 ∨ k = 1) ∧ Below w.heap.size w w' := by
  have HH := Sec.mk H
  obtain ⟨A1, c1, rfl, hc1⟩ : ∃ A c, vt = .slice A r.txns.length c ∧ r.txns.length ≤ c := by obtain ⟨_, _, A, c, e, h, _⟩ := H.t; exact ⟨A, c, e, h⟩
  obtain ⟨A2, c2, rfl, hc2⟩ : ∃ A c, vd = .slice A r.dirty.length c ∧ r.dirty.length ≤ c := by obtain ⟨_, _, A, c, e, h, _⟩ := H.d; exact ⟨A, c, e, h⟩
  have hbox := bk_new w (.cells (rcs r (.slice A1 r.txns.length c1) (.slice A2 r.dirty.length c2)).toArray 41)
  have HB0 : Below w.heap.size w (w.alloc (.cells (rcs r (.slice A1 r.txns.length c1) (.slice A2 r.dirty.length c2)).toArray 41)) := (Below.refl _ _).alloc (Nat.le_refl _) _
  have hsz : (w.alloc (.cells (rcs r (.slice A1 r.txns.length c1) (.slice A2 r.dirty.length c2)).toArray 41)).heap.size = w.heap.size + 1 := by simp
  have Hbox := Sec.mk hbox
  have HB0' := Sec.mk HB0
  have Hsz := Sec.mk hsz
  clear H hbox HB0 hsz
  go_enter Try.func93, Try.ntmps93
  simp only [rcs]
  go_upto_region 1 with fail
  simp only [rcs] at Hbox HB0' Hsz
  generalize w.alloc _ = W at *
  have hbw := box12 Hbox.out
  obtain ⟨q0, q1, q2, q3, q4, q5, q6, q7, q8, q9, q10, q11⟩ := hbw
  go_cut [3] (fun s3 wx => CkRel W (w.heap.size + 1) (ck1 r) s3 wx)
  case first =>
    go_wp2_with (go_at_call 107; refine (numbered_any _ _).mono ?_; rintro e w1 ⟨rfl, rfl⟩)
    all_goals
      go_meet
      case rel =>
        refine CkRel.mk' ?_ (Below.refl _ _)
        unfold ck1
        clear Hbox HB0' Hsz HH q0 q1 q2 q3 q4 q5 q6 q7 q8 q9 q10 q11
        simp_all <;> omega
  case rest =>
    obtain ⟨b1, rfl, hb1, hB1⟩ := hcut
    have Hb1 := Sec.mk hb1
    clear hb1
    have hbw1 := box12 ((hB1.block w.heap.size (by omega)).trans Hbox.out)
    obtain ⟨q0, q1, q2, q3, q4, q5, q6, q7, q8, q9, q10, q11⟩ := hbw1
    go_upto_if 33 with (go_at_call 96; refine (changes_any _ _).mono ?_; rintro e w1 ⟨rfl, rfl⟩)
    go_cut [3] (fun s3 wx => CkRel W (w.heap.size + 1) (ck2 r) s3 wx)
    case first =>
      have hsz := hB1.size
      rw [Hsz.out] at hsz
      cases b1
      · go_wp2
        all_goals
          go_meet
          case rel =>
            refine CkRel.mk' ?_ hB1
            have hb := Hb1.out
            clear Hb1 Hbox HB0' Hsz HH q0 q1 q2 q3 q4 q5 q6 q7 q8 q9 q10 q11 hB1
            unfold ck2
            simp_all
      · cases hch : chgB r.kind
        rotate_left
        · go_wp2_with (first
            | (go_at_call 108; refine (page_any _ _).mono ?_; rintro e w1 ⟨rfl, rfl⟩)
            | (go_at_call 109; refine (mayAct_any _ _).mono ?_; rintro e w1 ⟨rfl, hbm⟩; have hB1' := hB1.trans (hbm.mono hsz)))
          all_goals
            go_meet
            case rel =>
              refine CkRel.mk' ?_ (by first | exact hB1' | exact hB1)
              have hb := Hb1.out
              clear Hb1 Hbox HB0' Hsz HH q0 q1 q2 q3 q4 q5 q6 q7 q8 q9 q10 q11 hB1
              unfold ck2
              simp_all
        · by_cases e1 : (r.page == 0) = true
          · skip
            by_cases e2 : (r.act.kind == 0) = true
            · skip
              by_cases e3 : r.act.key.isEmpty = true
              · skip
                by_cases e4 : r.act.old.isEmpty = true
                · skip
                  by_cases e5 : r.act.new.isEmpty = true
                  · skip
                    go_wp2
                    go_meet
                    case rel =>
                      refine CkRel.mk' ?_ hB1
                      have hb := Hb1.out
                      clear Hb1 Hbox HB0' Hsz HH q0 q1 q2 q3 q4 q5 q6 q7 q8 q9 q10 q11 hB1
                      rcases hra : r.act with ⟨kk, key, old, nw⟩
                      unfold ck2 noAct
                      simp_all
                  · have e5' : r.act.new.isEmpty = false := by simpa using e5
                    clear e5
                    go_wp2
                    go_meet
                    case rel =>
                      refine CkRel.mk' ?_ hB1
                      have hb := Hb1.out
                      clear Hb1 Hbox HB0' Hsz HH q0 q1 q2 q3 q4 q5 q6 q7 q8 q9 q10 q11 hB1
                      rcases hra : r.act with ⟨kk, key, old, nw⟩
                      unfold ck2 noAct
                      simp_all
                · have e4' : r.act.old.isEmpty = false := by simpa using e4
                  clear e4
                  go_wp2
                  go_meet
                  case rel =>
                    refine CkRel.mk' ?_ hB1
                    have hb := Hb1.out
                    clear Hb1 Hbox HB0' Hsz HH q0 q1 q2 q3 q4 q5 q6 q7 q8 q9 q10 q11 hB1
                    rcases hra : r.act with ⟨kk, key, old, nw⟩
                    unfold ck2 noAct
                    simp_all
              · have e3' : r.act.key.isEmpty = false := by simpa using e3
                clear e3
                go_wp2
                go_meet
                case rel =>
                  refine CkRel.mk' ?_ hB1
                  have hb := Hb1.out
                  clear Hb1 Hbox HB0' Hsz HH q0 q1 q2 q3 q4 q5 q6 q7 q8 q9 q10 q11 hB1
                  rcases hra : r.act with ⟨kk, key, old, nw⟩
                  unfold ck2 noAct
                  simp_all
            · have e2' : (r.act.kind == 0) = false := by simpa using e2
              clear e2
              go_wp2
              go_meet
              case rel =>
                refine CkRel.mk' ?_ hB1
                have hb := Hb1.out
                clear Hb1 Hbox HB0' Hsz HH q0 q1 q2 q3 q4 q5 q6 q7 q8 q9 q10 q11 hB1
                rcases hra : r.act with ⟨kk, key, old, nw⟩
                unfold ck2 noAct
                simp_all
          · have e1' : (r.page == 0) = false := by simpa using e1
            clear e1
            go_wp2
            go_meet
            case rel =>
              refine CkRel.mk' ?_ hB1
              have hb := Hb1.out
              clear Hb1 Hbox HB0' Hsz HH q0 q1 q2 q3 q4 q5 q6 q7 q8 q9 q10 q11 hB1
              rcases hra : r.act with ⟨kk, key, old, nw⟩
              unfold ck2 noAct
              simp_all
    case rest =>
      clear q0 q1 q2 q3 q4 q5 q6 q7 q8 q9 q10 q11 hB1 Hb1
      obtain ⟨b2, rfl, hb2, hB2⟩ := hcut
      have Hb2 := Sec.mk hb2
      clear hb2
      have hbw2 := box12 ((hB2.block w.heap.size (by omega)).trans Hbox.out)
      obtain ⟨q0, q1, q2, q3, q4, q5, q6, q7, q8, q9, q10, q11⟩ := hbw2
      have hsz2 := hB2.size
      rw [Hsz.out] at hsz2
      go_upto_if 59 with (go_at_call 110; refine (points_any _ _).mono ?_; rintro e w1 ⟨rfl, rfl⟩)
      go_cut [3] (fun s3 wx => CkRel W (w.heap.size + 1) (ck3 r) s3 wx)
      case first =>
        cases b2
        · go_wp2
          all_goals
            go_meet
            case rel =>
              refine CkRel.mk' ?_ hB2
              have hb := Hb2.out
              clear Hb2 Hbox HB0' Hsz HH q0 q1 q2 q3 q4 q5 q6 q7 q8 q9 q10 q11 hB2
              unfold ck3
              simp_all
        · cases hpt : ptsB r.kind
          · go_wp2_with (go_at_call 111; refine (txn_any _ _).mono ?_; rintro e w1 ⟨rfl, rfl⟩)
            all_goals
              go_meet
              case rel =>
                refine CkRel.mk' ?_ hB2
                have hb := Hb2.out
                clear Hb2 Hbox HB0' Hsz HH q0 q1 q2 q3 q4 q5 q6 q7 q8 q9 q10 q11 hB2
                unfold ck3
                simp_all
          · by_cases e1 : (r.txn == 0) = true
            · by_cases e2 : (r.prev == 0) = true
              · go_wp2
                all_goals
                  go_meet
                  case rel =>
                    refine CkRel.mk' ?_ hB2
                    have hb := Hb2.out
                    clear Hb2 Hbox HB0' Hsz HH q0 q1 q2 q3 q4 q5 q6 q7 q8 q9 q10 q11 hB2
                    unfold ck3
                    simp_all
              · have e2' : (r.prev == 0) = false := by simpa using e2
                clear e2
                go_wp2
                all_goals
                  go_meet
                  case rel =>
                    refine CkRel.mk' ?_ hB2
                    have hb := Hb2.out
                    clear Hb2 Hbox HB0' Hsz HH q0 q1 q2 q3 q4 q5 q6 q7 q8 q9 q10 q11 hB2
                    unfold ck3
                    simp_all
            · have e1' : (r.txn == 0) = false := by simpa using e1
              clear e1
              go_wp2
              all_goals
                go_meet
                case rel =>
                  refine CkRel.mk' ?_ hB2
                  have hb := Hb2.out
                  clear Hb2 Hbox HB0' Hsz HH q0 q1 q2 q3 q4 q5 q6 q7 q8 q9 q10 q11 hB2
                  unfold ck3
                  simp_all
      case rest =>
        clear q0 q1 q2 q3 q4 q5 q6 q7 q8 q9 q10 q11 hB2 Hb2
        obtain ⟨b3, rfl, hb3, hB3⟩ := hcut
        have Hb3 := Sec.mk hb3
        clear hb3
        have hbw3 := box12 ((hB3.block w.heap.size (by omega)).trans Hbox.out)
        obtain ⟨q0, q1, q2, q3, q4, q5, q6, q7, q8, q9, q10, q11⟩ := hbw3
        have hsz3 := hB3.size
        rw [Hsz.out] at hsz3
        go_upto_if 79 with fail
        go_cut [3] (fun s3 wx => CkRel W (w.heap.size + 1) (ck4 r) s3 wx)
        case first =>
          cases b3
          · go_wp2
            all_goals
              go_meet
              case rel =>
                refine CkRel.mk' ?_ hB3
                have hb := Hb3.out
                clear Hb3 Hbox HB0' Hsz HH q0 q1 q2 q3 q4 q5 q6 q7 q8 q9 q10 q11 hB3
                unfold ck4
                simp_all
          · by_cases e8 : (r.kind != 8) = true
            · by_cases e1 : ((r.txns.length : Int) == 0) = true
              · by_cases e2 : ((r.dirty.length : Int) == 0) = true
                · go_wp2
                  all_goals
                    go_meet
                    case rel =>
                      refine CkRel.mk' ?_ hB3
                      have hb := Hb3.out
                      clear Hb3 Hbox HB0' Hsz HH q0 q1 q2 q3 q4 q5 q6 q7 q8 q9 q10 q11 hB3
                      unfold ck4
                      simp_all
                · have e2' : ((r.dirty.length : Int) == 0) = false := by simpa using e2
                  clear e2
                  go_wp2
                  all_goals
                    go_meet
                    case rel =>
                      refine CkRel.mk' ?_ hB3
                      have hb := Hb3.out
                      clear Hb3 Hbox HB0' Hsz HH q0 q1 q2 q3 q4 q5 q6 q7 q8 q9 q10 q11 hB3
                      unfold ck4
                      simp_all
              · have e1' : ((r.txns.length : Int) == 0) = false := by simpa using e1
                clear e1
                go_wp2
                all_goals
                  go_meet
                  case rel =>
                    refine CkRel.mk' ?_ hB3
                    have hb := Hb3.out
                    clear Hb3 Hbox HB0' Hsz HH q0 q1 q2 q3 q4 q5 q6 q7 q8 q9 q10 q11 hB3
                    unfold ck4
                    simp_all
            · have e8' : (r.kind != 8) = false := by simpa using e8
              clear e8
              go_wp2
              all_goals
                go_meet
                case rel =>
                  refine CkRel.mk' ?_ hB3
                  have hb := Hb3.out
                  clear Hb3 Hbox HB0' Hsz HH q0 q1 q2 q3 q4 q5 q6 q7 q8 q9 q10 q11 hB3
                  unfold ck4
                  simp_all
        case rest =>
          clear q0 q1 q2 q3 q4 q5 q6 q7 q8 q9 q10 q11 hB3 Hb3
          obtain ⟨b4, rfl, hb4, hB4⟩ := hcut
          have Hb4 := Sec.mk hb4
          clear hb4
          have hbw4 := box12 ((hB4.block w.heap.size (by omega)).trans Hbox.out)
          obtain ⟨q0, q1, q2, q3, q4, q5, q6, q7, q8, q9, q10, q11⟩ := hbw4
          have hsz4 := hB4.size
          rw [Hsz.out] at hsz4
          have HM := Sec.mk (may_iff r)
          have hBw := HB0'.out.trans (hB4.mono (show w.heap.size ≤ w.heap.size + 1 by omega))
          have HT := Sec.mk (tables_any ok r (.slice A1 r.txns.length c1) (.slice A2 r.dirty.length c2) wc (HH.out.below hBw) hn1 hn2)
          simp only [rcs] at HT
          cases b4
          · go_wp2
            go_ret
            refine ⟨1, rfl, ⟨fun h => by omega, fun h => ?_⟩, .inr rfl, hBw⟩
            have := Hb4.out.2 (HM.out.1 h).1
            cases this
          · have Hck : Sec (ck4 r) := ⟨Hb4.out.1 rfl⟩
            by_cases e2 : (r.kind != 2) = true
            · by_cases eu : (r.undo != 0) = true
              · go_wp2
                go_ret
                refine ⟨1, rfl, ⟨fun h => by omega, fun h => ?_⟩, .inr rfl, hBw⟩
                have := (HM.out.1 h).2.1 (by simpa using e2)
                simp [this] at eu
              · have eu' : (r.undo != 0) = false := by simpa using eu
                clear eu
                go_wp2_with (go_at_call 112; refine HT.out.mono ?_; rintro e w1 ⟨b, rfl, hb, hbw⟩; have Hb := Sec.mk hb; clear hb; cases b)
                · go_ret
                  refine ⟨1, rfl, ⟨fun h => by omega, fun h => ?_⟩, .inr rfl, hBw.trans (hbw.mono (by omega))⟩
                  have := Hb.out.2 (HM.out.1 h).2.2
                  cases this
                · go_ret
                  exact ⟨0, rfl, ⟨fun _ => HM.out.2 ⟨Hck.out, fun _ => by simpa using eu', Hb.out.1 trivial⟩, fun _ => rfl⟩, .inl rfl, hBw.trans (hbw.mono (by omega))⟩
            · have e2' : (r.kind != 2) = false := by simpa using e2
              clear e2
              go_wp2_with (go_at_call 112; refine HT.out.mono ?_; rintro e w1 ⟨b, rfl, hb, hbw⟩; have Hb := Sec.mk hb; clear hb; cases b)
              · go_ret
                refine ⟨1, rfl, ⟨fun h => by omega, fun h => ?_⟩, .inr rfl, hBw.trans (hbw.mono (by omega))⟩
                have := Hb.out.2 (HM.out.1 h).2.2
                cases this
              · go_ret
                exact ⟨0, rfl, ⟨fun _ => HM.out.2 ⟨Hck.out, fun h => absurd (by simpa using e2') h, Hb.out.1 trivial⟩, fun _ => rfl⟩, .inl rfl, hBw.trans (hbw.mono (by omega))⟩
end Go.Proofs.Ytgnlhjphmaikkaa
