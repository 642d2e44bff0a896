/- Package rec, walked: a checkpoint's rows, and Check. Conditions: the record's slices read, its numbers are of their kinds. -/
import Derived.Test.YtgnlhjphmaikkaaG
set_option linter.unusedVariables false
set_option linter.unusedSimpArgs false
namespace Go.Proofs.Ytgnlhjphmaikkaa
open Go.RowKit

theorem q107 (p : Int) (w : World) : Calls Try.prog 107 #[.int .u64 p] w fun e w' => e = .returned (.bool (numB p)) ∧ w' = w := (numbered_any p w).mono fun _ _ h => ⟨h.1, h.2.symm⟩
theorem q108 (p : Int) (w : World) : Calls Try.prog 108 #[.int .i64 p] w fun e w' => e = .returned (.bool (pageB p)) ∧ w' = w := (page_any p w).mono fun _ _ h => ⟨h.1, h.2.symm⟩
theorem q111 (p : Int) (w : World) : Calls Try.prog 111 #[.int .i64 p] w fun e w' => e = .returned (.bool (txnB p)) ∧ w' = w := (txn_any p w).mono fun _ _ h => ⟨h.1, h.2.symm⟩

/-- What is asked of row i. -/
def txRow (l : List PTxn) (i : Nat) : Prop := ∃ h : i < l.length, okTxn l[i] ∧ (0 < i → (l[i - 1]'(by omega)).id < (l[i]).id)
def dyRow (l : List PDirty) (i : Nat) : Prop := ∃ h : i < l.length, okDirty l[i] ∧ (0 < i → (l[i - 1]'(by omega)).page < (l[i]).page)
theorem okTxns_iff (l : List PTxn) : okTxns l ↔ l.length ≤ 64 ∧ ∀ i, i < l.length → txRow l i := by
  unfold okTxns txRow
  constructor
  · rintro ⟨h1, h2, h3⟩
    refine ⟨h1, fun i hi => ⟨hi, h2 _ (List.getElem_mem hi), fun h0 => ?_⟩⟩
    have := h3 (i - 1) (by omega)
    simpa [Nat.sub_add_cancel h0] using this
  · rintro ⟨h1, h2⟩
    refine ⟨h1, fun t ht => ?_, fun i hi => ?_⟩
    · obtain ⟨i, hi, rfl⟩ := List.getElem_of_mem ht
      exact (h2 i hi).choose_spec.1
    · have := (h2 (i + 1) hi).choose_spec.2 (by omega)
      simpa using this
theorem okDirties_iff (l : List PDirty) : okDirties l ↔ l.length ≤ 16 ∧ ∀ i, i < l.length → dyRow l i := by
  unfold okDirties dyRow
  constructor
  · rintro ⟨h1, h2, h3⟩
    refine ⟨h1, fun i hi => ⟨hi, h2 _ (List.getElem_mem hi), fun h0 => ?_⟩⟩
    have := h3 (i - 1) (by omega)
    simpa [Nat.sub_add_cancel h0] using this
  · rintro ⟨h1, h2⟩
    refine ⟨h1, fun t ht => ?_, fun i hi => ?_⟩
    · obtain ⟨i, hi, rfl⟩ := List.getElem_of_mem ht
      exact (h2 i hi).choose_spec.1
    · have := (h2 (i + 1) hi).choose_spec.2 (by omega)
      simpa using this

set_option maxRecDepth 100000 in
set_option maxHeartbeats 8000000 in
theorem tables_any (ok : Nat → Prop) (r : PRec) (vt vd : Value) (w : World) (H : RecSl w ok r vt vd) (hn1 : r.txns.length ≤ 1000000) (hn2 : r.dirty.length ≤ 1000000) :
    Calls Try.prog 112 #[.agg (rcs r vt vd).toArray] w fun e w' => ∃ b : Bool, e = .returned (.bool b) ∧ (b = true ↔ okTxns r.txns ∧ okDirties r.dirty) ∧ Below w.heap.size w w' := by
  have HT := Sec.mk H.t
  have HD := Sec.mk H.d
  obtain ⟨A1, c1, rfl, hc1⟩ : ∃ A c, vt = .slice A r.txns.length c ∧ r.txns.length ≤ c := by obtain ⟨_, _, A, c, e, h, _⟩ := H.t; exact ⟨A, c, e, h⟩
  obtain ⟨A2, c2, rfl, hc2⟩ : ∃ A c, vd = .slice A r.dirty.length c ∧ r.dirty.length ≤ c := by obtain ⟨_, _, A, c, e, h, _⟩ := H.d; exact ⟨A, c, e, h⟩
  clear H
  by_cases h64 : r.txns.length ≤ 64
  · by_cases h16 : r.dirty.length ≤ 16
    · have hd1 : decide ((64 : Int) < (r.txns.length : Int)) = false := decide_eq_false (by omega)
      have hd2 : decide ((16 : Int) < (r.dirty.length : Int)) = false := decide_eq_false (by omega)
      go_enter Try.func112, Try.ntmps112
      simp only [rcs]
      go_wp2_with fail
      have hbox := bk_new w (.cells #[Value.int IntKind.i64 r.kind, Value.int IntKind.u64 r.lsn, Value.int IntKind.i64 r.txn, Value.int IntKind.u64 r.prev, Value.int IntKind.u64 r.undo, Value.int IntKind.i64 r.page, Value.int IntKind.i64 r.act.kind, Value.string { data := r.act.key.toArray }, Value.string { data := r.act.old.toArray }, Value.string { data := r.act.new.toArray }, Value.slice A1 r.txns.length c1, Value.slice A2 r.dirty.length c2] 41)
      have HB0 : Below w.heap.size w (w.alloc (.cells #[Value.int IntKind.i64 r.kind, Value.int IntKind.u64 r.lsn, Value.int IntKind.i64 r.txn, Value.int IntKind.u64 r.prev, Value.int IntKind.u64 r.undo, Value.int IntKind.i64 r.page, Value.int IntKind.i64 r.act.kind, Value.string { data := r.act.key.toArray }, Value.string { data := r.act.old.toArray }, Value.string { data := r.act.new.toArray }, Value.slice A1 r.txns.length c1, Value.slice A2 r.dirty.length c2] 41)) := (Below.refl _ _).alloc (Nat.le_refl _) _
      have hsz : (w.alloc (.cells #[Value.int IntKind.i64 r.kind, Value.int IntKind.u64 r.lsn, Value.int IntKind.i64 r.txn, Value.int IntKind.u64 r.prev, Value.int IntKind.u64 r.undo, Value.int IntKind.i64 r.page, Value.int IntKind.i64 r.act.kind, Value.string { data := r.act.key.toArray }, Value.string { data := r.act.old.toArray }, Value.string { data := r.act.new.toArray }, Value.slice A1 r.txns.length c1, Value.slice A2 r.dirty.length c2] 41)).heap.size = w.heap.size + 1 := by simp
      generalize w.alloc (.cells #[Value.int IntKind.i64 r.kind, Value.int IntKind.u64 r.lsn, Value.int IntKind.i64 r.txn, Value.int IntKind.u64 r.prev, Value.int IntKind.u64 r.undo, Value.int IntKind.i64 r.page, Value.int IntKind.i64 r.act.kind, Value.string { data := r.act.key.toArray }, Value.string { data := r.act.old.toArray }, Value.string { data := r.act.new.toArray }, Value.slice A1 r.txns.length c1, Value.slice A2 r.dirty.length c2] 41) = W at *
      have HTW := Sec.mk (HT.out.below HB0)
      have HDW := Sec.mk (HD.out.below HB0)
      clear HT HD
      generalize hBe : w.heap.size = B at *
      have HBe := Sec.mk hBe
      clear hBe
      have Hbox := Sec.mk hbox
      clear hbox
      have Hsz := Sec.mk hsz
      clear hsz
      go_loopw [20] (fun i wr => ∃ j : Nat, j ≤ r.txns.length ∧ i = .int .i64 j ∧ Below (B + 1) W wr ∧ ∀ i, i < j → txRow r.txns i) (fun i _ => r.txns.length - (intOf i).toNat)
      case atStart => exact ⟨0, by omega, rfl, Below.refl _ _, fun i hi => by omega⟩
      case round =>
        obtain ⟨j, hj, rfl, HB, hall⟩ := hrel
        have Hall := Sec.mk hall
        clear hall
        have hBw := HB0.trans (HB.mono (show B ≤ B + 1 by omega))
        have HTr := HTW.out.below (by rw [Hsz.out]; exact HB)
        by_cases hlt : j < r.txns.length
        · obtain ⟨b, o, rfl, hc⟩ : ∃ b o, A1 = some ⟨b, o, none⟩ ∧ ∀ j u, (txCells r.txns)[j]? = some u → wr.cell? ⟨b, o + j, none⟩ = some u := by
            obtain ⟨_, _, A, c, e, _, _, h⟩ := HTr
            obtain ⟨b, o, e2, _, h2⟩ := h (by omega)
            injection e with e3
            exact ⟨b, o, e3.trans e2, h2⟩
          have g1 := txCells_get r.txns j hlt
          have k0 := hc _ _ g1.1
          have k1 := hc _ _ g1.2.1
          have k2 := hc _ _ g1.2.2
          rw [← Nat.add_assoc] at k1 k2
          have hbw : wr.heap[B]? = some (.cells #[Value.int IntKind.i64 r.kind, Value.int IntKind.u64 r.lsn, Value.int IntKind.i64 r.txn, Value.int IntKind.u64 r.prev, Value.int IntKind.u64 r.undo, Value.int IntKind.i64 r.page, Value.int IntKind.i64 r.act.kind, Value.string { data := r.act.key.toArray }, Value.string { data := r.act.old.toArray }, Value.string { data := r.act.new.toArray }, Value.slice (some ⟨b, o, none⟩) r.txns.length c1, Value.slice A2 r.dirty.length c2] 41 (0, 0)) := (HB.block B (by omega)).trans Hbox.out
          have hcx : wr.cell? ⟨B, 10, none⟩ = some (Value.slice (some ⟨b, o, none⟩) r.txns.length c1) := bk_cell hbw 10
          have hcW : ∀ ob, (wr.alloc ob).cell? ⟨B, 10, none⟩ = some (Value.slice (some ⟨b, o, none⟩) r.txns.length c1) := fun ob => bk_cell (bk_alloc hbw ob) 10
          have Hrow := Sec.mk (show txRow r.txns j ↔ okTxn r.txns[j] ∧ (0 < j → (r.txns[j - 1]'(by omega)).id < (r.txns[j]).id) from ⟨fun h => h.choose_spec, fun h => ⟨hlt, h⟩⟩)
          have Hok := Sec.mk (show okTxn r.txns[j] ↔ txnB (r.txns[j]).id = true ∧ 0 ≤ (r.txns[j]).st ∧ (r.txns[j]).st < 3 ∧ numB (r.txns[j]).last = true by
            rw [txnB_iff, numB_iff]; unfold okTxn numbered; omega)
          have Hprev : Sec (∀ (h0 : 0 < j) (ob : Obj), (wr.alloc ob).cell? ⟨b, o + (j - 1) * 3, none⟩ = some (.int .i64 (r.txns[j - 1]'(by omega)).id)) := ⟨fun h0 ob => by
            have h1 := hc _ _ (txCells_get r.txns (j - 1) (by omega)).1
            have h2 := World.block_lt_of_cell? wr _ h1
            rw [World.cell?_alloc_past _ _ _ h2]; exact h1⟩
          clear g1 hc hbw
          generalize (r.txns[j]).id = id' at *
          generalize (r.txns[j]).st = st' at *
          generalize (r.txns[j]).last = last' at *
          by_cases e1 : txnB id' = false
          · have hbad : ¬ txRow r.txns j := fun h => by
              have h1 := Hrow.out.1 h
              rw [Hok.out] at h1
              simp [e1] at h1
            have Hbad := Sec.mk hbad
            clear hbad
            go_wp2_with fail
            go_quiet ((first | (go_at_call 111; exact Calls.quiet_of_same (q111 _ _)) | (go_at_call 107; exact Calls.quiet_of_same (q107 _ _)) | (go_at_call 108; exact Calls.quiet_of_same (q108 _ _))))
            go_wp2
            go_ret
            exact ⟨false, rfl, ⟨(fun h => by cases h), fun h => (Hbad.out (((okTxns_iff _).1 h.1).2 j hlt)).elim⟩, (by rw [HBe.out]; exact below_drewN (hBw.alloc (Nat.le_trans (by have := Hsz.out; omega) HB.size) _) _)⟩
          · have e1' := (by simpa using e1 : txnB id' = true)
            by_cases e2 : st' < 0
            · have hbad : ¬ txRow r.txns j := fun h => by
                have h1 := Hrow.out.1 h
                rw [Hok.out] at h1
                omega
              have Hbad := Sec.mk hbad
              clear hbad
              go_wp2_with fail
              go_quiet ((first | (go_at_call 111; exact Calls.quiet_of_same (q111 _ _)) | (go_at_call 107; exact Calls.quiet_of_same (q107 _ _)) | (go_at_call 108; exact Calls.quiet_of_same (q108 _ _))))
              go_wp2
              go_ret
              exact ⟨false, rfl, ⟨(fun h => by cases h), fun h => (Hbad.out (((okTxns_iff _).1 h.1).2 j hlt)).elim⟩, (by rw [HBe.out]; exact below_drewN (hBw.alloc (Nat.le_trans (by have := Hsz.out; omega) HB.size) _) _)⟩
            · have e2' := decide_eq_false e2
              by_cases e3 : 3 ≤ st'
              · have hbad : ¬ txRow r.txns j := fun h => by
                  have h1 := Hrow.out.1 h
                  rw [Hok.out] at h1
                  omega
                have Hbad := Sec.mk hbad
                clear hbad
                go_wp2_with fail
                go_quiet ((first | (go_at_call 111; exact Calls.quiet_of_same (q111 _ _)) | (go_at_call 107; exact Calls.quiet_of_same (q107 _ _)) | (go_at_call 108; exact Calls.quiet_of_same (q108 _ _))))
                go_wp2
                go_ret
                exact ⟨false, rfl, ⟨(fun h => by cases h), fun h => (Hbad.out (((okTxns_iff _).1 h.1).2 j hlt)).elim⟩, (by rw [HBe.out]; exact below_drewN (hBw.alloc (Nat.le_trans (by have := Hsz.out; omega) HB.size) _) _)⟩
              · have e3' := decide_eq_false e3
                by_cases e4 : numB last' = false
                · have hbad : ¬ txRow r.txns j := fun h => by
                    have h1 := Hrow.out.1 h
                    rw [Hok.out] at h1
                    simp [e4] at h1
                  have Hbad := Sec.mk hbad
                  clear hbad
                  go_wp2_with fail
                  go_quiet ((first | (go_at_call 111; exact Calls.quiet_of_same (q111 _ _)) | (go_at_call 107; exact Calls.quiet_of_same (q107 _ _)) | (go_at_call 108; exact Calls.quiet_of_same (q108 _ _))))
                  go_wp2
                  go_ret
                  exact ⟨false, rfl, ⟨(fun h => by cases h), fun h => (Hbad.out (((okTxns_iff _).1 h.1).2 j hlt)).elim⟩, (by rw [HBe.out]; exact below_drewN (hBw.alloc (Nat.le_trans (by have := Hsz.out; omega) HB.size) _) _)⟩
                · have e4' := (by simpa using e4 : numB last' = true)
                  by_cases h0 : 0 < j
                  · have hpc := fun ob => Hprev.out h0 ob
                    have hi0 : (0 : Int) < (j : Int) := by omega
                    have hi1 : decide ((0 : Int) < (j : Int)) = true := decide_eq_true hi0
                    have hsub : IntKind.i64.wrap ((j : Int) - 1) = (j : Int) - 1 := IntWalk.i64_in _ (by omega)
                    have hto : ((j : Int) - 1).toNat = j - 1 := by omega
                    have hr0 : (0 : Int) ≤ (j : Int) - 1 := by omega
                    have hr1 : (j : Int) - 1 < (r.txns.length : Int) := by omega
                    generalize hpe : (r.txns[j - 1]'(by omega)).id = pid at *
                    clear hpe
                    by_cases e9 : pid < id'
                    · have e9' : decide (id' ≤ pid) = false := decide_eq_false (by omega)
                      have hgood : txRow r.txns j := Hrow.out.2 (by rw [Hok.out]; exact ⟨⟨e1', by omega, by omega, e4'⟩, fun _ => e9⟩)
                      have Hgood := Sec.mk hgood
                      clear hgood
                      go_wp2_with fail
                      go_quiet ((first | (go_at_call 111; exact Calls.quiet_of_same (q111 _ _)) | (go_at_call 107; exact Calls.quiet_of_same (q107 _ _)) | (go_at_call 108; exact Calls.quiet_of_same (q108 _ _))))
                      go_wp2
                      go_roundw
                      case rel => exact ⟨j + 1, by omega, by go_num, below_drewN (HB.alloc (Nat.le_trans (by have := Hsz.out; omega) HB.size) _) _, fun i hi => by
                        rcases Nat.lt_succ_iff_lt_or_eq.1 hi with h | rfl
                        · exact Hall.out i h
                        · exact Hgood.out⟩
                      case measure => simp [intOf]; omega
                    · have e9' : decide (id' ≤ pid) = true := decide_eq_true (by omega)
                      have hbad : ¬ txRow r.txns j := fun h => by
                        have h1 := Hrow.out.1 h
                        rw [Hok.out] at h1
                        exact e9 (h1.2 h0)
                      have Hbad := Sec.mk hbad
                      clear hbad
                      go_wp2_with fail
                      go_quiet ((first | (go_at_call 111; exact Calls.quiet_of_same (q111 _ _)) | (go_at_call 107; exact Calls.quiet_of_same (q107 _ _)) | (go_at_call 108; exact Calls.quiet_of_same (q108 _ _))))
                      go_wp2
                      go_ret
                      exact ⟨false, rfl, ⟨(fun h => by cases h), fun h => (Hbad.out (((okTxns_iff _).1 h.1).2 j hlt)).elim⟩, (by rw [HBe.out]; exact below_drewN (hBw.alloc (Nat.le_trans (by have := Hsz.out; omega) HB.size) _) _)⟩
                  · have hi1 : decide ((0 : Int) < (j : Int)) = false := decide_eq_false (by omega)
                    clear Hprev
                    have hgood : txRow r.txns j := Hrow.out.2 (by rw [Hok.out]; exact ⟨⟨e1', by omega, by omega, e4'⟩, fun h => absurd h h0⟩)
                    have Hgood := Sec.mk hgood
                    clear hgood
                    go_wp2_with fail
                    go_quiet ((first | (go_at_call 111; exact Calls.quiet_of_same (q111 _ _)) | (go_at_call 107; exact Calls.quiet_of_same (q107 _ _)) | (go_at_call 108; exact Calls.quiet_of_same (q108 _ _))))
                    go_wp2
                    go_roundw
                    case rel => exact ⟨j + 1, by omega, by go_num, below_drewN (HB.alloc (Nat.le_trans (by have := Hsz.out; omega) HB.size) _) _, fun i hi => by
                      rcases Nat.lt_succ_iff_lt_or_eq.1 hi with h | rfl
                      · exact Hall.out i h
                      · exact Hgood.out⟩
                    case measure => simp [intOf]; omega
        · obtain rfl : j = r.txns.length := by omega
          have Hall1 := Hall
          clear Hall hlt HTr hBw
          have HBB := HB
          have hb11 : wr.cell? ⟨B, 11, none⟩ = some (Value.slice A2 r.dirty.length c2) := bk_cell ((HB.block B (by omega)).trans Hbox.out) 11
          go_wp2_with fail
          go_loopw [65] (fun i wr => ∃ j : Nat, j ≤ r.dirty.length ∧ i = .int .i64 j ∧ Below (B + 1) W wr ∧ ∀ i, i < j → dyRow r.dirty i) (fun i _ => r.dirty.length - (intOf i).toNat)
          case atStart => exact ⟨0, by omega, rfl, HBB, fun i hi => by omega⟩
          case round =>
            obtain ⟨j, hj, rfl, HB, hall⟩ := hrel
            have Hall := Sec.mk hall
            clear hall
            have hBw := HB0.trans (HB.mono (show B ≤ B + 1 by omega))
            have HTr := HDW.out.below (by rw [Hsz.out]; exact HB)
            by_cases hlt : j < r.dirty.length
            · obtain ⟨b, o, rfl, hc⟩ : ∃ b o, A2 = some ⟨b, o, none⟩ ∧ ∀ j u, (dyCells r.dirty)[j]? = some u → wr.cell? ⟨b, o + j, none⟩ = some u := by
                obtain ⟨_, _, A, c, e, _, _, h⟩ := HTr
                obtain ⟨b, o, e2, _, h2⟩ := h (by omega)
                injection e with e3
                exact ⟨b, o, e3.trans e2, h2⟩
              have g1 := dyCells_get r.dirty j hlt
              have k0 := hc _ _ g1.1
              have k1 := hc _ _ g1.2
              rw [← Nat.add_assoc] at k1
              have hbw : wr.heap[B]? = some (.cells #[Value.int IntKind.i64 r.kind, Value.int IntKind.u64 r.lsn, Value.int IntKind.i64 r.txn, Value.int IntKind.u64 r.prev, Value.int IntKind.u64 r.undo, Value.int IntKind.i64 r.page, Value.int IntKind.i64 r.act.kind, Value.string { data := r.act.key.toArray }, Value.string { data := r.act.old.toArray }, Value.string { data := r.act.new.toArray }, Value.slice A1 r.txns.length c1, Value.slice (some ⟨b, o, none⟩) r.dirty.length c2] 41 (0, 0)) := (HB.block B (by omega)).trans Hbox.out
              have hcx : wr.cell? ⟨B, 11, none⟩ = some (Value.slice (some ⟨b, o, none⟩) r.dirty.length c2) := bk_cell hbw 11
              have hcW : ∀ ob, (wr.alloc ob).cell? ⟨B, 11, none⟩ = some (Value.slice (some ⟨b, o, none⟩) r.dirty.length c2) := fun ob => bk_cell (bk_alloc hbw ob) 11
              have Hrow := Sec.mk (show dyRow r.dirty j ↔ okDirty r.dirty[j] ∧ (0 < j → (r.dirty[j - 1]'(by omega)).page < (r.dirty[j]).page) from ⟨fun h => h.choose_spec, fun h => ⟨hlt, h⟩⟩)
              have Hok := Sec.mk (show okDirty r.dirty[j] ↔ pageB (r.dirty[j]).page = true ∧ numB (r.dirty[j]).rc = true by
                rw [pageB_iff, numB_iff]; unfold okDirty numbered; omega)
              have Hprev : Sec (∀ (h0 : 0 < j) (ob : Obj), (wr.alloc ob).cell? ⟨b, o + (j - 1) * 2, none⟩ = some (.int .i64 (r.dirty[j - 1]'(by omega)).page)) := ⟨fun h0 ob => by
                have h1 := hc _ _ (dyCells_get r.dirty (j - 1) (by omega)).1
                have h2 := World.block_lt_of_cell? wr _ h1
                rw [World.cell?_alloc_past _ _ _ h2]; exact h1⟩
              clear g1 hc hbw
              generalize (r.dirty[j]).page = page' at *
              generalize (r.dirty[j]).rc = rc' at *
              by_cases e1 : pageB page' = false
              · have hbad : ¬ dyRow r.dirty j := fun h => by
                  have h1 := Hrow.out.1 h
                  rw [Hok.out] at h1
                  simp [e1] at h1
                have Hbad := Sec.mk hbad
                clear hbad
                go_wp2_with fail
                go_quiet ((first | (go_at_call 111; exact Calls.quiet_of_same (q111 _ _)) | (go_at_call 107; exact Calls.quiet_of_same (q107 _ _)) | (go_at_call 108; exact Calls.quiet_of_same (q108 _ _))))
                go_wp2
                go_ret
                exact ⟨false, rfl, ⟨(fun h => by cases h), fun h => (Hbad.out (((okDirties_iff _).1 h.2).2 j hlt)).elim⟩, (by rw [HBe.out]; exact below_drewN (hBw.alloc (Nat.le_trans (by have := Hsz.out; omega) HB.size) _) _)⟩
              · have e1' := (by simpa using e1 : pageB page' = true)
                by_cases e4 : numB rc' = false
                · have hbad : ¬ dyRow r.dirty j := fun h => by
                    have h1 := Hrow.out.1 h
                    rw [Hok.out] at h1
                    simp [e4] at h1
                  have Hbad := Sec.mk hbad
                  clear hbad
                  go_wp2_with fail
                  go_quiet ((first | (go_at_call 111; exact Calls.quiet_of_same (q111 _ _)) | (go_at_call 107; exact Calls.quiet_of_same (q107 _ _)) | (go_at_call 108; exact Calls.quiet_of_same (q108 _ _))))
                  go_wp2
                  go_ret
                  exact ⟨false, rfl, ⟨(fun h => by cases h), fun h => (Hbad.out (((okDirties_iff _).1 h.2).2 j hlt)).elim⟩, (by rw [HBe.out]; exact below_drewN (hBw.alloc (Nat.le_trans (by have := Hsz.out; omega) HB.size) _) _)⟩
                · have e4' := (by simpa using e4 : numB rc' = true)
                  by_cases h0 : 0 < j
                  · have hpc := fun ob => Hprev.out h0 ob
                    have hi0 : (0 : Int) < (j : Int) := by omega
                    have hi1 : decide ((0 : Int) < (j : Int)) = true := decide_eq_true hi0
                    have hsub : IntKind.i64.wrap ((j : Int) - 1) = (j : Int) - 1 := IntWalk.i64_in _ (by omega)
                    have hto : ((j : Int) - 1).toNat = j - 1 := by omega
                    have hr0 : (0 : Int) ≤ (j : Int) - 1 := by omega
                    have hr1 : (j : Int) - 1 < (r.dirty.length : Int) := by omega
                    generalize hpe : (r.dirty[j - 1]'(by omega)).page = pid at *
                    clear hpe
                    by_cases e9 : pid < page'
                    · have e9' : decide (page' ≤ pid) = false := decide_eq_false (by omega)
                      have hgood : dyRow r.dirty j := Hrow.out.2 (by rw [Hok.out]; exact ⟨⟨e1', e4'⟩, fun _ => e9⟩)
                      have Hgood := Sec.mk hgood
                      clear hgood
                      go_wp2_with fail
                      go_quiet ((first | (go_at_call 111; exact Calls.quiet_of_same (q111 _ _)) | (go_at_call 107; exact Calls.quiet_of_same (q107 _ _)) | (go_at_call 108; exact Calls.quiet_of_same (q108 _ _))))
                      go_wp2
                      go_roundw
                      case rel => exact ⟨j + 1, by omega, by go_num, below_drewN (HB.alloc (Nat.le_trans (by have := Hsz.out; omega) HB.size) _) _, fun i hi => by
                        rcases Nat.lt_succ_iff_lt_or_eq.1 hi with h | rfl
                        · exact Hall.out i h
                        · exact Hgood.out⟩
                      case measure => simp [intOf]; omega
                    · have e9' : decide (page' ≤ pid) = true := decide_eq_true (by omega)
                      have hbad : ¬ dyRow r.dirty j := fun h => by
                        have h1 := Hrow.out.1 h
                        rw [Hok.out] at h1
                        exact e9 (h1.2 h0)
                      have Hbad := Sec.mk hbad
                      clear hbad
                      go_wp2_with fail
                      go_quiet ((first | (go_at_call 111; exact Calls.quiet_of_same (q111 _ _)) | (go_at_call 107; exact Calls.quiet_of_same (q107 _ _)) | (go_at_call 108; exact Calls.quiet_of_same (q108 _ _))))
                      go_wp2
                      go_ret
                      exact ⟨false, rfl, ⟨(fun h => by cases h), fun h => (Hbad.out (((okDirties_iff _).1 h.2).2 j hlt)).elim⟩, (by rw [HBe.out]; exact below_drewN (hBw.alloc (Nat.le_trans (by have := Hsz.out; omega) HB.size) _) _)⟩
                  · have hi1 : decide ((0 : Int) < (j : Int)) = false := decide_eq_false (by omega)
                    clear Hprev
                    have hgood : dyRow r.dirty j := Hrow.out.2 (by rw [Hok.out]; exact ⟨⟨e1', e4'⟩, fun h => absurd h h0⟩)
                    have Hgood := Sec.mk hgood
                    clear hgood
                    go_wp2_with fail
                    go_quiet ((first | (go_at_call 111; exact Calls.quiet_of_same (q111 _ _)) | (go_at_call 107; exact Calls.quiet_of_same (q107 _ _)) | (go_at_call 108; exact Calls.quiet_of_same (q108 _ _))))
                    go_wp2
                    go_roundw
                    case rel => exact ⟨j + 1, by omega, by go_num, below_drewN (HB.alloc (Nat.le_trans (by have := Hsz.out; omega) HB.size) _) _, fun i hi => by
                      rcases Nat.lt_succ_iff_lt_or_eq.1 hi with h | rfl
                      · exact Hall.out i h
                      · exact Hgood.out⟩
                    case measure => simp [intOf]; omega
            · obtain rfl : j = r.dirty.length := by omega
              clear hlt
              go_wp2
              go_ret
              exact ⟨true, rfl, ⟨fun _ => ⟨(okTxns_iff _).2 ⟨h64, Hall1.out⟩, (okDirties_iff _).2 ⟨h16, Hall.out⟩⟩, fun _ => rfl⟩, (by rw [HBe.out]; exact hBw)⟩


    · have hd1 : decide ((64 : Int) < (r.txns.length : Int)) = false := decide_eq_false (by omega)
      have hd2 : decide ((16 : Int) < (r.dirty.length : Int)) = true := decide_eq_true (by omega)
      go_enter Try.func112, Try.ntmps112
      simp only [rcs]
      go_wp2
      go_ret
      exact ⟨false, rfl, ⟨(fun h => by cases h), fun h => absurd ((okDirties_iff _).1 h.2).1 h16⟩, (Below.refl _ _).alloc (Nat.le_refl _) _⟩
  · have hd1 : decide ((64 : Int) < (r.txns.length : Int)) = true := decide_eq_true (by omega)
    go_enter Try.func112, Try.ntmps112
    simp only [rcs]
    go_wp2
    go_ret
    exact ⟨false, rfl, ⟨(fun h => by cases h), fun h => absurd ((okTxns_iff _).1 h.1).1 h64⟩, (Below.refl _ _).alloc (Nat.le_refl _) _⟩
end Go.Proofs.Ytgnlhjphmaikkaa
