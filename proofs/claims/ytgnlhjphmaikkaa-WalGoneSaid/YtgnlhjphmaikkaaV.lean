/- Package wal, walked: copied. Conditions: the record's slices read. -/
import Derived.Test.YtgnlhjphmaikkaaU
set_option linter.unusedVariables false
set_option linter.unusedSimpArgs false
namespace Go.Proofs.Ytgnlhjphmaikkaa
open Go.RowKit

theorem row_made (W : World) (B e size : Nat) (hs : 0 < size) (hB : B ≤ W.heap.size) : (W.alloc (.cells #[] e)).ownsRow B e size (.slice (some ⟨W.heap.size, 0, none⟩) 0 0) 0 [] :=
  ⟨by simp, .inr ⟨W.heap.size, 0, #[], rfl, hB, bk_new W _, by simp, by simp [maxLen], by simp, by simp⟩⟩
theorem tx_one (l : List PTxn) : ∀ u ∈ txCells l, u.oneCell' = true := by
  intro u hu; simp [txCells] at hu; obtain ⟨t, _, h⟩ := hu; rcases h with rfl | rfl | rfl <;> rfl
theorem dy_one (l : List PDirty) : ∀ u ∈ dyCells l, u.oneCell' = true := by
  intro u hu; simp [dyCells] at hu; obtain ⟨t, _, h⟩ := hu; rcases h with rfl | rfl <;> rfl
set_option maxRecDepth 100000 in
set_option maxHeartbeats 1600000 in
theorem copied_any (ok : Nat → Prop) (r : PRec) (vt vd : Value) (w : World) (H : RecSl w ok r vt vd) (hn1 : r.txns.length ≤ 1000000) (hn2 : r.dirty.length ≤ 1000000) :
    Calls Try.prog 64 #[.agg (rcs r vt vd).toArray] w fun e w' => ∃ vt' vd', e = .returned (.agg (rcs r vt' vd').toArray) ∧ RecRow w' w.heap.size r vt' vd' ∧ Below w.heap.size w w' := by
  obtain ⟨A1, c1, rfl⟩ : ∃ A c, vt = .slice A r.txns.length c := by obtain ⟨_, _, A, c, e, _⟩ := H.t; exact ⟨A, c, e⟩
  obtain ⟨A2, c2, rfl⟩ : ∃ A c, vd = .slice A r.dirty.length c := by obtain ⟨_, _, A, c, e, _⟩ := H.d; exact ⟨A, c, e⟩
  have hb0 : Below w.heap.size w ((w.alloc (.cells (rcs r (.slice A1 r.txns.length c1) (.slice A2 r.dirty.length c2)).toArray 41)).alloc zero12) := ((Below.refl _ _).alloc (Nat.le_refl _) _).alloc (by simp) _
  have h0 := bk_alloc (bk_new w (.cells (rcs r (.slice A1 r.txns.length c1) (.slice A2 r.dirty.length c2)).toArray 41)) zero12
  have h1 := bk_new (w.alloc (.cells (rcs r (.slice A1 r.txns.length c1) (.slice A2 r.dirty.length c2)).toArray 41)) zero12
  rw [World.size_alloc] at h1
  have HR := H.below hb0
  have hs : ((w.alloc (.cells (rcs r (.slice A1 r.txns.length c1) (.slice A2 r.dirty.length c2)).toArray 41)).alloc zero12).heap.size = w.heap.size + 2 := by simp
  unfold zero12 at *
  simp only [rcs, noAct] at *
  have HW := Sec.mk H
  have HH := Sec.mk (And.intro hb0 (And.intro h0 (And.intro h1 (And.intro HR hs))))
  clear hb0 h0 h1 HR hs H
  go_enter Try.func64, Try.ntmps64
  go_upto_region 1 with fail
  generalize (w.alloc _).alloc _ = W at *
  have hq : ∀ o : Obj, (W.alloc o).cell? ⟨w.heap.size, 10, none⟩ = some (.slice A1 r.txns.length c1) := fun o => bk_cell (bk_alloc HH.out.2.1 o) 10
  have hsz := HH.out.2.2.2.2
  have HSZ := Sec.mk hsz
  clear hsz
  go_upto_region 2 with (
      (refine list_app w.heap.size rfl (.tmp 3) (.tmp 5) 38 136 (.agg #[.int .i64 0, .int .i64 0, .int .u64 0]) 3 24 rfl Try.underlying38 info136 rfl (by decide) (by decide) (.slice (some ⟨W.heap.size, 0, none⟩) 0 0) rfl (.slice A1 r.txns.length c1) rfl 0 [] (row_made W w.heap.size 136 3 (by decide) (by have := HSZ.out; omega)) ok r.txns.length (txCells r.txns) (HH.out.2.2.2.1.t.below ((Below.refl _ _).alloc (Nat.le_refl _) _)) (tx_one _) (by have := HSZ.out; simp; omega) (by omega) ?_
       intro A3 c3 w1 h1 h2 h3
       rw [Nat.zero_add] at h1 ⊢
       rw [List.nil_append] at h1
       have hg0 := bk_grown (bk_alloc HH.out.2.1 (.cells #[] 136)) h2 (by have := HSZ.out; simp [Value.ownBlock]; omega)
       have hg1 := bk_grown (bk_alloc HH.out.2.2.1 (.cells #[] 136)) h2 (by have := HSZ.out; simp [Value.ownBlock]; omega)
       have hB1 : Below W.heap.size W w1 := ((Below.refl _ _).alloc (Nat.le_refl _) (.cells #[] 136)).grown h2 (by simp) (fun k e => by simp [Value.ownBlock] at e; omega)
       have k10 : w1.cell? ⟨w.heap.size, 10, none⟩ = some (.slice A1 r.txns.length c1) := bk_cell hg0 10
       have f10 := bk_frozen hg0 10
       have G0 := bk_set hg0 10 (.slice A3 r.txns.length c3)
       have G1 := bk_far hg1 (p := ⟨w.heap.size, 10, none⟩) (by simp) (.slice A3 r.txns.length c3)
       have k11 : ∀ o : Obj, ((w1.setCell ⟨w.heap.size, 10, none⟩ (.slice A3 r.txns.length c3)).alloc o).cell? ⟨w.heap.size, 11, none⟩ = some (.slice A2 r.dirty.length c2) := fun o => (bk_cell (bk_alloc G0 o) 11).trans rfl
       have H1 := Sec.mk (row_set h1 (p := ⟨w.heap.size, 10, none⟩) (row_ne h1 hg0 (by decide)) (.slice A3 r.txns.length c3))
       have HD1 := Sec.mk ((HH.out.2.2.2.1.d.bound (by decide)).below hB1)
       have HG := Sec.mk (And.intro G0 (And.intro G1 hB1))
       clear h1 h2 h3 hg0 hg1 hB1 G0 G1 hq))
  have hBw : Below w.heap.size w (w1.setCell ⟨w.heap.size, 10, none⟩ (.slice A3 r.txns.length c3)) := below_cell (HH.out.1.trans (HG.out.2.2.mono (by have := HSZ.out; omega))) (Nat.le_refl _) 10 _
  have HBW := Sec.mk hBw
  have hws := hBw.size
  clear hBw k10 f10
  generalize hW2 : w1.setCell ⟨w.heap.size, 10, none⟩ (.slice A3 r.txns.length c3) = W2 at *
  clear hW2
  go_upto_region 3 with (
      (refine list_app w.heap.size rfl (.tmp 8) (.tmp 10) 39 138 (.agg #[.int .i64 0, .int .u64 0]) 2 16 rfl Try.underlying39 info138 rfl (by decide) (by decide) (.slice (some ⟨W2.heap.size, 0, none⟩) 0 0) rfl (.slice A2 r.dirty.length c2) rfl 0 [] (row_made W2 w.heap.size 138 2 (by decide) hws) ok r.dirty.length (dyCells r.dirty) (HW.out.d.below (HBW.out.alloc hws _)) (dy_one _) (by simp; omega) (by omega) ?_
       intro A4 c4 w3 h1 h2 h3
       rw [Nat.zero_add] at h1 ⊢
       rw [List.nil_append] at h1
       have hg0 := bk_grown (bk_alloc HG.out.1 (.cells #[] 138)) h2 (by have := bk_lt HG.out.1; simp [Value.ownBlock]; omega)
       have k11' : w3.cell? ⟨w.heap.size, 11, none⟩ = some (.slice A2 r.dirty.length c2) := (bk_cell hg0 11).trans rfl
       have f11 := bk_frozen hg0 11
       have HQ := Sec.mk (And.intro h1 (And.intro h2 hg0))
       clear h1 h2 h3 hg0))
  have g0 : (w3.setCell ⟨w.heap.size, 11, none⟩ (.slice A4 r.dirty.length c4)).heap[w.heap.size]? = some (.cells (rcs r (.slice A3 r.txns.length c3) (.slice A4 r.dirty.length c4)).toArray 41 (0, 0)) := by
    have := bk_set HQ.out.2.2 11 (.slice A4 r.dirty.length c4)
    simpa [rcs] using this
  have hgr := HQ.out.2.1
  have g1' := bk_grown (bk_alloc HG.out.2.1 (.cells #[] 138)) hgr (by have := bk_lt HG.out.2.1; simp [Value.ownBlock]; omega)
  have g1 := bk_far g1' (p := ⟨w.heap.size, 11, none⟩) (by simp) (.slice A4 r.dirty.length c4)
  have hb3 : Below w.heap.size w w3 := (HBW.out.alloc hws (.cells #[] 138)).grown hgr (by simp; omega) (fun k e => by simp [Value.ownBlock] at e; omega)
  have ht3 : w3.ownsRow w.heap.size 136 3 (.slice A3 r.txns.length c3) r.txns.length (txCells r.txns) := row_kept H1.out fun k hk => by
    have h1 := (H1.out.lt k hk).2
    exact (hgr.block k (by simp; omega) (by simp [Value.ownBlock]; omega)).trans (Below.heap_alloc _ _ k h1)
  have ht4 := row_set ht3 (p := ⟨w.heap.size, 11, none⟩) (row_ne ht3 HQ.out.2.2 (by decide)) (.slice A4 r.dirty.length c4)
  have hd4 := row_set HQ.out.1 (p := ⟨w.heap.size, 11, none⟩) (row_ne HQ.out.1 HQ.out.2.2 (by decide)) (.slice A4 r.dirty.length c4)
  have hb4 := below_cell hb3 (Nat.le_refl _) 11 (.slice A4 r.dirty.length c4)
  have HF := Sec.mk (And.intro g0 (And.intro g1 (And.intro ht4 (And.intro hd4 hb4))))
  simp only [rcs] at HF
  clear g0 g1 g1' hgr hb3 ht3 ht4 hd4 hb4
  generalize w3.setCell ⟨w.heap.size, 11, none⟩ (.slice A4 r.dirty.length c4) = W4 at *
  go_wp2_with (first
    | (refine wpList_load_row rfl 41 _ rfl w.heap.size rfl 41 _ (0, 0) _ HF.out.1 Try.underlying41 rfl (by kernel_rfl) ?_)
    | (refine wpList_store_row rfl 41 _ _ rfl (w.heap.size + 1) _ rfl rfl 41 _ HF.out.2.1 (by kernel_rfl) rfl (by simp [Value.oneCell']) ?_))
  refine bodyPost_ret (results_cell_row rfl _ _ (w.heap.size + 1) 41 _ (0, 0) _ rfl (setRow_heap _ _ _ _ _ _ HF.out.2.1) Try.underlying41 rfl (by kernel_rfl)) rfl ⟨.slice A3 r.txns.length c3, .slice A4 r.dirty.length c4, rfl, ⟨row_kept HF.out.2.2.1 fun k hk => setRow_other _ _ k _ (fun e => row_ne HF.out.2.2.1 HF.out.2.1 (by decide) (by rw [hk, e])), row_kept HF.out.2.2.2.1 fun k hk => setRow_other _ _ k _ (fun e => row_ne HF.out.2.2.2.1 HF.out.2.1 (by decide) (by rw [hk, e]))⟩, below_setRow HF.out.2.2.2.2 (by omega) _⟩
end Go.Proofs.Ytgnlhjphmaikkaa
