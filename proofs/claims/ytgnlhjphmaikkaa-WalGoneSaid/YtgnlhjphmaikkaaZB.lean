/- Package wal, walked: Keep, join, Append, Spend. Conditions: as each statement says. -/
import Derived.Test.YtgnlhjphmaikkaaZA
import Derived.Test.YtgnlhjphmaikkaaK
set_option linter.unusedVariables false
set_option linter.unusedSimpArgs false
namespace Go.Proofs.Ytgnlhjphmaikkaa
open Go.RowKit

structure LogMem (w : World) (B lg dg db : Nat) (G : PLog) (D : PDev) : Prop where
  dev : DevAt w dg db D
  ex : ∃ v es, w.heap[lg]? = some (.cells (G.cs dg v).toArray 91) ∧ EnsAt w B db v es ∧ es.map En.pair = G.l
  b1 : B ≤ lg
  b2 : B ≤ dg
  b3 : B ≤ db
section
variable {w w1 : World} {B lg dg db : Nat} {G : PLog} {D : PDev}
theorem LogAt.mem (h : LogAt w B lg dg db G D) : LogMem w B lg dg db G D := ⟨h.dev, h.ex, h.b1, h.b2, h.b3⟩
theorem LogMem.at (h : LogMem w B lg dg db G D) (ho : G.ok D.b.length) : LogAt w B lg dg db G D := ⟨h.dev, ho, h.ex, h.b1, h.b2, h.b3⟩
theorem LogMem.below (h : LogMem w B lg dg db G D) (hb : Below w.heap.size w w1) : LogMem w1 B lg dg db G D := by
  obtain ⟨v, es, h1, h2, h3⟩ := h.ex
  exact ⟨h.dev.below hb, ⟨v, es, bk_below h1 hb (bk_lt h1), h2.below hb, h3⟩, h.b1, h.b2, h.b3⟩
theorem LogMem.cell (h : LogMem w B lg dg db G D) : ∃ A c es, w.heap[lg]? = some (.cells (G.cs dg (.slice A G.l.length c)).toArray 91) ∧ EnsAt w B db (.slice A G.l.length c) es ∧ es.map En.pair = G.l ∧ es.length = G.l.length := by
  obtain ⟨v, es, g1, g2, g3⟩ := h.ex
  have e : es.length = G.l.length := by rw [← g3, List.length_map]
  obtain ⟨A, c, rfl⟩ := row_shape g2.row
  rw [e] at g1 g2
  exact ⟨A, c, es, g1, g2, g3, e⟩
/-- A log's own cell is set. -/
theorem LogMem.set (h : LogMem w B lg dg db G D) (G1 : PLog) (i : Nat) (u : Value) (hl : G1.l = G.l) (hc : ∀ v, (G.cs dg v).toArray.setIfInBounds i u = (G1.cs dg v).toArray) : LogMem (w.setCell ⟨lg, i, none⟩ u) B lg dg db G1 D ∧ Kept (Plg lg B) w (w.setCell ⟨lg, i, none⟩ u) := by
  obtain ⟨v, es, h1, h2, h3⟩ := h.ex
  have hk : Kept (fun b t => b = lg ∧ t = 91) w (w.setCell ⟨lg, i, none⟩ u) := (Kept.refl _ w).set h1 ⟨rfl, rfl⟩ i u
  refine ⟨⟨h.dev.kept hk (by simp) (by simp) (by simp), ⟨v, es, ?_, h2.kept hk (by simp) (by simp) (by simp) (by simp), by rw [hl, h3]⟩, h.b1, h.b2, h.b3⟩, hk.mono fun b t hb => .inl hb⟩
  rw [← hc]; exact bk_set h1 i u
theorem LogMem.kept_self {P : Nat → TypeId → Prop} (h : LogMem w B lg dg db G D) (hb : Below w.heap.size w w1) : Kept P w w1 := Kept.of hb
end
open Classical in
/-- A record is laid behind all. -/
noncomputable def joinP (G : PLog) (r : PRec) (room : Int) : PLog × Int :=
  if r.may ∧ ¬ r.lsn ≤ lastOf G.l then
    (if room < ((frame r).length : Int) then (G, 7) else ({ G with l := G.l ++ [(r, frame r)], size := G.size + (frame r).length }, 0))
  else (G, 1)
def keepP (G : PLog) (n : Nat) (i : Int) : PLog × Int := if i < 0 then (G, 1) else if (G.room n : Int) < i then (G, 7) else ({ G with kept := G.kept + i.toNat }, 0)
theorem keepP_ok {G : PLog} {n : Nat} (h : G.ok n) (i : Int) : (keepP G n i).1.ok n := by
  unfold keepP
  split
  · exact h
  · split
    · exact h
    · rename_i h1 h2
      have := h.fits
      unfold PLog.room at h2
      exact ⟨h.hand, h.size, by simp only; omega, h.stable, h.flies, h.each, h.marked⟩
section
variable {w : World} {B lg dg db : Nat} {G : PLog} {D : PDev}
set_option maxRecDepth 100000 in
set_option maxHeartbeats 800000 in
theorem Keep_any (H : LogAt w B lg dg db G D) (i : Int) (hi : i < 9223372036854775808) : Calls Try.prog 29 #[.pointer (some ⟨lg, 0, none⟩), .int .i64 i] w fun e w' => e = .returned (.int .i64 (keepP G D.b.length i).2) ∧ LogAt w' B lg dg db (keepP G D.b.length i).1 D ∧ Kept (Plg lg B) w w' := by
  have hok := keepP_ok H.ok i
  have HR := Sec.mk (Room_any H)
  have hf := H.ok.fits
  have hl := H.dev.ok.2.1
  have hrm : G.room D.b.length ≤ 65536 := by unfold PLog.room; omega
  have HOK := Sec.mk hok
  have HH := Sec.mk H
  clear hok H
  by_cases h0 : i < 0
  · have e : keepP G D.b.length i = (G, 1) := by unfold keepP; rw [if_pos h0]
    rw [e]
    go_enter Try.func29, Try.ntmps29
    go_wp2
    go_ret
    exact ⟨rfl, HH.out, Kept.refl _ _⟩
  · by_cases h1 : (G.room D.b.length : Int) < i
    · have e : keepP G D.b.length i = (G, 7) := by unfold keepP; rw [if_neg h0, if_pos h1]
      rw [e]
      have E := Sec.mk e
      clear e
      generalize G.room D.b.length = rm at *
      go_enter Try.func29, Try.ntmps29
      go_wp2_with (go_at_call 30; refine HR.out.mono ?_; rintro e w1 ⟨rfl, m, rfl⟩)
      go_ret
      exact ⟨rfl, HH.out.below (below_drewN (Below.refl _ _) _), Kept.of (below_drewN (Below.refl _ _) _)⟩
    · have e : keepP G D.b.length i = ({ G with kept := G.kept + i.toNat }, 0) := by unfold keepP; rw [if_neg h0, if_neg h1]
      rw [e] at HOK ⊢
      obtain ⟨k, rfl⟩ := Int.eq_ofNat_of_zero_le (show 0 ≤ i by omega)
      simp only [Int.toNat_natCast] at HOK ⊢
      have hki : G.room D.b.length + G.kept ≤ 65536 := by unfold PLog.room; omega
      have hw : IntKind.i64.wrap ((G.kept : Int) + (k : Int)) = (G.kept : Int) + (k : Int) := IntWalk.i64_in _ (by omega)
      have E := Sec.mk e
      clear e hi
      have hcell : ∀ m, (w.drewN m).cell? ⟨lg, 8, none⟩ = some (.int .i64 (G.kept : Nat)) ∧ (w.drewN m).frozen? ⟨lg, 8, none⟩ = false := fun m => by
        obtain ⟨A, c, es, h1, _⟩ := (HH.out.below (below_drewN (Below.refl _ _) m)).cell
        exact ⟨bk_cell h1 8, bk_frozen h1 8⟩
      generalize G.room D.b.length = rm at *
      go_enter Try.func29, Try.ntmps29
      go_wp2_with (go_at_call 30; refine HR.out.mono ?_; rintro e w1 ⟨rfl, m, rfl⟩; obtain ⟨k1, k2⟩ := hcell m; clear hcell)
      go_ret
      have hm := (HH.out.mem.below (below_drewN (Below.refl _ w) m)).set { G with kept := G.kept + k } 8 (.int .i64 ((G.kept : Int) + (k : Int))) rfl (fun v => by simp [PLog.cs])
      exact ⟨rfl, hm.1.at HOK.out, (Kept.of (below_drewN (Below.refl _ _) m)).trans hm.2⟩
end
theorem LogMem.push {W w6 : World} {B lg dg db : Nat} {G : PLog} {D : PDev} {r : PRec} {vt vd vb : Value} {fb : List UInt8} {A A6 : Option Addr} {c c6 n : Nat} {es : List En}
    (hd : DevAt W dg db D) (h1 : W.heap[lg]? = some (.cells (G.cs dg (.slice A n c)).toArray 91)) (hE : EnsAt W B db (.slice A n c) es) (he : es.map En.pair = G.l) (hn : es.length = n) (hrr : RecRow W B r vt vd) (hb : W.ownsRow B 5 1 vb fb.length (bv fb)) (hbb : fb.length ≤ 1000000) (hne : ∀ k, vb.ownBlock = some k → k ≠ db)
    (ht : r.txns.length ≤ 64) (hdd : r.dirty.length ≤ 16) (hg : W.grownBy w6 (Value.slice A n c).ownBlock) (h6 : w6.ownsRow B 95 13 (.slice A6 (n + 1) c6) (n + 1) (es.flatMap En.cs ++ ecs r vt vd vb)) (b1 : B ≤ lg) (b2 : B ≤ dg) (b3 : B ≤ db) :
    LogMem (w6.setCell ⟨lg, 2, none⟩ (.slice A6 (n + 1) c6)) B lg dg db { G with l := G.l ++ [(r, fb)] } D ∧ Kept (Plg lg B) W (w6.setCell ⟨lg, 2, none⟩ (.slice A6 (n + 1) c6)) := by
  subst hn
  have hK : Kept (Plg lg B) W w6 := (Kept.refl _ _).row hg (fun k hk => by
    obtain ⟨cs, f, hh⟩ := row_typed hE.row hk
    exact ⟨cs, 95, f, hh, .inr ⟨(hE.row.lt k hk).1, rfl⟩⟩)
  have hOk : EnOk W B db ⟨r, fb, vt, vd, vb⟩ := by
    refine ⟨hrr, ?_, ht, hdd⟩
    have := Sl.typed_bv hb (by omega)
    obtain ⟨q1, q2, A', c', e, q3, q4, q5⟩ := this
    refine ⟨q1, q2, A', c', e, q3, q4, fun hn => ?_⟩
    obtain ⟨b, o, e1, hq, hc⟩ := q5 hn
    refine ⟨b, o, e1, ⟨hq.1, ?_, hq.2⟩, hc⟩
    have e3 := e
    obtain ⟨z1, z2⟩ := hb
    rcases z2 with ⟨rfl, z3⟩ | ⟨g, cap, cur, rfl, _⟩
    · injection e with e _ _; rw [e1] at e; cases e
    · injection e with e _ _
      rw [e1] at e; injection e with e; injection e with e _ _
      rw [← e]; exact hne g (by simp [Value.ownBlock])
  have hE6 : EnsAt w6 B db (.slice A6 (es.length + 1) c6) (es ++ [⟨r, fb, vt, vd, vb⟩]) := hE.grown hOk hg h6
  have hlg : w6.heap[lg]? = some (.cells (G.cs dg (.slice A es.length c)).toArray 91) := bk_grown h1 hg (by
    intro e
    exact row_ty hE.row e.symm 91 (by decide) ⟨_, _, h1⟩)
  have hk : Kept (fun b t => b = lg ∧ t = 91) w6 (w6.setCell ⟨lg, 2, none⟩ (.slice A6 (es.length + 1) c6)) := (Kept.refl _ w6).set hlg ⟨rfl, rfl⟩ 2 _
  have hd6 : DevAt w6 dg db D := hd.kept hK (by simp [Plg]) (by simp [Plg]) (by simp [Plg])
  refine ⟨⟨hd6.kept hk (by simp) (by simp) (by simp), ⟨.slice A6 (es.length + 1) c6, es ++ [⟨r, fb, vt, vd, vb⟩], ?_, hE6.kept hk (by simp) (by simp) (by simp) (by simp), by simp [he, En.pair]⟩, b1, b2, b3⟩, hK.trans (hk.mono fun b t hb => .inl hb)⟩
  have := bk_set hlg 2 (.slice A6 (es.length + 1) c6)
  simpa [PLog.cs] using this
section
variable {w : World} {B lg dg db : Nat} {G : PLog} {D : PDev}
set_option maxRecDepth 100000 in
set_option maxHeartbeats 1600000 in
theorem join_any (H : LogAt w B lg dg db G D) (ok : Nat → Prop) (r : PRec) (vt vd : Value) (room : Int) (HR : RecSl w ok r vt vd) (hwf : r.wf) (hn1 : r.txns.length ≤ 1000000) (hn2 : r.dirty.length ≤ 1000000) :
    Calls Try.prog 41 #[.pointer (some ⟨lg, 0, none⟩), .agg (rcs r vt vd).toArray, .int .i64 room] w fun e w' => e = .returned (.int .i64 (joinP G r room).2) ∧ LogMem w' B lg dg db (joinP G r room).1 D ∧ Kept (Plg lg B) w w' := by
  have HH := Sec.mk H
  have h6 := H.ok.six
  have hf := H.ok.fits
  have hl := H.dev.ok.2.1
  obtain ⟨A1, c1, rfl⟩ : ∃ A c, vt = .slice A r.txns.length c := by obtain ⟨_, _, A, c, e, _⟩ := HR.t; exact ⟨A, c, e⟩
  obtain ⟨A2, c2, rfl⟩ : ∃ A c, vd = .slice A r.dirty.length c := by obtain ⟨_, _, A, c, e, _⟩ := HR.d; exact ⟨A, c, e⟩
  obtain ⟨J, HJ⟩ : ∃ J, Sec (joinP G r room = J) := ⟨_, ⟨rfl⟩⟩
  rw [HJ.out]
  have hbx := bk_new w (.cells (rcs r (.slice A1 r.txns.length c1) (.slice A2 r.dirty.length c2)).toArray 41)
  have hbb : Below w.heap.size w (w.alloc (.cells (rcs r (.slice A1 r.txns.length c1) (.slice A2 r.dirty.length c2)).toArray 41)) := (Below.refl _ _).alloc (Nat.le_refl _) _
  have hR1 := HR.below hbb
  have H0 : Sec (B ≤ w.heap.size) := ⟨by have := H.b1; obtain ⟨_, _, g, _⟩ := H.ex; have := bk_lt g; omega⟩
  have HB := Sec.mk (And.intro hbx (And.intro hbb hR1))
  clear hbx hbb hR1 H HR
  simp only [rcs] at HB
  by_cases hm : r.may
  · have hfl : (frame r).length ≤ 1206 := by have := frame_length r; have := body_length r hm; omega
    have HM := Sec.mk hm
    have h64 : r.txns.length ≤ 64 := hm.2.2.2.2.2.2.2.2.2.1.1
    have h16 : r.dirty.length ≤ 16 := hm.2.2.2.2.2.2.2.2.2.2.1
    clear hm
    go_enter Try.func41, Try.ntmps41
    simp only [rcs]
    go_upto_region 3 with fail
    generalize w.alloc _ = W at *
    have hc := Frame_any ok r _ _ W HB.out.2.2 HM.out hwf
    have hWs := HB.out.2.1.size
    simp only [rcs] at hc
    have HC := Sec.mk hc
    clear hc
    obtain ⟨q0, q1, q2, q3, q4, q5, q6, q7, q8, q9, q10, q11⟩ := box12 (r := r) (vt := .slice A1 r.txns.length c1) (vd := .slice A2 r.dirty.length c2) HB.out.1
    go_upto_region 4 with (go_at_call 67; refine HC.out.mono ?_; rintro e w1 ⟨v1, rfl, hr1, hb1⟩; have HR1 := Sec.mk hr1; have HB1 := Sec.mk hb1; obtain ⟨A3, c3, rfl⟩ := row_shape hr1; clear hr1 hb1)
    clear q0 q1 q2 q3 q4 q5 q6 q7 q8 q9 q10 q11 HC
    have hB1 := HB.out.2.1.trans (HB1.out.mono hWs)
    have hbx1 := bk_below HB.out.1 HB1.out (bk_lt HB.out.1)
    have HBX := Sec.mk hbx1
    have HBB := Sec.mk hB1
    have HL1 := Sec.mk (HH.out.below hB1)
    have HLA : Sec (∀ n, Calls Try.prog 32 #[.pointer (some ⟨lg, 0, none⟩)] (w1.drewN n) fun e w' => e = .returned (.int .u64 (lastOf G.l)) ∧ w' = w1.drewN n) := ⟨fun n => (Last_any (HL1.out.below (below_drewN (Below.refl _ _) n))).mono (fun e w' h => ⟨h.1, h.2.symm⟩)⟩
    have q1 : w1.cell? ⟨w.heap.size, 1, none⟩ = some (.int .u64 r.lsn) := bk_cell hbx1 1
    clear hB1 hbx1
    by_cases hls : r.lsn ≤ lastOf G.l
    · have hjj : J = (G, 1) := by rw [← HJ.out]; unfold joinP; rw [if_neg (fun h => h.2 hls)]
      subst hjj
      clear HJ
      generalize lastOf G.l = last at *
      generalize (frame r).length = fl at *
      go_quiet (first | (go_at_call 32; refine Calls.quiet_of_same (HLA.out _)))
      go_wp2
      go_ret
      exact ⟨rfl, HL1.out.mem.below (below_drewN (Below.refl _ _) _), (Kept.of HBB.out).below (below_drewN (Below.refl _ _) _)⟩
    · by_cases hroom : room < ((frame r).length : Int)
      · have hjj : J = (G, 7) := by rw [← HJ.out]; unfold joinP; rw [if_pos ⟨HM.out, hls⟩, if_pos hroom]
        subst hjj
        clear HJ
        generalize lastOf G.l = last at *
        generalize (frame r).length = fl at *
        go_quiet (first | (go_at_call 32; refine Calls.quiet_of_same (HLA.out _)))
        go_wp2
        go_ret
        exact ⟨rfl, HL1.out.mem.below (below_drewN (Below.refl _ _) _), (Kept.of HBB.out).below (below_drewN (Below.refl _ _) _)⟩
      · have hjj : J = ({ G with l := G.l ++ [(r, frame r)], size := G.size + (frame r).length }, 0) := by rw [← HJ.out]; unfold joinP; rw [if_pos ⟨HM.out, hls⟩, if_neg hroom]
        subst hjj
        clear HJ
        generalize lastOf G.l = last at *
        go_quiet (first | (go_at_call 32; refine Calls.quiet_of_same (HLA.out _)))
        go_upto_region 8 with fail
        have hlg2 := HL1.out.below (below_drewN (Below.refl _ w1) nq)
        have hbx2 : (w1.drewN nq).heap[w.heap.size]? = some (.cells (rcs r (.slice A1 r.txns.length c1) (.slice A2 r.dirty.length c2)).toArray 41) := HBX.out
        have hw2 : Below w.heap.size w (w1.drewN nq) := below_drewN HBB.out nq
        have hr2 : (w1.drewN nq).ownsRow W.heap.size 5 1 (.slice A3 (frame r).length c3) (frame r).length (bv (frame r)) := row_below HR1.out (below_drewN (Below.refl _ w1) nq)
        have hrs2 := HB.out.2.2.below (HB1.out.trans (below_drewN (Below.refl _ w1) nq |>.mono HB1.out.size))
        generalize w1.drewN nq = W2 at *
        obtain ⟨A, c, es, k1, k2, k3, k4⟩ := hlg2.cell
        have HLG2 := Sec.mk (And.intro k1 (And.intro k2 (And.intro k3 (And.intro k4 hlg2))))
        have HW2 := Sec.mk (And.intro hw2 hr2)
        have HCO := Sec.mk (copied_any ok r _ _ W2.drew (hrs2.below (Below.refl _ _).drew) hn1 hn2)
        have q2 : W2.cell? ⟨lg, 2, none⟩ = some (.slice A G.l.length c) := bk_cell k1 2
        have hnl : G.l.length ≤ 100000 := by omega
        have hws2 := hw2.size
        have hBw : B ≤ W2.heap.size := by have := H0.out; omega
        obtain ⟨q0, q1', q22, q3, q4, q5, q6, q7, q8, q9, q10, q11⟩ := box12 hbx2
        clear k1 k2 k3 k4 hw2 hr2 hrs2 hlg2 hbx2 q1
        simp only [rcs] at HCO
        go_region_law (first
          | (go_simp; go_at_call 64; refine HCO.out.mono ?_; rintro e w5 ⟨vt5, vd5, rfl, hr5, hb5⟩; obtain ⟨⟨A5, c5, rfl⟩, A6, c6, rfl⟩ := hr5.shape
             have HR5 := Sec.mk hr5; have HB5 : Sec (Below W2.heap.size W2 w5) := ⟨(Below.refl _ _).drew.trans hb5⟩
             have q2a : w5.cell? ⟨lg, 2, none⟩ = some (.slice A G.l.length c) := (hb5.cell (bk_lt HLG2.out.1)).trans q2
             have q2b : ∀ ob, (w5.alloc ob).cell? ⟨lg, 2, none⟩ = some (.slice A G.l.length c) := fun ob => (World.cell?_alloc_past _ _ _ (World.block_lt_of_cell? w5 _ q2a)).trans q2a
             have hws5 : W2.heap.size ≤ w5.heap.size := hb5.size
             clear hr5 hb5
             simp only [rcs])
          | (refine step_app B (by rfl) (.tmp 33) (.tmp 38) 87 95 (.agg (cell12 ++ [Value.slice none 0 0]).toArray) 13 176 (by rfl) Try.underlying87 info95 rfl (by decide) (by decide) (.slice A G.l.length c) (by rfl) (.slice (some ⟨w5.heap.size, 0, none⟩) 1 1) (by rfl) G.l.length (es.flatMap En.cs)
               ((row_below (HLG2.out.2.2.2.1 ▸ HLG2.out.2.1.row) HB5.out).alloc _) (fun b => b = w5.heap.size) 1
               (ecs r (.slice A5 r.txns.length c5) (.slice A6 r.dirty.length c6) (.slice A3 (frame r).length c3)) (sl_box w5.heap.size 13 1 (bk_new w5 _) rfl (by omega)) (ecs_one' r _ _ _ _ _ _ _ _ _) (by simp; omega) (by omega) ?_
             intro A8 c8 w8 g1 g2 g3
             have hlg5 := bk_alloc (bk_below HLG2.out.1 HB5.out (bk_lt HLG2.out.1)) (.cells (ecs r (.slice A5 r.txns.length c5) (.slice A6 r.dirty.length c6) (.slice A3 (frame r).length c3)).toArray 95)
             have hrow5 : (w5.alloc (.cells (ecs r (.slice A5 r.txns.length c5) (.slice A6 r.dirty.length c6) (.slice A3 (frame r).length c3)).toArray 95)).ownsRow B 95 13 (.slice A G.l.length c) G.l.length (es.flatMap En.cs) := (row_below (HLG2.out.2.2.2.1 ▸ HLG2.out.2.1.row) HB5.out).alloc _
             have k8 := bk_grown hlg5 g2 (row_ne hrow5 hlg5 (by decide))
             have q8a : w8.cell? ⟨lg, 2, none⟩ = some (.slice A G.l.length c) := bk_cell k8 2
             have q8b : w8.frozen? ⟨lg, 2, none⟩ = false := bk_frozen k8 2
             have H8 := Sec.mk (And.intro g1 g2)
             clear g1 g2 g3 hlg5 hrow5 k8))
        all_goals
          have h0B := H0.out
          have hwS : IntKind.i64.wrap ((G.size : Int) + ((frame r).length : Int)) = (G.size : Int) + ((frame r).length : Int) := IntWalk.i64_in _ (by omega)
          have hwd : Below W2.heap.size W2 w5 := HB5.out
          have hal : Below w5.heap.size w5 (w5.alloc (.cells (ecs r (.slice A5 r.txns.length c5) (.slice A6 r.dirty.length c6) (.slice A3 (frame r).length c3)).toArray 95)) := (Below.refl _ _).alloc (Nat.le_refl _) _
          have hl6 := (HLG2.out.2.2.2.2.below hwd).below hal
          have hE6 := (HLG2.out.2.1.below hwd).below hal
          have hg6 := bk_alloc (bk_below HLG2.out.1 HB5.out (bk_lt HLG2.out.1)) (.cells (ecs r (.slice A5 r.txns.length c5) (.slice A6 r.dirty.length c6) (.slice A3 (frame r).length c3)).toArray 95)
          have hfr6 := row_below (row_below HW2.out.2 hwd) hal
          have hdbW : db < W.heap.size := by
            obtain ⟨_, _, _, a3, _⟩ := HH.out.dev.ex
            have := bk_lt a3; omega
          have hmem := LogMem.push hl6.dev hg6 hE6 HLG2.out.2.2.1 HLG2.out.2.2.2.1 ((HR5.out.lower (by show B ≤ W2.heap.size; omega)).under hal) (row_lower hfr6 (by omega)) (by omega)
            (fun k hk => by have := (hfr6.lt k hk).1; omega) h64 h16 H8.out.2 H8.out.1 hl6.b1 hl6.b2 hl6.b3
          have hkk : Kept (Plg lg B) w (w8.setCell ⟨lg, 2, none⟩ (.slice A8 (G.l.length + 1) c8)) := ((Kept.of HW2.out.1).below (hwd.trans (hal.mono hws5))).trans hmem.2
          obtain ⟨A9, c9, es9, m1, _⟩ := hmem.1.cell
          have HM9 := Sec.mk (And.intro hmem.1 hkk)
          have q93 := bk_cell m1 3
          have z93 := bk_frozen m1 3
          simp only [PLog.cs] at q93
          clear hwd hal hl6 hE6 hg6 hfr6 hmem hkk m1 q2 q2a q2b q8a q8b q0 q1' q22 q3 q4 q5 q6 q7 q8 q9 q10 q11
          go_wp2
          go_ret
          have hfin := HM9.out.1.set { G with l := G.l ++ [(r, frame r)], size := G.size + (frame r).length } 3 (.int .i64 ((G.size : Int) + ((frame r).length : Int))) rfl (fun v => by simp [PLog.cs])
          exact ⟨rfl, hfin.1, HM9.out.2.trans hfin.2⟩
  · have hjj : J = (G, 1) := by rw [← HJ.out]; unfold joinP; rw [if_neg (fun h => hm h.1)]
    subst hjj
    have HM := Sec.mk hm
    clear HJ hm
    go_enter Try.func41, Try.ntmps41
    simp only [rcs]
    go_upto_region 3 with fail
    generalize w.alloc _ = W at *
    have hc := Frame_no ok r _ _ W HB.out.2.2 hn1 hn2 HM.out
    have HC := Sec.mk hc
    obtain ⟨q0, q1, q2, q3, q4, q5, q6, q7, q8, q9, q10, q11⟩ := box12 (r := r) (vt := .slice A1 r.txns.length c1) (vd := .slice A2 r.dirty.length c2) HB.out.1
    clear hc
    simp only [rcs] at HC
    go_wp2_with (go_at_call 67; refine HC.out.mono ?_; rintro e w1 ⟨rfl, hb1⟩; have HB1 := Sec.mk hb1; clear hb1)
    go_quiet (fail)
    go_wp2
    go_ret
    have hB1 := HB.out.2.1.trans (HB1.out.mono HB.out.2.1.size)
    exact ⟨rfl, HH.out.mem.below (below_drewN hB1 _), Kept.of (below_drewN hB1 _)⟩
end
end Go.Proofs.Ytgnlhjphmaikkaa
