/- Package wal, walked: Append, Spend. Conditions: as each statement says. -/
import Derived.Test.YtgnlhjphmaikkaaZB
set_option linter.unusedVariables false
set_option linter.unusedSimpArgs false
namespace Go.Proofs.Ytgnlhjphmaikkaa
open Go.RowKit

theorem each_snoc {l : List (PRec × List UInt8)} {x : PRec × List UInt8} (h : ∀ x ∈ l, 6 ≤ x.2.length) (hx : 6 ≤ x.2.length) : ∀ y ∈ l ++ [x], 6 ≤ y.2.length := fun y hy => by
  rcases List.mem_append.1 hy with hy | hy
  · exact h y hy
  · rw [List.mem_singleton] at hy; subst hy; exact hx
theorem joinP_ok {G : PLog} {n : Nat} (h : G.ok n) (r : PRec) (room : Int) (hr : room ≤ (G.room n : Int)) : (joinP G r room).1.ok n := by
  unfold joinP
  split
  · split
    · exact h
    · rename_i h1 h2
      have hf := frame_length r
      have := h.fits
      have := h.size
      have := h.stable
      have := h.flies
      unfold PLog.room at hr
      refine ⟨h.hand, ?_, ?_, ?_, ?_, ?_, h.marked⟩
      · simp only; rw [sizeOfL_snoc]; simp only; omega
      · simp only; omega
      · simp only [List.length_append, List.length_singleton]; omega
      · simp only [List.length_append, List.length_singleton]; omega
      · exact each_snoc h.each (by simp only; omega)
  · exact h
/-- Out of what is kept. -/
noncomputable def spendP (G : PLog) (r : PRec) : PLog × Int :=
  if (joinP G r (G.kept : Nat)).2 = 0 then ({ (joinP G r (G.kept : Nat)).1 with kept := G.kept - (frame r).length }, 0) else joinP G r (G.kept : Nat)
theorem joinP_cases (G : PLog) (r : PRec) (room : Int) : (joinP G r room = (G, 1)) ∨ (joinP G r room = (G, 7)) ∨ (joinP G r room = ({ G with l := G.l ++ [(r, frame r)], size := G.size + (frame r).length }, 0) ∧ r.may ∧ ¬ r.lsn ≤ lastOf G.l ∧ ((frame r).length : Int) ≤ room) := by
  unfold joinP
  split
  · split
    · exact .inr (.inl rfl)
    · rename_i h1 h2; exact .inr (.inr ⟨rfl, h1.1, h1.2, by omega⟩)
  · exact .inl rfl
theorem spendP_ok {G : PLog} {n : Nat} (h : G.ok n) (r : PRec) : (spendP G r).1.ok n := by
  unfold spendP
  rcases joinP_cases G r (G.kept : Nat) with e | e | ⟨e, h1, h2, h3⟩
  · rw [e]; simpa using h
  · rw [e]; simpa using h
  · rw [e]
    have hf := frame_length r
    have := h.fits
    have := h.size
    have := h.stable
    have := h.flies
    rw [if_pos rfl]
    refine ⟨h.hand, ?_, ?_, ?_, ?_, ?_, h.marked⟩
    · simp only; rw [sizeOfL_snoc]; simp only; omega
    · simp only; omega
    · simp only [List.length_append, List.length_singleton]; omega
    · simp only [List.length_append, List.length_singleton]; omega
    · exact each_snoc h.each (by simp only; omega)
section
variable {w : World} {B lg dg db : Nat} {G : PLog} {D : PDev}
set_option maxRecDepth 100000 in
set_option maxHeartbeats 1600000 in
theorem Append_any (H : LogAt w B lg dg db G D) (ok : Nat → Prop) (r : PRec) (vt vd : Value) (HR : RecSl w ok r vt vd) (hwf : r.wf) (hn1 : r.txns.length ≤ 1000000) (hn2 : r.dirty.length ≤ 1000000) :
    Calls Try.prog 12 #[.pointer (some ⟨lg, 0, none⟩), .agg (rcs r vt vd).toArray] w fun e w' => e = .returned (.int .i64 (joinP G r (G.room D.b.length : Nat)).2) ∧ LogAt w' B lg dg db (joinP G r (G.room D.b.length : Nat)).1 D ∧ Kept (Plg lg B) w w' := by
  have HOK := Sec.mk (joinP_ok H.ok r _ (Int.le_refl _))
  obtain ⟨A1, c1, rfl⟩ : ∃ A c, vt = .slice A r.txns.length c := by obtain ⟨_, _, A, c, e, _⟩ := HR.t; exact ⟨A, c, e⟩
  obtain ⟨A2, c2, rfl⟩ : ∃ A c, vd = .slice A r.dirty.length c := by obtain ⟨_, _, A, c, e, _⟩ := HR.d; exact ⟨A, c, e⟩
  have hbx := bk_new w (.cells (rcs r (.slice A1 r.txns.length c1) (.slice A2 r.dirty.length c2)).toArray 41)
  have hbb : Below w.heap.size w (w.alloc (.cells (rcs r (.slice A1 r.txns.length c1) (.slice A2 r.dirty.length c2)).toArray 41)) := (Below.refl _ _).alloc (Nat.le_refl _) _
  have HB := Sec.mk (And.intro hbx (And.intro hbb (And.intro (HR.below hbb) (H.below hbb))))
  clear hbx hbb HR H
  simp only [rcs] at HB
  have HJ : Sec (∀ W : World, LogAt W B lg dg db G D → RecSl W ok r (.slice A1 r.txns.length c1) (.slice A2 r.dirty.length c2) → _) := ⟨fun W h1 h2 => join_any h1 ok r _ _ (G.room D.b.length : Nat) h2 hwf hn1 hn2⟩
  simp only [rcs] at HJ
  generalize joinP G r (G.room D.b.length : Nat) = J at *
  go_enter Try.func12, Try.ntmps12
  simp only [rcs]
  go_wp2_with fail
  generalize w.alloc _ = W at *
  obtain ⟨q0, q1, q2, q3, q4, q5, q6, q7, q8, q9, q10, q11⟩ := box12 (r := r) (vt := .slice A1 r.txns.length c1) (vd := .slice A2 r.dirty.length c2) HB.out.1
  have HLD := Sec.mk (HB.out.2.2.2.below (Below.refl _ _).drew)
  go_region_law (first
    | (go_simp; go_at_call 30; refine (Room_any HLD.out).mono ?_; rintro e w1 ⟨rfl, m, hw1⟩
       have hb1 : Below W.heap.size W w1 := by rw [hw1]; exact below_drewN (Below.refl _ _).drew _
       have hbx1 : w1.heap[w.heap.size]? = some (.cells (rcs r (.slice A1 r.txns.length c1) (.slice A2 r.dirty.length c2)).toArray 41) := bk_below HB.out.1 hb1 (bk_lt HB.out.1)
       obtain ⟨p0, p1, p2, p3, p4, p5, p6, p7, p8, p9, p10, p11⟩ := box12 hbx1
       have HB1 := Sec.mk hb1
       clear hbx1 hw1 hb1)
    | (go_simp; go_at_call 41; refine (HJ.out w1 (HB.out.2.2.2.below HB1.out) (HB.out.2.2.1.below HB1.out)).mono ?_; rintro e w2 ⟨rfl, g1, g2⟩; have G1 := Sec.mk g1; have G2 := Sec.mk g2; clear g1 g2))
  all_goals
    go_wp2
    go_ret
    exact ⟨rfl, G1.out.at HOK.out, ((Kept.of HB.out.2.1).below HB1.out).trans G2.out⟩
set_option maxRecDepth 100000 in
set_option maxHeartbeats 1600000 in
theorem Spend_any (H : LogAt w B lg dg db G D) (ok : Nat → Prop) (r : PRec) (vt vd : Value) (HR : RecSl w ok r vt vd) (hwf : r.wf) (hn1 : r.txns.length ≤ 1000000) (hn2 : r.dirty.length ≤ 1000000) :
    Calls Try.prog 33 #[.pointer (some ⟨lg, 0, none⟩), .agg (rcs r vt vd).toArray] w fun e w' => e = .returned (.int .i64 (spendP G r).2) ∧ LogAt w' B lg dg db (spendP G r).1 D ∧ Kept (Plg lg B) w w' := by
  have HOK := Sec.mk (spendP_ok H.ok r)
  have h6 := H.ok.six
  have hf := H.ok.fits
  have hl := H.dev.ok.2.1
  obtain ⟨A1, c1, rfl⟩ : ∃ A c, vt = .slice A r.txns.length c := by obtain ⟨_, _, A, c, e, _⟩ := HR.t; exact ⟨A, c, e⟩
  obtain ⟨A2, c2, rfl⟩ : ∃ A c, vd = .slice A r.dirty.length c := by obtain ⟨_, _, A, c, e, _⟩ := HR.d; exact ⟨A, c, e⟩
  have hbx := bk_new w (.cells (rcs r (.slice A1 r.txns.length c1) (.slice A2 r.dirty.length c2)).toArray 41)
  have hbb : Below w.heap.size w (w.alloc (.cells (rcs r (.slice A1 r.txns.length c1) (.slice A2 r.dirty.length c2)).toArray 41)) := (Below.refl _ _).alloc (Nat.le_refl _) _
  have HB := Sec.mk (And.intro hbx (And.intro hbb (And.intro (HR.below hbb) (H.below hbb))))
  have HOG := Sec.mk H.ok
  clear hbx hbb HR H
  simp only [rcs] at HB
  have HJ : Sec (∀ W : World, LogAt W B lg dg db G D → RecSl W ok r (.slice A1 r.txns.length c1) (.slice A2 r.dirty.length c2) → _) := ⟨fun W h1 h2 => join_any h1 ok r _ _ (G.kept : Nat) h2 hwf hn1 hn2⟩
  simp only [rcs] at HJ
  have HC := Sec.mk (joinP_cases G r (G.kept : Nat))
  obtain ⟨S, HS⟩ : ∃ S, Sec (spendP G r = S) := ⟨_, ⟨rfl⟩⟩
  rw [HS.out] at HOK ⊢
  unfold spendP at HS
  generalize joinP G r (G.kept : Nat) = J at *
  go_enter Try.func33, Try.ntmps33
  simp only [rcs]
  go_wp2_with fail
  generalize w.alloc _ = W at *
  obtain ⟨q0, q1, q2, q3, q4, q5, q6, q7, q8, q9, q10, q11⟩ := box12 (r := r) (vt := .slice A1 r.txns.length c1) (vd := .slice A2 r.dirty.length c2) HB.out.1
  have HLD := Sec.mk (HB.out.2.2.2.below (Below.refl _ _).drew)
  have HK : Sec (∀ W : World, LogAt W B lg dg db G D → Calls Try.prog 31 #[.pointer (some ⟨lg, 0, none⟩)] W fun e w' => e = .returned (.int .i64 (G.kept : Nat)) ∧ W = w') := ⟨fun W h => LKept_any h⟩
  go_region_law (first
    | (go_simp; go_at_call 31; refine (HK.out _ HLD.out).mono ?_; rintro e w1 ⟨rfl, hw1⟩
       have hb1 : Below W.heap.size W w1 := by rw [← hw1]; exact (Below.refl _ _).drew
       have hbx1 : w1.heap[w.heap.size]? = some (.cells (rcs r (.slice A1 r.txns.length c1) (.slice A2 r.dirty.length c2)).toArray 41) := bk_below HB.out.1 hb1 (bk_lt HB.out.1)
       obtain ⟨p0, p1, p2, p3, p4, p5, p6, p7, p8, p9, p10, p11⟩ := box12 hbx1
       have HB1 := Sec.mk hb1
       clear hbx1 hw1 hb1)
    | (go_simp; go_at_call 41; refine (HJ.out w1 (HB.out.2.2.2.below HB1.out) (HB.out.2.2.1.below HB1.out)).mono ?_; rintro e w2 ⟨rfl, g1, g2⟩; have G1 := Sec.mk g1; have G2 := Sec.mk (((Kept.of HB.out.2.1).below HB1.out).trans g2); clear g1 g2))
  all_goals
    clear q0 q1 q2 q3 q4 q5 q6 q7 q8 q9 q10 q11 p0 p1 p2 p3 p4 p5 p6 p7 p8 p9 p10 p11
    rcases HC.out with e | e | ⟨e, x1, x2, x3⟩
    · subst e
      have hS : S = (G, 1) := by rw [← HS.out]; simp
      subst hS
      clear HS
      go_wp2
      go_ret
      exact ⟨rfl, G1.out.at HOK.out, G2.out⟩
    · subst e
      have hS : S = (G, 7) := by rw [← HS.out]; simp
      subst hS
      clear HS
      go_wp2
      go_ret
      exact ⟨rfl, G1.out.at HOK.out, G2.out⟩
    · subst e
      have hS : S = ({ G with l := G.l ++ [(r, frame r)], size := G.size + (frame r).length, kept := G.kept - (frame r).length }, 0) := by rw [← HS.out]; simp
      subst hS
      clear HS
      obtain ⟨A, c, es, k1, k2, k3, k4⟩ := G1.out.cell
      have hel : es.length = G.l.length + 1 := by rw [k4]; simp
      have hlast : ∃ e, es[G.l.length]? = some e ∧ e.b = frame r := by
        have h1 : es[G.l.length]? = some (es[G.l.length]'(by omega)) := List.getElem?_eq_getElem (by omega)
        refine ⟨_, h1, ?_⟩
        have h2 := congrArg (fun l => l[G.l.length]?) k3
        simp only [List.getElem?_map, h1, Option.map_some] at h2
        simp [En.pair] at h2
        exact h2.2
      obtain ⟨e0, he0, heb⟩ := hlast
      obtain ⟨he1, he2⟩ := List.getElem?_eq_some_iff.1 he0
      have hk12 := (k2.all e0 (by rw [← he2]; exact List.getElem_mem _)).b
      obtain ⟨A3, c3, hvb⟩ : ∃ A c, e0.vb = .slice A e0.b.length c := by obtain ⟨_, _, A, c, e, _⟩ := hk12; exact ⟨A, c, e⟩
      rw [heb] at hvb
      have hrw := k2.row
      rw [hel] at hrw
      rw [show (G.l ++ [(r, frame r)]).length = G.l.length + 1 by simp] at hrw k1
      obtain ⟨b, o, rfl, hc⟩ : ∃ b o, A = some ⟨b, o, none⟩ ∧ ∀ m u, (es.flatMap En.cs)[m]? = some u → w2.cell? ⟨b, o + m, none⟩ = some u := by
        obtain ⟨_, _, A', c', e, _, _, h5⟩ := Sl.of_row hrw (by omega)
        injection e with e1 e2 e3
        subst e1 e3
        obtain ⟨b, o, e, _, h7⟩ := h5 (by omega)
        exact ⟨b, o, e, h7⟩
      have hcell := hc (G.l.length * 13 + 12) (.slice A3 (frame r).length c3) ((flat_get En.cs 13 (fun _ => rfl) es G.l.length 12 (by omega) (by omega)).trans (by rw [he2, ← hvb]; rfl))
      rw [← Nat.add_assoc] at hcell
      have c8 : w2.cell? ⟨lg, 8, none⟩ = some (.int .i64 (G.kept : Nat)) := bk_cell k1 8
      have c2' : w2.cell? ⟨lg, 2, none⟩ = some (.slice (some ⟨b, o, none⟩) (G.l.length + 1) c) := bk_cell k1 2
      have z8 : w2.frozen? ⟨lg, 8, none⟩ = false := bk_frozen k1 8
      have hfl : (frame r).length ≤ G.kept := by omega
      have hw8 : IntKind.i64.wrap ((G.kept : Int) - ((frame r).length : Int)) = (G.kept : Int) - ((frame r).length : Int) := IntWalk.i64_in _ (by omega)
      have hw9 : IntKind.i64.wrap (G.l.length : Int) = (G.l.length : Int) := IntWalk.i64_in _ (by omega)
      have hix : (G.l.length : Int) < (G.l.length : Int) + 1 := by omega
      clear k1 k2 k3 k4 hc hel he0 he2 heb hk12 hvb hrw he1
      go_wp2_with fail
      go_still_tail 21, (by kernel_rfl)
      change wpList _ _ _ _ _ w2.drew
      go_wp2
      go_ret
      have hfin := (G1.out.below (Below.refl _ w2).drew).set { G with l := G.l ++ [(r, frame r)], size := G.size + (frame r).length, kept := G.kept - (frame r).length } 8 (.int .i64 ((G.kept : Int) - ((frame r).length : Int))) rfl (fun v => by simp [PLog.cs]; omega)
      exact ⟨rfl, hfin.1.at HOK.out, (G2.out.below (Below.refl _ w2).drew).trans hfin.2⟩
end
end Go.Proofs.Ytgnlhjphmaikkaa
