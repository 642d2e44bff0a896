/- Same, SameRecords, walked where both are the same. Conditions: the records read. -/
import Derived.Test.YtgnlhjphmaikkaaZE
set_option linter.unusedVariables false
set_option linter.unusedSimpArgs false
namespace Go.Proofs.Ytgnlhjphmaikkaa
open Go.RowKit

set_option maxRecDepth 100000 in
set_option maxHeartbeats 3200000 in
theorem Same_eq (ok1 ok2 : Nat → Prop) (r : PRec) (vt1 vd1 vt2 vd2 : Value) (w : World) (H1 : RecSl w ok1 r vt1 vd1) (H2 : RecSl w ok2 r vt2 vd2) (hn1 : r.txns.length ≤ 1000000) (hn2 : r.dirty.length ≤ 1000000) :
    Calls Try.prog 49 #[.agg (rcs r vt1 vd1).toArray, .agg (rcs r vt2 vd2).toArray] w fun e w' => e = .returned (.bool true) ∧ Below w.heap.size w w' := by
  obtain ⟨A1, c1, rfl⟩ : ∃ A c, vt1 = .slice A r.txns.length c := by obtain ⟨_, _, A, c, e, _⟩ := H1.t; exact ⟨A, c, e⟩
  obtain ⟨A2, c2, rfl⟩ : ∃ A c, vd1 = .slice A r.dirty.length c := by obtain ⟨_, _, A, c, e, _⟩ := H1.d; exact ⟨A, c, e⟩
  obtain ⟨A3, c3, rfl⟩ : ∃ A c, vt2 = .slice A r.txns.length c := by obtain ⟨_, _, A, c, e, _⟩ := H2.t; exact ⟨A, c, e⟩
  obtain ⟨A4, c4, rfl⟩ : ∃ A c, vd2 = .slice A r.dirty.length c := by obtain ⟨_, _, A, c, e, _⟩ := H2.d; exact ⟨A, c, e⟩
  have hb0 : Below w.heap.size w ((w.alloc (.cells (rcs r (.slice A1 r.txns.length c1) (.slice A2 r.dirty.length c2)).toArray 41)).alloc (.cells (rcs r (.slice A3 r.txns.length c3) (.slice A4 r.dirty.length c4)).toArray 41)) := ((Below.refl _ _).alloc (Nat.le_refl _) _).alloc (by simp) _
  have h0 := bk_alloc (bk_new w (.cells (rcs r (.slice A1 r.txns.length c1) (.slice A2 r.dirty.length c2)).toArray 41)) (.cells (rcs r (.slice A3 r.txns.length c3) (.slice A4 r.dirty.length c4)).toArray 41)
  have h1 := bk_new (w.alloc (.cells (rcs r (.slice A1 r.txns.length c1) (.slice A2 r.dirty.length c2)).toArray 41)) (.cells (rcs r (.slice A3 r.txns.length c3) (.slice A4 r.dirty.length c4)).toArray 41)
  rw [World.size_alloc] at h1
  have HH := Sec.mk (And.intro hb0 (And.intro h0 (And.intro h1 (And.intro (H1.below hb0) (H2.below hb0)))))
  clear hb0 h0 h1 H1 H2
  simp only [rcs] at HH
  go_enter Try.func49, Try.ntmps49
  simp only [rcs]
  go_upto_region 1 with fail
  generalize (w.alloc _).alloc _ = W at *
  obtain ⟨q0, q1, q2, q3, q4, q5, q6, q7, q8, q9, q10, q11⟩ := box12 (r := r) (vt := .slice A1 r.txns.length c1) (vd := .slice A2 r.dirty.length c2) HH.out.2.1
  obtain ⟨p0, p1, p2, p3, p4, p5, p6, p7, p8, p9, p10, p11⟩ := box12 (r := r) (vt := .slice A3 r.txns.length c3) (vd := .slice A4 r.dirty.length c4) HH.out.2.2.1
  go_upto_region 3 with fail
  go_upto_region 5 with fail
  clear q0 q1 q2 q3 q4 q5 q6 q7 q8 q9 q10 q11 p0 p1 p2 p3 p4 p5 p6 p7 p8 p9 p10 p11
  go_wp2_with fail
  go_loopw [5] (fun i wr => ∃ k : Nat, k ≤ r.txns.length ∧ i = .int .i64 k ∧ Below W.heap.size W wr) (fun i _ => r.txns.length - (intOf i).toNat)
  case atStart => exact ⟨0, by omega, rfl, Below.refl _ _⟩
  case round =>
    obtain ⟨k, hk, rfl, hB⟩ := hrel
    have HB := Sec.mk hB
    obtain ⟨q0, q1, q2, q3, q4, q5, q6, q7, q8, q9, q10, q11⟩ := box12 (r := r) (vt := .slice A1 r.txns.length c1) (vd := .slice A2 r.dirty.length c2) (bk_below HH.out.2.1 hB (bk_lt HH.out.2.1))
    obtain ⟨p0, p1, p2, p3, p4, p5, p6, p7, p8, p9, p10, p11⟩ := box12 (r := r) (vt := .slice A3 r.txns.length c3) (vd := .slice A4 r.dirty.length c4) (bk_below HH.out.2.2.1 hB (bk_lt HH.out.2.2.1))
    clear hB q0 q1 q2 q3 q4 q5 q6 q7 q8 q9 p0 p1 p2 p3 p4 p5 p6 p7 p8 p9
    by_cases hlt : k < r.txns.length
    · have hrow : ∀ (ok : Nat → Prop) (A : Option Addr) (c : Nat), Sl W ok 3 (.slice A r.txns.length c) r.txns.length (txCells r.txns) → ∃ b o, A = some ⟨b, o, none⟩ ∧ wr.cell? ⟨b, o + k * 3, none⟩ = some (.int .i64 r.txns[k].id) ∧ wr.cell? ⟨b, o + k * 3 + 1, none⟩ = some (.int .i64 r.txns[k].st) ∧ wr.cell? ⟨b, o + k * 3 + 2, none⟩ = some (.int .u64 r.txns[k].last) := fun ok A c H => by
        obtain ⟨_, _, A', c', e, _, _, h5⟩ := H.below HB.out
        injection e with e1 e2 e3
        subst e1 e3
        obtain ⟨b, o, e, _, h7⟩ := h5 (by omega)
        have hf := fun j (hj : j < 3) => flat_get (fun t : PTxn => [Value.int .i64 t.id, .int .i64 t.st, .int .u64 t.last]) 3 (fun _ => rfl) r.txns k j hlt hj
        refine ⟨b, o, e, h7 (k * 3) _ ((hf 0 (by omega)).trans rfl), ?_, ?_⟩
        · rw [Nat.add_assoc]; exact h7 _ _ ((hf 1 (by omega)).trans rfl)
        · rw [Nat.add_assoc]; exact h7 _ _ ((hf 2 (by omega)).trans rfl)
      obtain ⟨b, o, rfl, x0, x1, x2⟩ := hrow _ _ _ HH.out.2.2.2.1.t
      obtain ⟨b', o', rfl, y0, y1, y2⟩ := hrow _ _ _ HH.out.2.2.2.2.t
      clear hrow
      generalize r.txns[k] = t at *
      go_wp2_with fail
      go_quiet (fail)
      go_wp2
      go_roundw
      case rel => exact ⟨k + 1, by omega, by go_num, below_drewN HB.out _⟩
      case measure => simp [intOf]; omega
    · obtain rfl : k = r.txns.length := by omega
      clear hlt
      go_wp2_with fail
      go_loopw [6] (fun i wx => ∃ k : Nat, k ≤ r.dirty.length ∧ i = .int .i64 k ∧ Below W.heap.size W wx) (fun i _ => r.dirty.length - (intOf i).toNat)
      case atStart => exact ⟨0, by omega, rfl, HB.out⟩
      case round =>
        obtain ⟨k, hk, rfl, hB⟩ := hrel
        have HB := Sec.mk hB
        obtain ⟨q0, q1, q2, q3, q4, q5, q6, q7, q8, q9, q10, q11⟩ := box12 (r := r) (vt := .slice A1 r.txns.length c1) (vd := .slice A2 r.dirty.length c2) (bk_below HH.out.2.1 hB (bk_lt HH.out.2.1))
        obtain ⟨p0, p1, p2, p3, p4, p5, p6, p7, p8, p9, p10, p11⟩ := box12 (r := r) (vt := .slice A3 r.txns.length c3) (vd := .slice A4 r.dirty.length c4) (bk_below HH.out.2.2.1 hB (bk_lt HH.out.2.2.1))
        clear hB q0 q1 q2 q3 q4 q5 q6 q7 q8 q9 p0 p1 p2 p3 p4 p5 p6 p7 p8 p9
        by_cases hlt : k < r.dirty.length
        · have hrow : ∀ (ok : Nat → Prop) (A : Option Addr) (c : Nat), Sl W ok 2 (.slice A r.dirty.length c) r.dirty.length (dyCells r.dirty) → ∃ b o, A = some ⟨b, o, none⟩ ∧ wr.cell? ⟨b, o + k * 2, none⟩ = some (.int .i64 r.dirty[k].page) ∧ wr.cell? ⟨b, o + k * 2 + 1, none⟩ = some (.int .u64 r.dirty[k].rc) := fun ok A c H => by
            obtain ⟨_, _, A', c', e, _, _, h5⟩ := H.below HB.out
            injection e with e1 e2 e3
            subst e1 e3
            obtain ⟨b, o, e, _, h7⟩ := h5 (by omega)
            have hf := fun j (hj : j < 2) => flat_get (fun t : PDirty => [Value.int .i64 t.page, .int .u64 t.rc]) 2 (fun _ => rfl) r.dirty k j hlt hj
            refine ⟨b, o, e, h7 (k * 2) _ ((hf 0 (by omega)).trans rfl), ?_⟩
            rw [Nat.add_assoc]; exact h7 _ _ ((hf 1 (by omega)).trans rfl)
          obtain ⟨b, o, rfl, x0, x1⟩ := hrow _ _ _ HH.out.2.2.2.1.d
          obtain ⟨b', o', rfl, y0, y1⟩ := hrow _ _ _ HH.out.2.2.2.2.d
          clear hrow
          generalize r.dirty[k] = t at *
          go_wp2_with fail
          go_quiet (fail)
          go_wp2
          go_roundw
          case rel => exact ⟨k + 1, by omega, by go_num, below_drewN HB.out _⟩
          case measure => simp [intOf]; omega
        · obtain rfl : k = r.dirty.length := by omega
          clear hlt
          go_wp2
          go_ret
          exact ⟨rfl, HH.out.1.trans (HB.out.mono HH.out.1.size)⟩
/-- v reads as these records, each with slices that read. -/
structure RecsRd (w : World) (v : Value) (l : List PRec) : Prop where
  ex : ∃ es : List Ent, es.map (·.r) = l ∧ Sl w (fun _ => True) 12 v l.length (es.flatMap Ent.cs) ∧ ∀ e ∈ es, RecSl w (fun _ => True) e.r e.vt e.vd ∧ e.r.txns.length ≤ 1000000 ∧ e.r.dirty.length ≤ 1000000
theorem RecsRd.below {w w1 : World} {v : Value} {l : List PRec} (h : RecsRd w v l) (hb : Below w.heap.size w w1) : RecsRd w1 v l := by
  obtain ⟨es, h1, h2, h3⟩ := h.ex
  exact ⟨es, h1, h2.below hb, fun e he => ⟨(h3 e he).1.below hb, (h3 e he).2⟩⟩
theorem RecsAt.rd {w : World} {B : Nat} {v : Value} {l : List PRec} (h : RecsAt w B v l) (hn : l.length ≤ 1000000) (hl : ∀ r ∈ l, r.txns.length ≤ 1000000 ∧ r.dirty.length ≤ 1000000) : RecsRd w v l := by
  obtain ⟨es, h1, h2, h3⟩ := h.ex
  refine ⟨es, h1, (Sl.of_row h2 (by omega)).imp (fun _ _ => trivial), fun e he => ?_⟩
  have hm : e.r ∈ l := by rw [← h1]; exact List.mem_map_of_mem he
  have := hl _ hm
  exact ⟨((h3 e he).recSl this.1 this.2).imp (fun _ _ => trivial), this⟩
theorem RecsRd.shape {w : World} {v : Value} {l : List PRec} (h : RecsRd w v l) : ∃ A c, v = .slice A l.length c := by obtain ⟨es, _, ⟨_, _, A, c, e, _⟩, _⟩ := h.ex; exact ⟨A, c, e⟩
theorem RecsRd.take {w : World} {A : Option Addr} {c : Nat} {l : List PRec} (h : RecsRd w (.slice A l.length c) l) (k : Nat) (hk : k ≤ l.length) : RecsRd w (.slice A k c) (l.take k) := by
  obtain ⟨es, h1, h2, h3⟩ := h.ex
  have hl : es.length = l.length := by rw [← h1, List.length_map]
  refine ⟨es.take k, by rw [← h1, List.map_take], ?_, fun e he => h3 e (List.mem_of_mem_take he)⟩
  have e1 : (l.take k).length = k := by rw [List.length_take]; omega
  have e2 : (es.take k).flatMap Ent.cs = (es.flatMap Ent.cs).take (k * 12) := by
    conv => rhs; rw [← List.take_append_drop k es, List.flatMap_append]
    rw [List.take_left' (by rw [flat_len Ent.cs 12 (fun _ => rfl), List.length_take]; congr 1; omega)]
  rw [e1, e2]
  exact sl_take h2 k hk
theorem range12 {w : World} {b o : Nat} {r : PRec} {vt vd : Value} (h : w.rangeAt b o (rcs r vt vd)) :
    w.cell? ⟨b, o, none⟩ = some (.int .i64 r.kind) ∧ w.cell? ⟨b, o + 1, none⟩ = some (.int .u64 r.lsn) ∧ w.cell? ⟨b, o + 2, none⟩ = some (.int .i64 r.txn) ∧ w.cell? ⟨b, o + 3, none⟩ = some (.int .u64 r.prev) ∧ w.cell? ⟨b, o + 4, none⟩ = some (.int .u64 r.undo) ∧ w.cell? ⟨b, o + 5, none⟩ = some (.int .i64 r.page) ∧ w.cell? ⟨b, o + 6, none⟩ = some (.int .i64 r.act.kind) ∧
    w.cell? ⟨b, o + 7, none⟩ = some (.string ⟨r.act.key.toArray⟩) ∧ w.cell? ⟨b, o + 8, none⟩ = some (.string ⟨r.act.old.toArray⟩) ∧ w.cell? ⟨b, o + 9, none⟩ = some (.string ⟨r.act.new.toArray⟩) ∧ w.cell? ⟨b, o + 10, none⟩ = some vt ∧ w.cell? ⟨b, o + 11, none⟩ = some vd :=
  ⟨h 0 _ rfl, h 1 _ rfl, h 2 _ rfl, h 3 _ rfl, h 4 _ rfl, h 5 _ rfl, h 6 _ rfl, h 7 _ rfl, h 8 _ rfl, h 9 _ rfl, h 10 _ rfl, h 11 _ rfl⟩
theorem RecsRd.elem {w : World} {A : Option Addr} {c : Nat} {l : List PRec} (h : RecsRd w (.slice A l.length c) l) (k : Nat) (hk : k < l.length) : ∃ b o vt vd, A = some ⟨b, o, none⟩ ∧ w.rangeAt b (o + k * 12) (rcs l[k] vt vd) ∧ RecSl w (fun _ => True) l[k] vt vd ∧ l[k].txns.length ≤ 1000000 ∧ l[k].dirty.length ≤ 1000000 := by
  obtain ⟨es, h1, ⟨_, _, A', c', e, _, _, h5⟩, h3⟩ := h.ex
  injection e with e1 e2 e3
  subst e1 e3
  obtain ⟨b, o, e, _, hc⟩ := h5 (by omega)
  have hl : es.length = l.length := by rw [← h1, List.length_map]
  have hr : es[k].r = l[k] := by subst h1; simp
  have hm := h3 es[k] (List.getElem_mem (by omega))
  rw [hr] at hm
  refine ⟨b, o, es[k].vt, es[k].vd, e, fun j u hu => ?_, hm⟩
  have hj : j < 12 := (List.getElem?_eq_some_iff.1 hu).1
  rw [Nat.add_assoc]
  refine hc _ u ((flat_get Ent.cs 12 (fun _ => rfl) es k j (by omega) hj).trans ?_)
  rw [← hr] at hu
  exact hu
set_option maxRecDepth 100000 in
set_option maxHeartbeats 3200000 in
theorem SameRecords_eq (l : List PRec) (v1 v2 : Value) (w : World) (H1 : RecsRd w v1 l) (H2 : RecsRd w v2 l) :
    Calls Try.prog 17 #[v1, v2] w fun e w' => e = .returned (.bool true) ∧ Below w.heap.size w w' := by
  obtain ⟨A1, c1, rfl⟩ := H1.shape
  obtain ⟨A2, c2, rfl⟩ := H2.shape
  have HH := Sec.mk (And.intro H1 H2)
  have hnl : l.length ≤ 140737488355328 := by obtain ⟨_, _, h, _⟩ := H1.ex; exact h.2.1
  clear H1 H2
  go_enter Try.func17, Try.ntmps17
  go_wp2_with fail
  go_loopw [5] (fun i wr => ∃ k : Nat, k ≤ l.length ∧ i = .int .i64 k ∧ Below w.heap.size w wr) (fun i _ => l.length - (intOf i).toNat)
  case atStart => exact ⟨0, by omega, rfl, Below.refl _ _⟩
  case round =>
    obtain ⟨k, hk, rfl, hB⟩ := hrel
    have HB := Sec.mk hB
    clear hB
    by_cases hlt : k < l.length
    · obtain ⟨b1, o1, vt1, vd1, rfl, r1, s1, n1, n2⟩ := (HH.out.1.below HB.out).elem k hlt
      obtain ⟨b2, o2, vt2, vd2, rfl, r2, s2, _, _⟩ := (HH.out.2.below HB.out).elem k hlt
      have HS := Sec.mk (Same_eq _ _ l[k] vt1 vd1 vt2 vd2 wr.drew (s1.below (Below.refl _ _).drew) (s2.below (Below.refl _ _).drew) n1 n2)
      obtain ⟨A3, c3, rfl⟩ : ∃ A c, vt1 = .slice A l[k].txns.length c := by obtain ⟨_, _, A, c, e, _⟩ := s1.t; exact ⟨A, c, e⟩
      obtain ⟨A4, c4, rfl⟩ : ∃ A c, vd1 = .slice A l[k].dirty.length c := by obtain ⟨_, _, A, c, e, _⟩ := s1.d; exact ⟨A, c, e⟩
      obtain ⟨A5, c5, rfl⟩ : ∃ A c, vt2 = .slice A l[k].txns.length c := by obtain ⟨_, _, A, c, e, _⟩ := s2.t; exact ⟨A, c, e⟩
      obtain ⟨A6, c6, rfl⟩ : ∃ A c, vd2 = .slice A l[k].dirty.length c := by obtain ⟨_, _, A, c, e, _⟩ := s2.d; exact ⟨A, c, e⟩
      obtain ⟨q0, q1, q2, q3, q4, q5, q6, q7, q8, q9, q10, q11⟩ := range12 r1
      obtain ⟨p0, p1, p2, p3, p4, p5, p6, p7, p8, p9, p10, p11⟩ := range12 r2
      clear r1 r2 s1 s2 n1 n2
      generalize l[k] = r at *
      simp only [rcs] at HS
      go_wp2_with fail
      go_still_tail 8, (by kernel_rfl)
      change wpList _ _ _ _ _ wr.drew
      go_wp2_with (go_at_call 49; refine HS.out.mono ?_; rintro e w1 ⟨rfl, g1⟩; have G1 : Sec (Below w.heap.size w w1) := ⟨(HB.out.drew).trans (g1.mono (by show w.heap.size ≤ wr.heap.size; exact HB.out.size))⟩; clear g1)
      go_roundw
      case rel => exact ⟨k + 1, by omega, by go_num, G1.out⟩
      case measure => simp [intOf]; omega
    · obtain rfl : k = l.length := by omega
      go_wp2
      go_ret
      exact ⟨rfl, HB.out⟩
end Go.Proofs.Ytgnlhjphmaikkaa
