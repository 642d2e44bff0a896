/- Package wal, walked: what a log is in memory; its small functions. Conditions: as each statement says. -/
import Derived.Test.YtgnlhjphmaikkaaY
set_option linter.unusedVariables false
set_option linter.unusedSimpArgs false
namespace Go.Proofs.Ytgnlhjphmaikkaa
open Go.RowKit

structure PLog where
  l : List (PRec × List UInt8)
  size : Nat
  stable : Nat
  flies : Nat
  marked : Nat
  twice : Bool
  kept : Nat
  hand : Nat
structure PLog.ok (G : PLog) (n : Nat) : Prop where
  hand : G.hand < 8
  size : G.size = sizeOfL G.l
  fits : 64 + G.size + G.kept ≤ n
  stable : G.stable ≤ G.l.length
  flies : G.flies ≤ G.l.length
  each : ∀ x ∈ G.l, 6 ≤ x.2.length
  marked : G.marked ≤ 65536
theorem sizeOfL_six : ∀ (l : List (PRec × List UInt8)), (∀ x ∈ l, 6 ≤ x.2.length) → 6 * l.length ≤ sizeOfL l
  | [], _ => by simp [sizeOfL]
  | x :: l, h => by
    have h1 := h x (List.mem_cons_self ..)
    have h2 := sizeOfL_six l (fun y hy => h y (List.mem_cons_of_mem _ hy))
    have e : sizeOfL (x :: l) = x.2.length + sizeOfL l := by simp [sizeOfL]
    rw [e, List.length_cons]; omega
theorem PLog.ok.six {G : PLog} {n : Nat} (h : G.ok n) : 6 * G.l.length ≤ G.size := by rw [h.size]; exact sizeOfL_six _ h.each
def PLog.cs (G : PLog) (dg : Nat) (v : Value) : List Value := [.pointer (some ⟨dg, 0, none⟩), .int .i64 (G.hand : Nat), v, .int .i64 (G.size : Nat), .int .i64 (G.stable : Nat), .int .i64 (G.flies : Nat), .int .i64 (G.marked : Nat), .bool G.twice, .int .i64 (G.kept : Nat)]
structure LogAt (w : World) (B lg dg db : Nat) (G : PLog) (D : PDev) : Prop where
  dev : DevAt w dg db D
  ok : G.ok D.b.length
  ex : ∃ v es, w.heap[lg]? = some (.cells (G.cs dg v).toArray 91) ∧ EnsAt w B db v es ∧ es.map En.pair = G.l
  b1 : B ≤ lg
  b2 : B ≤ dg
  b3 : B ≤ db
def PLog.room (G : PLog) (n : Nat) : Nat := n - 64 - G.size - G.kept
theorem LogAt.below {w w1 : World} {B lg dg db : Nat} {G : PLog} {D : PDev} (h : LogAt w B lg dg db G D) (hb : Below w.heap.size w w1) : LogAt w1 B lg dg db G D := by
  obtain ⟨v, es, h1, h2, h3⟩ := h.ex
  exact ⟨h.dev.below hb, h.ok, ⟨v, es, bk_below h1 hb (bk_lt h1), h2.below hb, h3⟩, h.b1, h.b2, h.b3⟩
/-- What others change leaves a log. -/
theorem LogAt.kept {P : Nat → TypeId → Prop} {w w1 : World} {B lg dg db : Nat} {G : PLog} {D : PDev} (h : LogAt w B lg dg db G D) (hk : Kept P w w1) (h0 : ∀ b, ¬ P b 84) (h1 : ∀ b, ¬ P b 111) (h2 : ∀ b, ¬ P b 5) (h3 : ∀ b, ¬ P b 91) (h4 : ∀ b, ¬ P b 95) (h5 : ∀ b, ¬ P b 136) (h6 : ∀ b, ¬ P b 138) : LogAt w1 B lg dg db G D := by
  obtain ⟨v, es, g1, g2, g3⟩ := h.ex
  exact ⟨h.dev.kept hk (h0 _) h1 h2, h.ok, ⟨v, es, hk.blk _ _ _ _ g1 (h3 _), g2.kept hk (fun b _ => h4 b) (fun b _ => h5 b) (fun b _ => h6 b) (fun b _ _ => h2 b), g3⟩, h.b1, h.b2, h.b3⟩
theorem LogAt.cell {w : World} {B lg dg db : Nat} {G : PLog} {D : PDev} (h : LogAt w B lg dg db G D) : ∃ A c es, w.heap[lg]? = some (.cells (G.cs dg (.slice A G.l.length c)).toArray 91) ∧ EnsAt w B db (.slice A G.l.length c) es ∧ es.map En.pair = G.l ∧ es.length = G.l.length := by
  obtain ⟨v, es, g1, g2, g3⟩ := h.ex
  have e : es.length = G.l.length := by rw [← g3, List.length_map]
  obtain ⟨A, c, rfl⟩ := row_shape g2.row
  rw [e] at g1 g2
  exact ⟨A, c, es, g1, g2, g3, e⟩
def lsnAt (l : List (PRec × List UInt8)) (n : Nat) : Int := if n = 0 then 0 else ((l[n - 1]?).map (·.1.lsn)).getD 0
theorem lsnAt_all (l : List (PRec × List UInt8)) : lsnAt l l.length = lastOf l := by
  unfold lsnAt lastOf
  rw [List.getLast?_eq_getElem?]
  split
  · rename_i h; rw [List.eq_nil_of_length_eq_zero h]; rfl
  · rfl

/-! ### The nil log -/
set_option maxHeartbeats 400000 in
theorem Room_nil (w : World) : Calls Try.prog 30 #[.pointer none] w fun e w' => e = .returned (.int .i64 0) ∧ w = w' := by
  go_enter Try.func30, Try.ntmps30
  go_wp2
  go_ret
  exact ⟨rfl, rfl⟩
set_option maxHeartbeats 400000 in
theorem Kept_nil (w : World) : Calls Try.prog 31 #[.pointer none] w fun e w' => e = .returned (.int .i64 0) ∧ w = w' := by
  go_enter Try.func31, Try.ntmps31
  go_wp2
  go_ret
  exact ⟨rfl, rfl⟩
set_option maxHeartbeats 400000 in
theorem LFlying_nil (w : World) : Calls Try.prog 35 #[.pointer none] w fun e w' => e = .returned (.bool false) ∧ Below w.heap.size w w' := by
  go_enter Try.func35, Try.ntmps35
  go_wp2_with fail
  first
    | (go_quiet (fail); go_wp2; go_ret; exact ⟨rfl, below_drewN (Below.refl _ _) _⟩)
    | (go_wp2; go_ret; exact ⟨rfl, Below.refl _ _⟩)
set_option maxHeartbeats 400000 in
theorem Stable_nil (w : World) : Calls Try.prog 25 #[.pointer none] w fun e w' => e = .returned (.int .u64 0) ∧ w = w' := by
  go_enter Try.func25, Try.ntmps25
  go_wp2
  go_ret
  exact ⟨rfl, rfl⟩
set_option maxHeartbeats 400000 in
theorem Last_nil (w : World) : Calls Try.prog 32 #[.pointer none] w fun e w' => e = .returned (.int .u64 0) ∧ w = w' := by
  go_enter Try.func32, Try.ntmps32
  go_wp2
  go_ret
  exact ⟨rfl, rfl⟩
set_option maxHeartbeats 400000 in
theorem Records_nil (w : World) : Calls Try.prog 16 #[.pointer none] w fun e w' => e = .returned (.slice none 0 0) ∧ w = w' := by
  go_enter Try.func16, Try.ntmps16
  go_wp2
  go_ret
  exact ⟨rfl, rfl⟩
set_option maxHeartbeats 400000 in
theorem Keep_nil (i : Int) (w : World) : Calls Try.prog 29 #[.pointer none, .int .i64 i] w fun e w' => e = .returned (.int .i64 1) ∧ w = w' := by
  go_enter Try.func29, Try.ntmps29
  go_wp2
  go_ret
  exact ⟨rfl, rfl⟩
set_option maxHeartbeats 400000 in
theorem Drop_nil (i : Int) (w : World) : Calls Try.prog 37 #[.pointer none, .int .i64 i] w fun e w' => e = .returned (.tuple #[]) ∧ w = w' := by
  go_enter Try.func37, Try.ntmps37
  go_wp2
  go_end0
  exact ⟨rfl, rfl⟩
set_option maxHeartbeats 400000 in
theorem Done_nil (w : World) : Calls Try.prog 14 #[.pointer none] w fun e w' => e = .returned (.int .i64 1) ∧ w = w' := by
  go_enter Try.func14, Try.ntmps14
  go_wp2
  go_ret
  exact ⟨rfl, rfl⟩
set_option maxHeartbeats 400000 in
theorem Force_nil (w : World) : Calls Try.prog 13 #[.pointer none] w fun e w' => e = .returned (.bool false) ∧ Below w.heap.size w w' := by
  go_enter Try.func13, Try.ntmps13
  go_wp2_with fail
  first
    | (go_quiet (fail); go_wp2; go_ret; exact ⟨rfl, below_drewN (Below.refl _ _) _⟩)
    | (go_wp2; go_ret; exact ⟨rfl, Below.refl _ _⟩)
set_option maxRecDepth 100000 in
set_option maxHeartbeats 800000 in
theorem join_nil (r : PRec) (vt vd : Value) (room : Int) (w : World) (hs : (∃ A c, vt = .slice A r.txns.length c) ∧ ∃ A c, vd = .slice A r.dirty.length c) :
    Calls Try.prog 41 #[.pointer none, .agg (rcs r vt vd).toArray, .int .i64 room] w fun e w' => e = .returned (.int .i64 1) ∧ Below w.heap.size w w' := by
  obtain ⟨⟨A1, c1, rfl⟩, A2, c2, rfl⟩ := hs
  go_enter Try.func41, Try.ntmps41
  simp only [rcs]
  go_wp2
  go_ret
  exact ⟨rfl, (Below.refl _ _).alloc (Nat.le_refl _) _⟩
set_option maxRecDepth 100000 in
set_option maxHeartbeats 800000 in
theorem Append_nil (r : PRec) (vt vd : Value) (w : World) (hs : (∃ A c, vt = .slice A r.txns.length c) ∧ ∃ A c, vd = .slice A r.dirty.length c) :
    Calls Try.prog 12 #[.pointer none, .agg (rcs r vt vd).toArray] w fun e w' => e = .returned (.int .i64 1) ∧ Below w.heap.size w w' := by
  have hj := fun W => join_nil r vt vd 0 W hs
  obtain ⟨⟨A1, c1, rfl⟩, A2, c2, rfl⟩ := hs
  have hbx := bk_new w (.cells (rcs r (.slice A1 r.txns.length c1) (.slice A2 r.dirty.length c2)).toArray 41)
  have HB := Sec.mk ((Below.refl w.heap.size w).alloc (Nat.le_refl _) (.cells (rcs r (.slice A1 r.txns.length c1) (.slice A2 r.dirty.length c2)).toArray 41))
  have HBX := Sec.mk hbx
  have HJ := Sec.mk hj
  clear hbx hj
  simp only [rcs] at HBX HB HJ
  go_enter Try.func12, Try.ntmps12
  simp only [rcs]
  go_wp2_with fail
  generalize w.alloc _ = W at *
  obtain ⟨q0, q1, q2, q3, q4, q5, q6, q7, q8, q9, q10, q11⟩ := box12 (r := r) (vt := .slice A1 r.txns.length c1) (vd := .slice A2 r.dirty.length c2) HBX.out
  go_region_law (first
    | (go_simp; go_at_call 30; refine (Room_nil _).mono ?_; rintro e w1 ⟨rfl, rfl⟩)
    | (go_simp; go_at_call 41; refine (HJ.out _).mono ?_; rintro e w1 ⟨rfl, hb1⟩; have HB1 := Sec.mk hb1; clear hb1))
  all_goals
    go_wp2
    go_ret
    exact ⟨rfl, (HB.out.drew).trans (HB1.out.mono HB.out.size)⟩
set_option maxRecDepth 100000 in
set_option maxHeartbeats 800000 in
theorem Spend_nil (r : PRec) (vt vd : Value) (w : World) (hs : (∃ A c, vt = .slice A r.txns.length c) ∧ ∃ A c, vd = .slice A r.dirty.length c) :
    Calls Try.prog 33 #[.pointer none, .agg (rcs r vt vd).toArray] w fun e w' => e = .returned (.int .i64 1) ∧ Below w.heap.size w w' := by
  have hj := fun W => join_nil r vt vd 0 W hs
  obtain ⟨⟨A1, c1, rfl⟩, A2, c2, rfl⟩ := hs
  have hbx := bk_new w (.cells (rcs r (.slice A1 r.txns.length c1) (.slice A2 r.dirty.length c2)).toArray 41)
  have HB := Sec.mk ((Below.refl w.heap.size w).alloc (Nat.le_refl _) (.cells (rcs r (.slice A1 r.txns.length c1) (.slice A2 r.dirty.length c2)).toArray 41))
  have HBX := Sec.mk hbx
  have HJ := Sec.mk hj
  clear hbx hj
  simp only [rcs] at HBX HB HJ
  go_enter Try.func33, Try.ntmps33
  simp only [rcs]
  go_wp2_with fail
  generalize w.alloc _ = W at *
  obtain ⟨q0, q1, q2, q3, q4, q5, q6, q7, q8, q9, q10, q11⟩ := box12 (r := r) (vt := .slice A1 r.txns.length c1) (vd := .slice A2 r.dirty.length c2) HBX.out
  go_region_law (first
    | (go_simp; go_at_call 31; refine (Kept_nil _).mono ?_; rintro e w1 ⟨rfl, rfl⟩)
    | (go_simp; go_at_call 41; refine (HJ.out _).mono ?_; rintro e w1 ⟨rfl, hb1⟩; have HB1 := Sec.mk hb1; clear hb1))
  all_goals
    go_wp2
    go_ret
    exact ⟨rfl, (HB.out.drew).trans (HB1.out.mono HB.out.size)⟩
theorem res36 (tmps : Array Value) (w : World) (R : Nat) (cs : Array Value) (k : Value) (h4 : tmps.getD 4 undef = .pointer (some ⟨R, 0, none⟩)) (h5 : tmps.getD 5 undef = k) (hR : w.heap[R]? = some (.cells cs 41 (0, 0)))
    (hs : (Try.prog.info? 41).map (·.size) = some cs.size) : (results Try.f36 tmps).run Try.prog w = .ok (.tuple #[.agg cs, k]) w := by
  have h4' : tmps[4]?.getD undef = .pointer (some ⟨R, 0, none⟩) := by simpa using h4
  have h5' : tmps[5]?.getD undef = k := by simpa using h5
  have e1 := run_loadVar_row (P := Try.prog) w R 41 41 cs (0, 0) _ hR Try.underlying41 rfl hs
  simp [results, Try.results36, h4', h5', asAddr, e1]
set_option maxRecDepth 100000 in
set_option maxHeartbeats 800000 in
theorem Find_nil (l : Int) (w : World) : Calls Try.prog 36 #[.pointer none, .int .u64 l] w fun e w' => ∃ v, e = .returned (.tuple #[v, .bool false]) ∧ Below w.heap.size w w' := by
  have hb : Below w.heap.size w (((w.alloc (.cells #[.pointer none] 28)).alloc (.cells #[.int .u64 l] 34)).alloc zero12) := (((Below.refl _ _).alloc (Nat.le_refl _) _).alloc (by simp) _).alloc (by simp; omega) _
  have hn := bk_new ((w.alloc (.cells #[.pointer none] 28)).alloc (.cells #[.int .u64 l] 34)) zero12
  rw [World.size_alloc, World.size_alloc] at hn
  have HB := Sec.mk hb
  have HN := Sec.mk hn
  clear hb hn
  unfold zero12 at HB HN
  simp only [rcs, noAct] at HB HN
  go_enter Try.func36, Try.ntmps36
  go_wp2_with (refine wpList_store_row rfl 41 _ _ rfl (w.heap.size + 1 + 1) _ rfl rfl 41 _ HN.out (size41.trans rfl) rfl (by simp [Value.oneCell']) ?_)
  refine bodyPost_ret (res36 _ _ (w.heap.size + 1 + 1) _ _ rfl rfl (setRow_heap _ _ _ _ _ _ HN.out) (size41.trans rfl)) rfl ⟨_, rfl, ?_⟩
  exact below_setRow HB.out (by omega) _

/-! ### Where there is a log -/
section
variable {w : World} {B lg dg db : Nat} {G : PLog} {D : PDev}
set_option maxHeartbeats 400000 in
theorem LKept_any (H : LogAt w B lg dg db G D) : Calls Try.prog 31 #[.pointer (some ⟨lg, 0, none⟩)] w fun e w' => e = .returned (.int .i64 (G.kept : Nat)) ∧ w = w' := by
  obtain ⟨A, c, es, h1, _⟩ := H.cell
  have c8 : w.cell? ⟨lg, 8, none⟩ = some (.int .i64 (G.kept : Nat)) := bk_cell h1 8
  clear h1 H
  go_enter Try.func31, Try.ntmps31
  go_wp2
  go_ret
  exact ⟨rfl, rfl⟩
set_option maxRecDepth 100000 in
set_option maxHeartbeats 800000 in
theorem Room_any (H : LogAt w B lg dg db G D) : Calls Try.prog 30 #[.pointer (some ⟨lg, 0, none⟩)] w fun e w' => e = .returned (.int .i64 (G.room D.b.length : Nat)) ∧ ∃ m, w' = w.drewN m := by
  obtain ⟨A, c, es, h1, _⟩ := H.cell
  have c0 : w.cell? ⟨lg, 0, none⟩ = some (.pointer (some ⟨dg, 0, none⟩)) := bk_cell h1 0
  have c3 : w.cell? ⟨lg, 3, none⟩ = some (.int .i64 (G.size : Nat)) := bk_cell h1 3
  have c8 : w.cell? ⟨lg, 8, none⟩ = some (.int .i64 (G.kept : Nat)) := bk_cell h1 8
  have hf := H.ok.fits
  have hl := H.dev.ok.2.1
  have HS : Sec (∀ n, Calls Try.prog 38 #[.pointer (some ⟨dg, 0, none⟩)] (w.drewN n) fun e w' => e = .returned (.int .i64 (D.b.length : Nat)) ∧ w' = w.drewN n) := ⟨fun n => (Size_any dg db D (w.drewN n) (H.dev.below (below_drewN (Below.refl _ _) n))).mono (fun e w' h => ⟨h.1, h.2.symm⟩)⟩
  have e1 : IntKind.i64.wrap ((D.b.length : Int) - 64) = (D.b.length : Int) - 64 := IntWalk.i64_in _ (by omega)
  have e2 : IntKind.i64.wrap ((D.b.length : Int) - 64 - (G.size : Int)) = (D.b.length : Int) - 64 - (G.size : Int) := IntWalk.i64_in _ (by omega)
  have e3 : IntKind.i64.wrap ((D.b.length : Int) - 64 - (G.size : Int) - (G.kept : Int)) = ((G.room D.b.length : Nat) : Int) := by rw [IntWalk.i64_in _ (by omega)]; unfold PLog.room; omega
  clear h1 H hf hl
  go_enter Try.func30, Try.ntmps30
  go_wp2_with fail
  go_quiet (first | (go_at_call 38; refine Calls.quiet_of_same (HS.out _)))
  go_wp2
  go_ret
  exact ⟨rfl, _, rfl⟩
set_option maxHeartbeats 400000 in
theorem LFlying_any (H : LogAt w B lg dg db G D) : Calls Try.prog 35 #[.pointer (some ⟨lg, 0, none⟩)] w fun e w' => e = .returned (.bool (decide (0 < G.flies))) ∧ Below w.heap.size w w' := by
  obtain ⟨A, c, es, h1, _⟩ := H.cell
  have c5 : w.cell? ⟨lg, 5, none⟩ = some (.int .i64 (G.flies : Nat)) := bk_cell h1 5
  clear h1 H
  by_cases h : 0 < G.flies
  · have hd : decide (0 < G.flies) = true := decide_eq_true h
    rw [hd]
    go_enter Try.func35, Try.ntmps35
    go_wp2_with fail
    first
      | (go_quiet (fail); go_wp2; go_ret; exact ⟨rfl, below_drewN (Below.refl _ _) _⟩)
      | (go_wp2; go_ret; exact ⟨rfl, Below.refl _ _⟩)
  · have hd : decide (0 < G.flies) = false := decide_eq_false h
    rw [hd]
    go_enter Try.func35, Try.ntmps35
    go_wp2_with fail
    first
      | (go_quiet (fail); go_wp2; go_ret; exact ⟨rfl, below_drewN (Below.refl _ _) _⟩)
      | (go_wp2; go_ret; exact ⟨rfl, Below.refl _ _⟩)
set_option maxRecDepth 100000 in
set_option maxHeartbeats 800000 in
theorem at_any (H : LogAt w B lg dg db G D) (n : Nat) (hn : n ≤ G.l.length) : Calls Try.prog 54 #[.pointer (some ⟨lg, 0, none⟩), .int .i64 (n : Nat)] w fun e w' => e = .returned (.int .u64 (lsnAt G.l n)) ∧ w = w' := by
  obtain ⟨A, c, es, h1, h2, h3, h4⟩ := H.cell
  have c2 : w.cell? ⟨lg, 2, none⟩ = some (.slice A G.l.length c) := bk_cell h1 2
  have h6 := H.ok.six
  have hf := H.ok.fits
  have hl := H.dev.ok.2.1
  rcases Nat.eq_zero_or_pos n with h0 | h0
  · subst h0
    clear h1 h2 h3 H
    go_enter Try.func54, Try.ntmps54
    go_wp2
    go_ret
    exact ⟨rfl, rfl⟩
  · obtain ⟨b, o, rfl, hc⟩ : ∃ b o, A = some ⟨b, o, none⟩ ∧ ∀ m u, (es.flatMap En.cs)[m]? = some u → w.cell? ⟨b, o + m, none⟩ = some u := by
      have hr := h2.row
      rw [h4] at hr
      obtain ⟨_, _, A', c', e, _, _, h5⟩ := Sl.of_row hr (by omega)
      injection e with e1 e2 e3
      subst e1 e3
      obtain ⟨b, o, e, _, h7⟩ := h5 (by omega)
      exact ⟨b, o, e, h7⟩
    have hlast := hc ((n - 1) * 13 + 1) _ ((flat_get En.cs 13 (fun _ => rfl) es (n - 1) 1 (by omega) (by omega)).trans rfl)
    have hls : lsnAt G.l n = (es[n - 1]'(by omega)).r.lsn := by
      unfold lsnAt
      rw [if_neg (by omega), ← h3, List.getElem?_map, List.getElem?_eq_getElem (by omega)]
      rfl
    rw [← hls] at hlast
    have hnz : ((n : Int) == 0) = false := by simp; omega
    rw [← Nat.add_assoc] at hlast
    have hw : IntKind.i64.wrap ((n : Int) - 1) = (n : Int) - 1 := IntWalk.i64_in _ (by omega)
    clear h1 h2 h3 H hc hls
    generalize lsnAt G.l n = x at *
    go_enter Try.func54, Try.ntmps54
    go_wp2
    go_ret
    exact ⟨rfl, rfl⟩
set_option maxHeartbeats 400000 in
theorem Stable_any (H : LogAt w B lg dg db G D) : Calls Try.prog 25 #[.pointer (some ⟨lg, 0, none⟩)] w fun e w' => e = .returned (.int .u64 (lsnAt G.l G.stable)) ∧ w = w' := by
  obtain ⟨A, c, es, h1, _⟩ := H.cell
  have c5 : w.cell? ⟨lg, 4, none⟩ = some (.int .i64 (G.stable : Nat)) := bk_cell h1 4
  have HA := Sec.mk (at_any H G.stable H.ok.stable)
  clear h1 H
  go_enter Try.func25, Try.ntmps25
  go_wp2_with (go_at_call 54; refine HA.out.mono ?_; rintro e w1 ⟨rfl, rfl⟩)
  go_ret
  exact ⟨rfl, rfl⟩
set_option maxHeartbeats 400000 in
theorem Last_any (H : LogAt w B lg dg db G D) : Calls Try.prog 32 #[.pointer (some ⟨lg, 0, none⟩)] w fun e w' => e = .returned (.int .u64 (lastOf G.l)) ∧ w = w' := by
  obtain ⟨A, c, es, h1, _⟩ := H.cell
  have c5 : w.cell? ⟨lg, 2, none⟩ = some (.slice A G.l.length c) := bk_cell h1 2
  have HA := at_any H G.l.length (Nat.le_refl _)
  rw [lsnAt_all] at HA
  have HA := Sec.mk HA
  clear h1 H
  go_enter Try.func32, Try.ntmps32
  go_wp2_with (go_at_call 54; refine HA.out.mono ?_; rintro e w1 ⟨rfl, rfl⟩)
  go_ret
  exact ⟨rfl, rfl⟩
set_option maxHeartbeats 400000 in
theorem Records_any (H : LogAt w B lg dg db G D) : Calls Try.prog 16 #[.pointer (some ⟨lg, 0, none⟩)] w fun e w' => ∃ v', e = .returned v' ∧ RecsAt w' w.heap.size v' (G.l.map (·.1)) ∧ Below w.heap.size w w' := by
  obtain ⟨A, c, es, h1, h2, h3, h4⟩ := H.cell
  have c5 : w.cell? ⟨lg, 2, none⟩ = some (.slice A G.l.length c) := bk_cell h1 2
  have h6 := H.ok.six
  have hf := H.ok.fits
  have hl := H.dev.ok.2.1
  have hr := h2.row
  rw [h4] at hr
  have HA := records_any (fun b => B ≤ b) (fun b => B ≤ b) es (.slice A G.l.length c) w (by rw [h4]; exact Sl.of_row hr (by omega)) (fun e he => ⟨(h2.all e he).rr.recSl (by have := (h2.all e he).t64; omega) (by have := (h2.all e he).d16; omega), (h2.all e he).b.imp (fun k hk => hk.2.2), by have := (h2.all e he).t64; omega, by have := (h2.all e he).d16; omega⟩) (by omega)
  have e1 : es.map (·.r) = G.l.map (·.1) := by rw [← h3, List.map_map]; rfl
  rw [e1] at HA
  have HA := Sec.mk HA
  clear h1 h2 h3 h4 H hr e1
  go_enter Try.func16, Try.ntmps16
  go_wp2_with (go_at_call 48; refine HA.out.mono ?_; rintro e w1 ⟨v1, rfl, g1, g2⟩; have G1 := Sec.mk g1; have G2 := Sec.mk g2; clear g1 g2)
  go_ret
  exact ⟨_, rfl, G1.out, G2.out⟩
end
end Go.Proofs.Ytgnlhjphmaikkaa
