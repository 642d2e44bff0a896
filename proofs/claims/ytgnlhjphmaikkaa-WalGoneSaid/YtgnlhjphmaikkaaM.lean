/- Package rec, walked: Decode (a deferred closure that recovers), Unframe. Conditions: the bytes are few. -/
import Derived.Test.YtgnlhjphmaikkaaL
import Derived.Test.YtgnlhjphmaikkaaC
import Derived.Defers
import Derived.Recover
set_option linter.unusedVariables false
set_option linter.unusedSimpArgs false
namespace Go.Proofs.Ytgnlhjphmaikkaa
open Go.RowKit

def zero12 : Obj := .cells (rcs ⟨0, 0, 0, 0, 0, 0, noAct, [], []⟩ (.slice none 0 0) (.slice none 0 0)).toArray 41
theorem ta_nil (W : World) : (Instr.typeAssert .nilIface 20 166 true).run Try.prog W = .ok (.tuple #[.agg #[.int .i64 0], .bool false]) W := by kernel_rfl
theorem ta_fault (W : World) (n : Int) : (Instr.typeAssert (.iface 166 (.agg #[.int .i64 n])) 20 166 true).run Try.prog W = .ok (.tuple #[.agg #[.int .i64 n], .bool true]) W := by kernel_rfl
theorem bk_same {w : World} {g : Nat} {t : TypeId} {cs : Array Value} (h : w.heap[g]? = some (.cells cs t (0, 0))) (i : Nat) (u : Value) (hu : cs[i]? = some u) : (w.setCell ⟨g, i, none⟩ u).heap[g]? = some (.cells cs t (0, 0)) := by
  have e : cs.setIfInBounds i u = cs := by
    apply Array.ext_getElem?
    intro j
    rw [Array.getElem?_setIfInBounds]
    split
    · rename_i h1; subst h1
      have := (Array.getElem?_eq_some_iff.1 hu).1
      rw [if_pos this]; exact hu.symm
    · rfl
  have := bk_set h i u
  rwa [e] at this
theorem below_cell {B : Nat} {w w1 : World} (h : Below B w w1) {k : Nat} (hk : B ≤ k) (i : Nat) (u : Value) : Below B w (w1.setCell ⟨k, i, none⟩ u) :=
  h.setCell hk u
set_option maxRecDepth 100000 in
set_option maxHeartbeats 1600000 in
theorem catch_idle (R E : Nat) (w : World) :
    CallsD Try.prog 91 #[.pointer (some ⟨R, 0, none⟩), .pointer (some ⟨E, 0, none⟩)] .returning w fun e u' w' => e = .returned (.tuple #[]) ∧ u' = .returning ∧ Below w.heap.size w w' := by
  refine callsD_of_wpS Try.func91 rfl fun c₀ cs hu => ?_
  apply wpS_seq
  apply wpS_region
  simp [wpOpsS, go_sem, recoverD, hu, ta_nil, ta_fault, Try.ntmps91, Exit.thenS]
  refine wpS_of_wp ?_
  go_wp2
  cases c₀
  simp only at hu
  subst hu
  refine ⟨rfl, .returning, rfl, .tuple #[], ?_, rfl, rfl, (Below.refl _ _).alloc (Nat.le_refl _) _⟩
  simp [results, Try.results91]
def cell12 : List Value := [.int .i64 0, .int .u64 0, .int .i64 0, .int .u64 0, .int .u64 0, .int .i64 0, .int .i64 0, .string ⟨#[]⟩, .string ⟨#[]⟩, .string ⟨#[]⟩, .slice none 0 0, .slice none 0 0]
set_option maxRecDepth 100000 in
set_option maxHeartbeats 600000 in
theorem catch_panic (B R E : Nat) (w : World) (hR : w.heap[R]? = some zero12) (hE : w.heap[E]? = some (.cells #[.int .i64 0] 24)) (hne : R ≠ E) (hBR : B ≤ R) (hBE : B ≤ E) :
    CallsD Try.prog 91 #[.pointer (some ⟨R, 0, none⟩), .pointer (some ⟨E, 0, none⟩)] (.panicking fault) w fun e u' w' => e = .returned (.tuple #[]) ∧
      u' = .panicking [{ v := .iface 166 (.agg #[.int .i64 5]), recovered := true }] ∧ Below B w w' ∧ w'.heap[R]? = some zero12 ∧ w'.heap[E]? = some (.cells #[.int .i64 5] 24) := by
  refine callsD_of_wpS Try.func91 rfl fun c₀ cs hu => ?_
  unfold fault at hu
  apply wpS_seq
  apply wpS_region
  simp [wpOpsS, go_sem, recoverD, hu, ta_nil, ta_fault, Try.ntmps91, Exit.thenS]
  refine wpS_of_wp ?_
  have HR := Sec.mk (bk_alloc hR (.cells #[.int .i64 5] 166))
  have HE := Sec.mk (bk_alloc hE (.cells #[.int .i64 5] 166))
  have HN := Sec.mk (bk_new w (.cells #[.int .i64 5] 166))
  have HB := Sec.mk ((Below.refl B w).alloc (by have := bk_lt hR; omega) (.cells #[.int .i64 5] 166))
  unfold zero12 at HR
  simp only [rcs, noAct] at HR
  obtain ⟨q0, q1, q2, q3, q4, q5, q6, q7, q8, q9, q10, q11⟩ := box12 (r := ⟨0, 0, 0, 0, 0, 0, noAct, [], []⟩) (vt := .slice none 0 0) (vd := .slice none 0 0) HR.out
  simp only [noAct] at q0 q1 q2 q3 q4 q5 q6 q7 q8 q9 q10 q11
  have z := fun i => bk_frozen HR.out i
  have zE := bk_frozen HE.out 0
  have qE : _ = some (Value.int IntKind.i64 0) := bk_cell HE.out 0
  have qN : _ = some (Value.int IntKind.i64 5) := bk_cell HN.out 0
  have n1 : ¬ w.heap.size = R := by have := bk_lt hR; omega
  have n2 : ¬ R = w.heap.size := by omega
  have n3 : ¬ w.heap.size = E := by have := bk_lt hE; omega
  have n4 : ¬ E = w.heap.size := by omega
  have n5 : ¬ R = E := hne
  have n6 : ¬ E = R := Ne.symm hne
  clear hR hE
  generalize hW : w.alloc (.cells #[.int .i64 5] 166) = W at *
  clear hW
  go_wp2_with fail
  go_region
  all_goals
    go_wp2
    cases c₀
    simp only at hu
    subst hu
    refine ⟨rfl, _, rfl, .tuple #[], ?_, rfl, rfl, ?_, ?_, ?_⟩
    · simp [results, Try.results91]
    · exact Below.drew (below_cell (below_cell (below_cell (below_cell (below_cell (below_cell (below_cell (below_cell (below_cell (below_cell (below_cell (below_cell (below_cell HB.out hBR 0 (.int .i64 0)) hBR 1 (.int .u64 0)) hBR 2 (.int .i64 0)) hBR 3 (.int .u64 0)) hBR 4 (.int .u64 0)) hBR 5 (.int .i64 0)) hBR 6 (.int .i64 0)) hBR 7 (.string ⟨#[]⟩)) hBR 8 (.string ⟨#[]⟩)) hBR 9 (.string ⟨#[]⟩)) hBR 10 (.slice none 0 0)) hBR 11 (.slice none 0 0)) hBE 0 (.int .i64 5))
    · simp only [zero12, rcs, noAct]
      refine bk_drew ?_
      refine bk_far ?_ n5 _
      iterate 12 refine bk_same ?_ _ _ rfl
      exact HR.out
    · refine bk_drew ?_
      refine bk_set (cs := #[.int .i64 0]) ?_ 0 (.int .i64 5)
      iterate 12 refine bk_far ?_ n6 _
      exact HE.out

/-- What a decoding answers. -/
def DecPost (d : Option PRec) (w : World) (e : Ending) (w' : World) : Prop :=
  Below w.heap.size w w' ∧ ((d = none ∧ e = .returned (.tuple #[.agg cell12.toArray, .int .i64 5])) ∨ ∃ r vt vd, d = some r ∧ e = .returned (.tuple #[.agg (rcs r vt vd).toArray, .int .i64 0]) ∧ RecRow w' w.heap.size r vt vd)
theorem res81 (tmps : Array Value) (w : World) (R E : Nat) (cs : Array Value) (n : Int) (h2 : tmps.getD 2 undef = .pointer (some ⟨R, 0, none⟩)) (h3 : tmps.getD 3 undef = .pointer (some ⟨E, 0, none⟩)) (hR : w.heap[R]? = some (.cells cs 41 (0, 0)))
    (hE : w.heap[E]? = some (.cells #[.int .i64 n] 24)) (hs : (Try.prog.info? 41).map (·.size) = some cs.size) : (results Try.f81 tmps).run Try.prog w = .ok (.tuple #[.agg cs, .int .i64 n]) w := by
  have h2' : tmps[2]?.getD undef = .pointer (some ⟨R, 0, none⟩) := by simpa using h2
  have h3' : tmps[3]?.getD undef = .pointer (some ⟨E, 0, none⟩) := by simpa using h3
  have hc : w.cell? ⟨E, 0, none⟩ = some (.int .i64 n) := bk_cell hE 0
  have e1 := run_loadVar_row (P := Try.prog) w R 41 41 cs (0, 0) _ hR Try.underlying41 rfl hs
  have e2 : (loadVar 24 ⟨E, 0, none⟩).run Try.prog w = .ok (.int .i64 n) w := by simp [go_sem, hc]
  simp [results, Try.results81, h2', h3', asAddr, e1, e2]
theorem grown_bel {w w0 w1 : World} {g B : Nat} (h : Below B w w0) (hg : w0.grownBy w1 (some g)) (hB : B ≤ w0.heap.size) (hk : B ≤ g) : Below B w w1 := h.grown hg hB (fun k e => by injection e with e; omega)
set_option maxRecDepth 100000 in
set_option maxHeartbeats 1600000 in
theorem Decode_any (ok : Nat → Prop) (v : Value) (b : List UInt8) (w : World) (hf : b.length ≤ 1000000) (H : Sl w ok 1 v b.length (bv b)) :
    Calls Try.prog 81 #[v] w (DecPost (decode b) w) := by
  have hmf : ∀ (fn : Fn) (first cap : Array Value) (w : World), (Instr.makeFunc fn first cap).run Try.prog w = .ok (.func fn first cap) w := fun _ _ _ _ => rfl
  obtain ⟨D, HD⟩ : ∃ D, Sec (decode b = D) := ⟨_, ⟨rfl⟩⟩
  rw [HD.out]
  have hb1 : Below w.heap.size w (w.alloc zero12) := (Below.refl _ _).alloc (Nat.le_refl _) _
  have hb2 : Below w.heap.size w ((w.alloc zero12).alloc (.cells #[.int .i64 0] 24)) := hb1.alloc (by simp) _
  have h0 := bk_alloc (bk_new w zero12) (.cells #[.int .i64 0] 24)
  have h1 := bk_new (w.alloc zero12) (.cells #[.int .i64 0] 24)
  rw [World.size_alloc] at h1
  have hs : ((w.alloc zero12).alloc (.cells #[.int .i64 0] 24)).heap.size = w.heap.size + 2 := by simp
  have HS := H.below hb2
  obtain ⟨A, c, rfl⟩ : ∃ A c, v = .slice A b.length c := by obtain ⟨_, _, A, c, e, _⟩ := H; exact ⟨A, c, e⟩
  unfold zero12 at *
  simp only [rcs, noAct] at *
  have HH := Sec.mk (And.intro hb2 (And.intro h0 (And.intro h1 (And.intro hs HS))))
  clear hb1 hb2 h0 h1 hs HS H
  go_enter_defers Try.func81, Try.ntmps81
  go_wp2_with fail
  generalize (w.alloc _).alloc _ = W at *
  refine (Read_any ok _ b W hf HH.out.2.2.2.2).mono ?_
  rintro e w1 ⟨g, rfl, hge, hrd, hb⟩
  have h0 := bk_below HH.out.2.1 hb (bk_lt HH.out.2.1)
  have h1 := bk_below HH.out.2.2.1 hb (bk_lt HH.out.2.2.1)
  have hB := HH.out.1.trans (hb.mono HH.out.1.size)
  have hgw : w.heap.size + 2 ≤ g := by have := HH.out.2.2.2.1; omega
  have Hrd := Sec.mk hrd
  have HK := Sec.mk (And.intro h0 (And.intro h1 hB))
  clear HH h0 h1 hB hb hrd hge
  go_wp2_with fail
  refine (read_try g b w1 Hrd.out).mono ?_
  rw [HD.out]
  rintro e w2 ⟨hgr, hcase⟩
  have hgw1 := Hrd.out.lt
  have hB2 := grown_bel HK.out.2.2 hgr (by have := HK.out.2.2.size; omega) (by omega)
  have h0 := bk_gr hgr HK.out.1 (by omega)
  have h1 := bk_gr hgr HK.out.2.1 (by omega)
  have HK2 := Sec.mk (And.intro h0 (And.intro h1 hB2))
  have HG := Sec.mk hgr
  clear hgr hB2 h0 h1 HD
  rcases hcase with ⟨rfl, rfl⟩ | ⟨r, vt, vd, rfl, rfl, hrs⟩
  · go_wp2
    refine leaves_cons (f := 91) (args := #[.pointer (some ⟨w.heap.size, 0, none⟩), .pointer (some ⟨w.heap.size + 1, 0, none⟩)]) (by simp) (by simp [go_sem]) ?_
    refine (catch_panic w.heap.size w.heap.size (w.heap.size + 1) w2 HK2.out.1 HK2.out.2.1 (by omega) (by omega) (by omega)).mono ?_
    rintro e u w3 ⟨rfl, rfl, hb3, hr3, he3⟩
    exact ⟨_, res81 _ w3 _ _ _ _ rfl rfl hr3 he3 (by kernel_rfl), HK2.out.2.2.trans hb3, .inl ⟨rfl, rfl⟩⟩
  · obtain ⟨⟨A1, c1, rfl⟩, A2, c2, rfl⟩ := hrs.shape
    have HRS := Sec.mk hrs
    clear hrs
    simp only [rcs]
    have HE := fun cs : Array Value => (setRow_other w2 w.heap.size (w.heap.size + 1) cs (by omega)).trans HK2.out.2.1
    have hq : ∀ cs : Array Value, (w2.setRow w.heap.size cs).cell? ⟨w.heap.size + 1, 0, none⟩ = some (.int .i64 0) := fun cs => bk_cell (HE cs) 0
    have hz : ∀ cs : Array Value, (w2.setRow w.heap.size cs).frozen? ⟨w.heap.size + 1, 0, none⟩ = false := fun cs => bk_frozen (HE cs) 0
    have HEE := Sec.mk HE
    clear HE
    have hs1 := HK.out.2.2.size
    have hs2 : w.heap.size + 2 ≤ w1.heap.size := by have := bk_lt HK.out.2.1; omega
    go_wp2_with (refine wpList_store_row rfl 41 _ _ rfl w.heap.size _ rfl rfl 41 _ HK2.out.1 (by kernel_rfl) rfl (by simp [Value.oneCell']) ?_)
    refine leaves_cons (f := 91) (args := #[.pointer (some ⟨w.heap.size, 0, none⟩), .pointer (some ⟨w.heap.size + 1, 0, none⟩)]) (by simp) (by simp [go_sem]) ?_
    generalize hcs : #[Value.int IntKind.i64 r.kind, Value.int IntKind.u64 r.lsn, Value.int IntKind.i64 r.txn,
          Value.int IntKind.u64 r.prev, Value.int IntKind.u64 r.undo, Value.int IntKind.i64 r.page,
          Value.int IntKind.i64 r.act.kind, Value.string { data := r.act.key.toArray },
          Value.string { data := r.act.old.toArray }, Value.string { data := r.act.new.toArray },
          Value.slice A1 r.txns.length c1, Value.slice A2 r.dirty.length c2] = cs
    have hR : (w2.setRow w.heap.size cs).heap[w.heap.size]? = some (.cells cs 41 (0, 0)) := setRow_heap _ _ _ _ _ _ HK2.out.1
    have hB3 : Below w.heap.size w ((w2.setRow w.heap.size cs).setCell ⟨w.heap.size + 1, 0, none⟩ (.int .i64 0)) := below_cell (below_setRow HK2.out.2.2 (Nat.le_refl _) _) (by omega) 0 _
    have hR3 := bk_far hR (p := ⟨w.heap.size + 1, 0, none⟩) (by simp) (.int .i64 0)
    have hE3 : ((w2.setRow w.heap.size cs).setCell ⟨w.heap.size + 1, 0, none⟩ (.int .i64 0)).heap[w.heap.size + 1]? = some (.cells #[.int .i64 0] 24) := bk_same (HEE.out cs) 0 (.int .i64 0) rfl
    have hrs3 : RecRow ((w2.setRow w.heap.size cs).setCell ⟨w.heap.size + 1, 0, none⟩ (.int .i64 0)) w.heap.size r (.slice A1 r.txns.length c1) (.slice A2 r.dirty.length c2) :=
      (HRS.out.move (w1 := (w2.setRow w.heap.size cs).setCell ⟨w.heap.size + 1, 0, none⟩ (.int .i64 0)) fun k hk _ => (Below.heap_setCell _ ⟨w.heap.size + 1, 0, none⟩ _ k (by simp; omega)).trans (setRow_other w2 w.heap.size k cs (by omega))).lower (by omega)
    generalize (w2.setRow w.heap.size cs).setCell _ _ = w3 at *
    refine (catch_idle w.heap.size (w.heap.size + 1) w3).mono ?_
    rintro e u w4 ⟨rfl, rfl, hb4⟩
    have hR4 := bk_below hR3 hb4 (bk_lt hR3)
    have hE4 := bk_below hE3 hb4 (bk_lt hE3)
    subst hcs
    exact ⟨_, res81 _ w4 _ _ _ _ rfl rfl hR4 hE4 (by kernel_rfl), hB3.trans (hb4.mono (by have := hB3.size; omega)), .inr ⟨r, _, _, rfl, rfl, hrs3.under hb4⟩⟩
end Go.Proofs.Ytgnlhjphmaikkaa
