/- Package rec, walked: Unframe. Conditions: the bytes are few. -/
import Derived.Test.YtgnlhjphmaikkaaM
set_option linter.unusedVariables false
set_option linter.unusedSimpArgs false
namespace Go.Proofs.Ytgnlhjphmaikkaa
open Go.RowKit

/-- The record at the head of some bytes, and its frame's length. -/
noncomputable def unframe (b : List UInt8) : Option (PRec × Nat) :=
  let x := (⟨b, 0⟩ : Rd).num 2
  if x.2.err ≠ 0 ∨ b.length < x.1 + 6 then none
  else match opened (b.take (x.1 + 6)) with
    | none => none
    | some y => match decode (y.drop 2) with
      | none => none
      | some r => some (r, x.1 + 6)
theorem unframe_short (b : List UInt8) (x : Nat × Rd) (hx : (⟨b, 0⟩ : Rd).num 2 = x) (h : x.2.err ≠ 0 ∨ b.length < x.1 + 6) : unframe b = none := by
  unfold unframe; simp only [hx]; rw [if_pos h]
theorem unframe_crc (b : List UInt8) (x : Nat × Rd) (hx : (⟨b, 0⟩ : Rd).num 2 = x) (ho : opened (b.take (x.1 + 6)) = none) : unframe b = none := by
  unfold unframe; simp only [hx, ho]; split <;> rfl
theorem unframe_dec (b : List UInt8) (x : Nat × Rd) (hx : (⟨b, 0⟩ : Rd).num 2 = x) (h : ¬ (x.2.err ≠ 0 ∨ b.length < x.1 + 6)) (y : List UInt8) (ho : opened (b.take (x.1 + 6)) = some y) (d : Option PRec) (hd : decode (y.drop 2) = d) : unframe b = d.map fun r => (r, x.1 + 6) := by
  unfold unframe; simp only [hx, ho, hd]; rw [if_neg h]; cases d <;> rfl
def UnfPost (d : Option (PRec × Nat)) (w : World) (e : Ending) (w' : World) : Prop :=
  Below w.heap.size w w' ∧ ((d = none ∧ ∃ k : Int, k ≠ 0 ∧ e = .returned (.tuple #[.agg cell12.toArray, .int .i64 0, .int .i64 k])) ∨
    ∃ r n vt vd, d = some (r, n) ∧ e = .returned (.tuple #[.agg (rcs r vt vd).toArray, .int .i64 (n : Nat), .int .i64 0]) ∧ RecRow w' w.heap.size r vt vd)
theorem res66 (tmps : Array Value) (w : World) (R : Nat) (cs : Array Value) (n k : Value) (h2 : tmps.getD 2 undef = .pointer (some ⟨R, 0, none⟩)) (h3 : tmps.getD 3 undef = n) (h4 : tmps.getD 4 undef = k) (hR : w.heap[R]? = some (.cells cs 41 (0, 0)))
    (hs : (Try.prog.info? 41).map (·.size) = some cs.size) : (results Try.f66 tmps).run Try.prog w = .ok (.tuple #[.agg cs, n, k]) w := by
  have h2' : tmps[2]?.getD undef = .pointer (some ⟨R, 0, none⟩) := by simpa using h2
  have h3' : tmps[3]?.getD undef = n := by simpa using h3
  have h4' : tmps[4]?.getD undef = k := by simpa using h4
  have e1 := run_loadVar_row (P := Try.prog) w R 41 41 cs (0, 0) _ hR Try.underlying41 rfl hs
  simp [results, Try.results66, h2', h3', h4', asAddr, e1]
theorem opened_length (bs y : List UInt8) (h : opened bs = some y) : y.length + 4 = bs.length := by
  unfold opened at h
  split at h
  · cases h
  · split at h
    · injection h with h; subst h; simp; omega
    · cases h
set_option maxRecDepth 100000 in
set_option maxHeartbeats 1600000 in
theorem Unframe_any (ok : Nat → Prop) (v : Value) (b : List UInt8) (w : World) (hf : b.length ≤ 1000000) (H : Sl w ok 1 v b.length (bv b)) :
    Calls Try.prog 66 #[v] w (UnfPost (unframe b) w) := by
  obtain ⟨D, HD⟩ : ∃ D, Sec (unframe b = D) := ⟨_, ⟨rfl⟩⟩
  rw [HD.out]
  have hb1 : Below w.heap.size w (w.alloc zero12) := (Below.refl _ _).alloc (Nat.le_refl _) _
  have h0 := bk_new w zero12
  have HS := H.below hb1
  have hs : (w.alloc zero12).heap.size = w.heap.size + 1 := by simp
  obtain ⟨A, c, rfl⟩ : ∃ A c, v = .slice A b.length c := by obtain ⟨_, _, A, c, e, _⟩ := H; exact ⟨A, c, e⟩
  unfold zero12 at *
  simp only [rcs, noAct] at *
  have HV := Sec.mk H
  have HH := Sec.mk (And.intro hb1 (And.intro h0 (And.intro hs HS)))
  clear hb1 h0 hs HS H
  go_enter Try.func66, Try.ntmps66
  go_wp2_with fail
  generalize w.alloc _ = W at *
  refine (Read_any ok _ b W hf HH.out.2.2.2).mono ?_
  rintro e w1 ⟨g, rfl, hge, hrd, hb⟩
  have h0 := bk_below HH.out.2.1 hb (bk_lt HH.out.2.1)
  have hB := HH.out.1.trans (hb.mono HH.out.1.size)
  have hgw : w.heap.size + 1 ≤ g := by have := HH.out.2.2.1; omega
  have Hrd := Sec.mk hrd
  have HK := Sec.mk (And.intro h0 hB)
  clear HH h0 hB hb hrd hge
  have d2 := num_lt_2 ⟨b, 0⟩
  have hc2 := RTwo_any g ⟨b, 0⟩ w1 Hrd.out
  generalize hx : (⟨b, 0⟩ : Rd).num 2 = x at *
  have HX := Sec.mk hx
  clear hx
  have hw0 : IntKind.i64.wrap (x.1 : Int) = (x.1 : Int) := IntWalk.i64_in _ (by omega)
  have hw1 : IntKind.i64.wrap ((x.1 : Int) + 6) = ((x.1 + 6 : Nat) : Int) := by rw [IntWalk.i64_in _ (by omega)]; omega
  go_wp2_with fail
  refine hc2.mono ?_
  clear hc2
  rintro e w2 ⟨rfl, hr2, hg2⟩
  have hgw1 := Hrd.out.lt
  have hB2 := grown_bel HK.out.2 hg2 (by have := HK.out.2.size; omega) (by omega)
  have h0 := bk_gr hg2 HK.out.1 (by omega)
  have Hr2 := Sec.mk hr2
  have HK2 := Sec.mk (And.intro h0 hB2)
  clear hr2 hg2 hB2 h0 HK Hrd hgw1
  go_wp2_with fail
  refine (Err_any g x.2 w2 Hr2.out).mono ?_
  rintro e w3 ⟨rfl, rfl⟩
  by_cases hbad : x.2.err ≠ 0 ∨ b.length < x.1 + 6
  · have HU := Sec.mk (unframe_short b x HX.out hbad)
    have HBAD := Sec.mk hbad
    clear hbad
    by_cases he : x.2.err = 0
    · have hee : (x.2.err == 0) = true := by simp [he]
      have hlt : (b.length : Int) < (x.1 : Int) + 6 := by have := HBAD.out.resolve_left (fun h => h he); omega
      go_wp2_with (refine wpList_store_row rfl 41 _ _ rfl w.heap.size _ rfl rfl 41 _ HK2.out.1 (by kernel_rfl) rfl (by simp [Value.oneCell']) ?_)
      refine bodyPost_ret (res66 _ _ w.heap.size cell12.toArray _ _ rfl rfl rfl (setRow_heap _ _ _ _ _ _ HK2.out.1) (by kernel_rfl)) rfl ⟨below_setRow HK2.out.2 (Nat.le_refl _) _, .inl ⟨HD.out.symm.trans HU.out, 4, by omega, rfl⟩⟩
    · have hee : (x.2.err == 0) = false := by simp [he]
      go_wp2_with (refine wpList_store_row rfl 41 _ _ rfl w.heap.size _ rfl rfl 41 _ HK2.out.1 (by kernel_rfl) rfl (by simp [Value.oneCell']) ?_)
      refine bodyPost_ret (res66 _ _ w.heap.size cell12.toArray _ _ rfl rfl rfl (setRow_heap _ _ _ _ _ _ HK2.out.1) (by kernel_rfl)) rfl ⟨below_setRow HK2.out.2 (Nat.le_refl _) _, .inl ⟨HD.out.symm.trans HU.out, 4, by omega, rfl⟩⟩
  · have HNB := Sec.mk hbad
    have he : x.2.err = 0 := by omega
    have hee : (x.2.err == 0) = true := by simp [he]
    have hlt : ¬ (b.length : Int) < (x.1 : Int) + 6 := by omega
    have hle : x.1 + 6 ≤ b.length := by omega
    clear hbad
    have hcap : b.length ≤ c := by obtain ⟨_, _, A', c', e, h, _⟩ := HV.out; injection e with _ _ e; omega
    have hcut := fun W : World => run_cut_to (P := Try.prog) 51 5 .i64 Try.underlying51 Try.info5 A b.length c (x.1 + 6) (by omega) W
    rw [show (((x.1 + 6 : Nat) : Nat) : Int) = (x.1 : Int) + 6 by omega] at hcut
    have HSL := Sec.mk (sl_take_bv (HV.out.below HK2.out.2) (x.1 + 6) hle)
    have HTL := Sec.mk (show (b.take (x.1 + 6)).length = x.1 + 6 by rw [List.length_take]; omega)
    go_wp2_with fail
    refine (Open_any _ _ (b.take (x.1 + 6)) w2 (by rw [HTL.out]; omega) HSL.out).mono ?_
    rintro e w3 ⟨hb3, ⟨y, v', ho, rfl, hry⟩ | ⟨ho, k, hk, rfl⟩⟩
    · have HO := Sec.mk ho
      have hyl := opened_length _ _ ho
      rw [HTL.out] at hyl
      obtain ⟨A3, c3, rfl⟩ := row_shape hry
      have h0 := bk_below HK2.out.1 hb3 (bk_lt HK2.out.1)
      have hB3 := HK2.out.2.trans (hb3.mono HK2.out.2.size)
      have HS3 := Sec.mk (sl_drop_bv (Sl.of_row_bv hry (by omega)) 2 (by omega))
      have HK3 := Sec.mk (And.intro h0 hB3)
      clear ho h0 hB3 hry hb3 HK2 HSL hcut
      have hcut2 := fun W : World => run_cut (P := Try.prog) 51 5 .i64 Try.underlying51 Try.info5 A3 y.length c3 2 (by omega) W
      rw [show ((2 : Nat) : Int) = 2 from rfl] at hcut2
      go_wp2_with fail
      refine (Decode_any _ _ (y.drop 2) w3 (by simp; omega) HS3.out).mono ?_
      have HUD := Sec.mk (fun d hd => unframe_dec b x HX.out HNB.out y HO.out d hd)
      rintro e w4 ⟨hb4, ⟨hd, rfl⟩ | ⟨r, vt, vd, hd, rfl, hrs⟩⟩
      · have HU := Sec.mk (HUD.out _ hd)
        have h0 := bk_below HK3.out.1 hb4 (bk_lt HK3.out.1)
        have hB4 := HK3.out.2.trans (hb4.mono HK3.out.2.size)
        have HK4 := Sec.mk (And.intro (bk_alloc h0 (.cells cell12.toArray 41)) (hB4.alloc hB4.size (.cells cell12.toArray 41)))
        clear hd h0 hB4 hb4 HK3
        simp only [cell12] at HK4 ⊢
        go_wp2_with (refine wpList_store_row rfl 41 _ _ rfl w.heap.size _ rfl rfl 41 _ HK4.out.1 (by kernel_rfl) rfl (by simp [Value.oneCell']) ?_)
        refine bodyPost_ret (res66 _ _ w.heap.size cell12.toArray _ _ rfl rfl rfl (setRow_heap _ _ _ _ _ _ HK4.out.1) (by kernel_rfl)) rfl ⟨below_setRow HK4.out.2 (Nat.le_refl _) _, .inl ⟨HD.out.symm.trans HU.out, 5, by omega, rfl⟩⟩
      · have HU := Sec.mk (HUD.out _ hd)
        obtain ⟨⟨A1, c1, rfl⟩, A2, c2, rfl⟩ := hrs.shape
        have h0 := bk_below HK3.out.1 hb4 (bk_lt HK3.out.1)
        have hB4 := HK3.out.2.trans (hb4.mono HK3.out.2.size)
        have HK4 := Sec.mk (And.intro (bk_alloc h0 (.cells (rcs r (.slice A1 r.txns.length c1) (.slice A2 r.dirty.length c2)).toArray 41)) (hB4.alloc hB4.size (.cells (rcs r (.slice A1 r.txns.length c1) (.slice A2 r.dirty.length c2)).toArray 41)))
        have HN4 := Sec.mk (bk_new w4 (.cells (rcs r (.slice A1 r.txns.length c1) (.slice A2 r.dirty.length c2)).toArray 41))
        have hlt3 := bk_lt HK3.out.1
        have HR4 := Sec.mk (hrs.under ((Below.refl _ _).alloc (Nat.le_refl _) (.cells (rcs r (.slice A1 r.txns.length c1) (.slice A2 r.dirty.length c2)).toArray 41)))
        clear hd h0 hB4 hb4 HK3 hrs
        simp only [rcs] at HK4 HN4 HR4 ⊢
        go_wp2_with (first
          | (refine wpList_load_row rfl 41 _ rfl w4.heap.size rfl 41 _ (0, 0) _ HN4.out Try.underlying41 rfl (by kernel_rfl) ?_)
          | (refine wpList_store_row rfl 41 _ _ rfl w.heap.size _ rfl rfl 41 _ HK4.out.1 (by kernel_rfl) rfl (by simp [Value.oneCell']) ?_))
        refine bodyPost_ret (res66 _ _ w.heap.size _ _ _ rfl rfl rfl (setRow_heap _ _ _ _ _ _ HK4.out.1) (by kernel_rfl)) rfl ⟨below_setRow HK4.out.2 (Nat.le_refl _) _, .inr ⟨r, x.1 + 6, .slice A1 r.txns.length c1, .slice A2 r.dirty.length c2, HD.out.symm.trans HU.out, ?_, ?_⟩⟩
        · simp [rcs]
        · exact (HR4.out.move fun k hk _ => setRow_other _ w.heap.size k _ (by omega)).lower (by omega)
    · have HU := Sec.mk (unframe_crc b x HX.out ho)
      have h0 := bk_below HK2.out.1 hb3 (bk_lt HK2.out.1)
      have hB3 := HK2.out.2.trans (hb3.mono HK2.out.2.size)
      have HK3 := Sec.mk (And.intro h0 hB3)
      have hkk : (k == 0) = false := by simp [hk]
      have HKN := Sec.mk hk
      clear ho h0 hB3 hb3 HK2 HSL hcut hk
      go_wp2_with (refine wpList_store_row rfl 41 _ _ rfl w.heap.size _ rfl rfl 41 _ HK3.out.1 (by kernel_rfl) rfl (by simp [Value.oneCell']) ?_)
      refine bodyPost_ret (res66 _ _ w.heap.size cell12.toArray _ _ rfl rfl rfl (setRow_heap _ _ _ _ _ _ HK3.out.1) (by kernel_rfl)) rfl ⟨below_setRow HK3.out.2 (Nat.le_refl _) _, .inl ⟨HD.out.symm.trans HU.out, k, HKN.out, rfl⟩⟩
end Go.Proofs.Ytgnlhjphmaikkaa
