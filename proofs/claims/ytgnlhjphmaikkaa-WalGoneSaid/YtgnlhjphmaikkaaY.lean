/- Package wal, walked: scan. Conditions: a device of 64 bytes or more. -/
import Derived.Test.YtgnlhjphmaikkaaX
import Derived.StillTailTactics
set_option linter.unusedVariables false
set_option linter.unusedSimpArgs false
namespace Go.Proofs.Ytgnlhjphmaikkaa
open Go.RowKit

/-! ### A log's entries in memory -/
structure EnOk (w : World) (B db : Nat) (e : En) : Prop where
  rr : RecRow w B e.r e.vt e.vd
  b : Sl w (fun k => Ty w 5 k ∧ (k ≠ db ∧ B ≤ k)) 1 e.vb e.b.length (bv e.b)
  t64 : e.r.txns.length ≤ 64
  d16 : e.r.dirty.length ≤ 16
structure EnsAt (w : World) (B db : Nat) (v : Value) (es : List En) : Prop where
  row : w.ownsRow B 95 13 v es.length (es.flatMap En.cs)
  all : ∀ e ∈ es, EnOk w B db e
theorem row_typed {w : World} {B : Nat} {e : TypeId} {size n : Nat} {v : Value} {xs : List Value} (h : w.ownsRow B e size v n xs) {k : Nat} (hk : v.ownBlock = some k) : ∃ cs f, w.heap[k]? = some (.cells cs e f) := by
  rcases h.2 with ⟨rfl, _⟩ | ⟨g, cap, cur, rfl, _, hh, _⟩
  · simp [Value.ownBlock] at hk
  · simp [Value.ownBlock] at hk; subst hk; exact ⟨_, _, hh⟩
theorem EnOk.keep {w w1 : World} {B db : Nat} {e : En} (h : EnOk w B db e) (hm : ∀ k t cs f, w.heap[k]? = some (.cells cs t f) → B ≤ k → (t = 136 ∨ t = 138 ∨ (t = 5 ∧ k ≠ db)) → w1.heap[k]? = w.heap[k]?) : EnOk w1 B db e := by
  refine ⟨⟨row_kept h.rr.t fun k hk => ?_, row_kept h.rr.d fun k hk => ?_⟩, ?_, h.t64, h.d16⟩
  · obtain ⟨cs, f, h1⟩ := row_typed h.rr.t hk; exact hm k 136 cs f h1 (h.rr.t.lt k hk).1 (.inl rfl)
  · obtain ⟨cs, f, h1⟩ := row_typed h.rr.d hk; exact hm k 138 cs f h1 (h.rr.d.lt k hk).1 (.inr (.inl rfl))
  · obtain ⟨h1, h2, A, c, e1, h3, h4, h5⟩ := h.b
    refine ⟨h1, h2, A, c, e1, h3, h4, fun hn => ?_⟩
    obtain ⟨b, o, e2, ⟨⟨cs', f, hb⟩, hq⟩, hc⟩ := h5 hn
    have h6 := hm b 5 cs' f hb hq.2 (.inr (.inr ⟨rfl, hq.1⟩))
    refine ⟨b, o, e2, ⟨⟨cs', f, h6.trans hb⟩, hq⟩, fun j u hu => ?_⟩
    have h7 := hc j u hu
    rw [bk_cell hb] at h7
    rw [bk_cell (h6.trans hb)]; exact h7
theorem EnOk.below {w w1 : World} {B db : Nat} {e : En} (h : EnOk w B db e) (hb : Below w.heap.size w w1) : EnOk w1 B db e := h.keep fun k t cs f h1 _ _ => hb.block k (bk_lt h1)
theorem EnOk.kept {P : Nat → TypeId → Prop} {w w1 : World} {B db : Nat} {e : En} (h : EnOk w B db e) (hk : Kept P w w1) (h1 : ∀ b, B ≤ b → ¬ P b 136) (h2 : ∀ b, B ≤ b → ¬ P b 138) (h3 : ∀ b, B ≤ b → b ≠ db → ¬ P b 5) : EnOk w1 B db e := h.keep fun k t cs f hh hB ht => by
  rw [hh]
  refine hk.blk k cs t f hh ?_
  rcases ht with rfl | rfl | ⟨rfl, hne⟩
  · exact h1 k hB
  · exact h2 k hB
  · exact h3 k hB hne
theorem EnsAt.below {w w1 : World} {B db : Nat} {v : Value} {es : List En} (h : EnsAt w B db v es) (hb : Below w.heap.size w w1) : EnsAt w1 B db v es := ⟨row_below h.row hb, fun e he => (h.all e he).below hb⟩
theorem EnsAt.kept {P : Nat → TypeId → Prop} {w w1 : World} {B db : Nat} {v : Value} {es : List En} (h : EnsAt w B db v es) (hk : Kept P w w1) (h0 : ∀ b, B ≤ b → ¬ P b 95) (h1 : ∀ b, B ≤ b → ¬ P b 136) (h2 : ∀ b, B ≤ b → ¬ P b 138) (h3 : ∀ b, B ≤ b → b ≠ db → ¬ P b 5) : EnsAt w1 B db v es :=
  ⟨row_kept h.row fun k hk' => by obtain ⟨cs, f, hh⟩ := row_typed h.row hk'; rw [hh]; exact hk.blk k cs 95 f hh (h0 k (h.row.lt k hk').1), fun e he => (h.all e he).kept hk h1 h2 h3⟩
theorem EnsAt.grown {w w1 : World} {B db : Nat} {v v1 : Value} {es : List En} {e : En} (h : EnsAt w B db v es) (he : EnOk w B db e) (hg : w.grownBy w1 v.ownBlock) (hr : w1.ownsRow B 95 13 v1 (es.length + 1) (es.flatMap En.cs ++ e.cs)) : EnsAt w1 B db v1 (es ++ [e]) := by
  have hk : ∀ e, EnOk w B db e → EnOk w1 B db e := fun e he => he.keep fun k t cs f hh _ ht => hg.block k (bk_lt hh) (fun e => by
    have h1 := row_ty h.row e.symm t (by rintro rfl; rcases ht with h | h | ⟨h, _⟩ <;> exact absurd h (by decide))
    exact h1 ⟨cs, f, hh⟩)
  refine ⟨by simpa [En.cs] using hr, fun x hx => ?_⟩
  rcases List.mem_append.1 hx with hx | hx
  · exact hk x (h.all x hx)
  · rw [List.mem_singleton] at hx; subst hx; exact hk x he
theorem EnsAt.lower {w : World} {B B' db : Nat} {v : Value} {es : List En} (h : EnsAt w B db v es) (hb : B' ≤ B) : EnsAt w B' db v es :=
  ⟨row_lower h.row hb, fun e he => ⟨(h.all e he).rr.lower hb, (h.all e he).b.imp fun k hk => ⟨hk.1, hk.2.1, by have := hk.2.2; omega⟩, (h.all e he).t64, (h.all e he).d16⟩⟩

/-! ### What stands in some bytes -/
theorem unframe_some {b : List UInt8} {r : PRec} {n : Nat} (h : unframe b = some (r, n)) : 6 ≤ n ∧ n ≤ b.length ∧ r.may := by
  unfold unframe at h
  simp only at h
  split at h
  · cases h
  · rename_i h1
    split at h
    · cases h
    · split at h
      · cases h
      · rename_i y _ r' hd
        injection h with h; injection h with h2 h3
        subst h2 h3
        refine ⟨by omega, by omega, ?_⟩
        unfold decode at hd
        split at hd
        · cases hd
        · split at hd
          · rename_i h4
            injection hd with hd; subst hd; exact h4.2.2
          · cases hd
noncomputable def scanP (last : Int) (b : List UInt8) : List (PRec × List UInt8) :=
  match h : unframe b with
  | none => []
  | some (r, n) => if r.lsn ≤ last then [] else (r, b.take n) :: scanP r.lsn (b.drop n)
termination_by b.length
decreasing_by
  have := unframe_some h
  simp; omega
theorem scanP_none (last : Int) (b : List UInt8) (h : unframe b = none) : scanP last b = [] := by
  rw [scanP]; split
  · rfl
  · rename_i h2; rw [h] at h2; cases h2
theorem scanP_stop (last : Int) (b : List UInt8) (r : PRec) (n : Nat) (h : unframe b = some (r, n)) (hl : r.lsn ≤ last) : scanP last b = [] := by
  rw [scanP]; split
  · rfl
  · rename_i h2; rw [h] at h2; injection h2 with h2; injection h2 with h3 h4; subst h3 h4; rw [if_pos hl]
theorem scanP_more (last : Int) (b : List UInt8) (r : PRec) (n : Nat) (h : unframe b = some (r, n)) (hl : ¬ r.lsn ≤ last) : scanP last b = (r, b.take n) :: scanP r.lsn (b.drop n) := by
  rw [scanP]; split
  · rename_i h2; rw [h] at h2; cases h2
  · rename_i h2; rw [h] at h2; injection h2 with h2; injection h2 with h3 h4; subst h3 h4; rw [if_neg hl]
/-- Records and their frames, one behind the other. -/
def sizeOfL (l : List (PRec × List UInt8)) : Nat := (l.map (·.2.length)).sum
def lastOf (l : List (PRec × List UInt8)) : Int := (l.getLast?.map (·.1.lsn)).getD 0
theorem sizeOfL_snoc (l : List (PRec × List UInt8)) (x : PRec × List UInt8) : sizeOfL (l ++ [x]) = sizeOfL l + x.2.length := by simp [sizeOfL]
theorem lastOf_snoc (l : List (PRec × List UInt8)) (x : PRec × List UInt8) : lastOf (l ++ [x]) = x.1.lsn := by simp [lastOf]
/-- What stands on a device. -/
noncomputable def stands (b : List UInt8) : List (PRec × List UInt8) := if b.length < 64 then [] else scanP 0 ((b.drop 64).take (toldOf b))
def En.pair (e : En) : PRec × List UInt8 := (e.r, e.b)
theorem lastOf_ens (es : List En) (h : 0 < es.length) : lastOf (es.map En.pair) = (es[es.length - 1]'(by omega)).r.lsn := by
  unfold lastOf
  rw [List.getLast?_eq_getElem?]
  simp [En.pair, List.getElem?_eq_getElem (show es.length - 1 < es.length by omega)]
theorem toldOf_le (b : List UInt8) (h : 64 ≤ b.length) : toldOf b ≤ b.length - 64 := by
  unfold toldOf
  split
  · omega
  · split <;> omega

theorem ecs_one' (r : PRec) (A1 A2 A3 : Option Addr) (n1 n2 n3 c1 c2 c3 : Nat) : ∀ u ∈ ecs r (.slice A1 n1 c1) (.slice A2 n2 c2) (.slice A3 n3 c3), u.oneCell' = true := by
  intro u hu
  have := ecs_one r A1 A2 A3 n1 n2 n3 c1 c2 c3
  rw [Array.all_eq_true_iff_forall_mem] at this
  exact this u (by simpa using hu)
theorem below_drewN_ens {w : World} {B db : Nat} {v : Value} {es : List En} (h : EnsAt w B db v es) (n : Nat) : EnsAt (w.drewN n) B db v es := h.below (below_drewN (Below.refl _ _) n)
set_option maxRecDepth 100000 in
set_option maxHeartbeats 1600000 in
theorem scan_any (dg db : Nat) (D : PDev) (w : World) (H : DevAt w dg db D) (hl : 64 ≤ D.b.length) :
    Calls Try.prog 40 #[.pointer (some ⟨dg, 0, none⟩)] w fun e w' => ∃ v es, e = .returned (.tuple #[v, .int .i64 (sizeOfL (stands D.b) : Nat)]) ∧ EnsAt w' w.heap.size db v es ∧ es.map En.pair = stands D.b ∧ Below w.heap.size w w' := by
  have hst : stands D.b = scanP 0 ((D.b.drop 64).take (toldOf D.b)) := by unfold stands; rw [if_neg (by omega)]
  have htl := toldOf_le D.b hl
  have hlen := H.ok.2.1
  have hdbl : db < w.heap.size := by obtain ⟨_, _, _, a3, _⟩ := H.ex; exact bk_lt a3
  have HH := Sec.mk H
  have HTO := Sec.mk (told_any dg db D w H hl)
  have HRD := fun W (h : DevAt W dg db D) => Sec.mk (DRead_any dg db D 64 (toldOf D.b) W h (by omega))
  rw [hst]
  have hbl : ((D.b.drop 64).take (toldOf D.b)).length = toldOf D.b := by rw [List.length_take, List.length_drop]; omega
  have HBL := Sec.mk hbl
  clear H hst hbl
  generalize (D.b.drop 64).take (toldOf D.b) = buf at *
  generalize toldOf D.b = tl at *
  go_enter Try.func40, Try.ntmps40
  go_wp2_with (first
    | (go_at_call 38; refine (Size_any dg db D _ HH.out).mono ?_; rintro e w1 ⟨rfl, rfl⟩)
    | (go_at_call 65; refine HTO.out.mono ?_; rintro e w1 ⟨rfl, hb1⟩; have HB1 := Sec.mk hb1; have HD1 := Sec.mk (HH.out.below hb1); clear hb1)
    | (go_at_call 24; refine (HRD _ HD1.out).out.mono ?_; rintro e w2 ⟨v2, rfl, hr2, hb2⟩; have HR2 := Sec.mk hr2; have HB2 := Sec.mk hb2; clear hr2 hb2))
  have hB2 := HB1.out.trans (HB2.out.mono HB1.out.size)
  have hw12 := HB1.out.size
  obtain ⟨A2, c2, rfl⟩ := row_shape HR2.out
  rw [HBL.out] at HR2 ⊢
  have hbuf := Sl.typed_bv (bs := buf) (by rw [HBL.out]; exact HR2.out) (by rw [HBL.out]; omega)
  have HBUF := Sec.mk (hbuf.imp (ok' := fun k => Ty w2 5 k ∧ (k ≠ db ∧ w.heap.size ≤ k)) fun k hk => ⟨hk.1, by omega, by omega⟩)
  have HB22 := Sec.mk hB2
  have hcap : tl ≤ c2 := by obtain ⟨_, _, A', c', e, h, _⟩ := hbuf; injection e with _ _ e; rw [HBL.out] at h; omega
  clear hbuf hB2 HRD HTO
  rw [HBL.out] at HBUF
  go_loopw [6, 7] (fun l i wr => ∃ es : List En, ∃ k : Nat, k ≤ tl ∧ i = .int .i64 k ∧ EnsAt wr w.heap.size db l es ∧ sizeOfL (es.map En.pair) = k ∧ scanP 0 buf = es.map En.pair ++ scanP (lastOf (es.map En.pair)) (buf.drop k) ∧ 6 * es.length ≤ k ∧ Below w2.heap.size w2 wr ∧ wr.ownsRow w2.heap.size 95 13 l es.length (es.flatMap En.cs)) (fun _ i _ => tl - (intOf i).toNat)
  case atStart => exact ⟨[], 0, by omega, rfl, ⟨by simpa using World.ownsRow_nil _ _ _ _, by simp⟩, rfl, by simp [lastOf], by simp, Below.refl _ _, by simpa using World.ownsRow_nil _ _ _ _⟩
  case round =>
    obtain ⟨es, k, hk, rfl, hE, hsz, hsc, h6, hB, hrw⟩ := hrel
    have HRW := Sec.mk hrw
    have HE := Sec.mk hE
    have HSZ := Sec.mk hsz
    have HSC := Sec.mk hsc
    have HB := Sec.mk hB
    obtain ⟨A3, c3, rfl⟩ := row_shape hE.row
    clear hE hsz hsc hB hrw
    have hcut := fun W : World => run_cut (P := Try.prog) 51 5 .i64 Try.underlying51 Try.info5 A2 tl c2 k (by omega) W
    have hd : (buf.drop k).length = tl - k := by rw [List.length_drop, HBL.out]
    have HDL := Sec.mk hd
    clear hd
    have hS := HBUF.out.below HB.out
    rw [← HBL.out] at hS
    have hS1 := sl_drop_bv hS k (by rw [HBL.out]; omega)
    have HU := Sec.mk (Unframe_any _ _ (buf.drop k) wr (by rw [HDL.out]; omega) hS1)
    rw [HBL.out] at HU
    clear hS hS1
    have hdb2 : w.heap.size ≤ wr.heap.size := by have := HB22.out.size; have := HB.out.size; omega
    go_wp2_with fail
    refine HU.out.mono ?_
    rintro e w4 ⟨hb4, ⟨hu, z, hz, rfl⟩ | ⟨r, n, vt, vd, hu, rfl, hrr⟩⟩
    · have HB4 := Sec.mk hb4
      have HUN := Sec.mk hu
      have hzz : (z != 0) = true := by simp [hz]
      have HZ := Sec.mk hz
      clear hb4 hu hz hcut HU
      simp only [cell12]
      go_upto_region 7 with (refine list_box rfl 41 _ _ rfl _ rfl rfl (size41.trans rfl) rfl (by simp [Value.oneCell']) ?_; intro W5 hb5 hz5 hh5; have HB5 := Sec.mk hb5; have HH5 := Sec.mk hh5; have HZ5 := Sec.mk hz5; clear hb5 hz5 hh5)
      go_quiet (fail)
      go_wp2
      go_ret2
      have hB5 := HB4.out.trans (HB5.out.mono HB4.out.size)
      rw [HSC.out, scanP_none _ _ HUN.out, List.append_nil]
      exact ⟨_, es, by rw [HSZ.out]; rfl, below_drewN_ens (HE.out.below hB5) _, rfl, below_drewN (HB22.out.trans ((HB.out.trans (hB5.mono HB.out.size)).mono HB22.out.size)) _⟩
    · have HB4 := Sec.mk hb4
      obtain ⟨hn6, hnl, hmay⟩ := unframe_some hu
      rw [HDL.out] at hnl
      have HUN := Sec.mk hu
      have HRR := Sec.mk hrr
      have HMAY := Sec.mk hmay
      obtain ⟨⟨A5, c5, rfl⟩, A6, c6, rfl⟩ := hrr.shape
      clear hb4 hu hcut HU hrr hmay
      simp only [rcs]
      go_upto_region 7 with (refine list_box rfl 41 _ _ rfl _ rfl rfl (size41.trans rfl) rfl (by simp [Value.oneCell']) ?_; intro W5 hb5 hz5 hh5; have HB5 := Sec.mk hb5; have HH5 := Sec.mk hh5; have HZ5 := Sec.mk hz5; clear hb5 hz5 hh5)
      have hq1 : W5.cell? ⟨w4.heap.size, 1, none⟩ = some (.int .u64 r.lsn) := bk_cell HH5.out 1
      have hB5 := HB4.out.trans (HB5.out.mono HB4.out.size)
      have HE5 := Sec.mk (HE.out.below hB5)
      have HB55 := Sec.mk (HB22.out.trans ((HB.out.trans (hB5.mono HB.out.size)).mono HB22.out.size))
      have HB52 := Sec.mk (HB.out.trans (hB5.mono HB.out.size))
      have hz0 : ((0 : Int) != 0) = false := rfl
      have HRW5 := Sec.mk (row_below HRW.out hB5)
      have hle : wr.heap.size ≤ w4.heap.size := HB4.out.size
      clear hB5
      have hw : IntKind.i64.wrap ((k : Int) + (n : Int)) = (k : Int) + (n : Int) := IntWalk.i64_in _ (by omega)
      have hcut2 := fun W : World => run_cut_mid (P := Try.prog) 51 5 .i64 .i64 Try.underlying51 Try.info5 A2 tl c2 k (k + n) (by omega) (by omega) W
      rw [show k + n - k = n by omega, show ((k + n : Nat) : Int) = (k : Int) + (n : Int) by omega] at hcut2
      by_cases hbad : 0 < es.length ∧ r.lsn ≤ lastOf (es.map En.pair)
      · obtain ⟨hpos, hcmp⟩ := hbad
        have hposi : decide ((0 : Int) < (es.length : Int)) = true := by simp; omega
        obtain ⟨b, o, rfl, hc⟩ : ∃ b o, A3 = some ⟨b, o, none⟩ ∧ ∀ m u, (es.flatMap En.cs)[m]? = some u → W5.cell? ⟨b, o + m, none⟩ = some u := by
          obtain ⟨_, _, A', c', e, _, _, h5⟩ := Sl.of_row HE5.out.row (by omega)
          injection e with e1 e2 e3
          subst e1 e3
          obtain ⟨b, o, e, _, h7⟩ := h5 (by omega)
          exact ⟨b, o, e, h7⟩
        have hlast := hc ((es.length - 1) * 13 + 1) _ ((flat_get En.cs 13 (fun _ => rfl) es (es.length - 1) 1 (by omega) (by omega)).trans rfl)
        rw [← Nat.add_assoc] at hlast
        have hlo := lastOf_ens es hpos
        rw [← hlo] at hlast
        have HLO := Sec.mk hlo
        clear hlo hc hw hcut2
        generalize lastOf (es.map En.pair) = last at *
        have HCMP := Sec.mk hcmp
        go_quiet (fail)
        go_wp2
        go_ret2
        rw [HSC.out, scanP_stop _ _ _ _ HUN.out HCMP.out, List.append_nil]
        exact ⟨_, es, by rw [HSZ.out]; rfl, below_drewN_ens HE5.out _, rfl, below_drewN HB55.out _⟩
      · have hgood : ¬ r.lsn ≤ lastOf (es.map En.pair) := by
          intro h
          have h0 : es.length = 0 := by
            rcases Nat.eq_zero_or_pos es.length with h0 | h0
            · exact h0
            · exact (hbad ⟨h0, h⟩).elim
          have : es = [] := List.eq_nil_of_length_eq_zero h0
          subst this
          have := HMAY.out.2.2.1.1
          simp [lastOf] at h
          omega
        have HG := Sec.mk hgood
        have hsp : scanP 0 buf = (es ++ [En.mk r ((buf.drop k).take n) (.slice A5 r.txns.length c5) (.slice A6 r.dirty.length c6) (.slice (cutA A2 c2 k) n (c2 - k))]).map En.pair ++ scanP (lastOf ((es ++ [En.mk r ((buf.drop k).take n) (.slice A5 r.txns.length c5) (.slice A6 r.dirty.length c6) (.slice (cutA A2 c2 k) n (c2 - k))]).map En.pair)) (buf.drop (k + n)) := by
          rw [HSC.out, scanP_more _ _ _ _ HUN.out hgood, List.map_append, List.append_assoc]
          congr 1
          rw [List.map_singleton, lastOf_snoc, List.drop_drop]
          rfl
        have HSP := Sec.mk hsp
        have hrow5 : EnOk W5 w.heap.size db (En.mk r ((buf.drop k).take n) (.slice A5 r.txns.length c5) (.slice A6 r.dirty.length c6) (.slice (cutA A2 c2 k) n (c2 - k))) := by
          have htk : ((buf.drop k).take n).length = n := by rw [List.length_take, HDL.out]; omega
          refine ⟨(HRR.out.under HB5.out).lower hdb2, ?_, HMAY.out.2.2.2.2.2.2.2.2.2.1.1, HMAY.out.2.2.2.2.2.2.2.2.2.2.1⟩
          have hS := HBUF.out.kept (P := fun _ _ => False) (Kept.of HB52.out) (fun _ _ h => h)
          rw [← HBL.out] at hS
          have hS1 := sl_drop_bv hS k (by rw [HBL.out]; omega)
          rw [HBL.out, ← HDL.out] at hS1
          have hS2 := sl_take_bv hS1 n (by rw [HDL.out]; omega)
          exact hS2
        have HR5 := Sec.mk hrow5
        clear hbad hgood hsp hrow5
        by_cases h0 : es.length = 0
        case' pos =>
          have hposi : decide (0 < es.length) = false := decide_eq_false (by omega)
          have H0 := Sec.mk h0
          clear h0 HG
          go_quiet (fail)
        case' neg =>
          have hpos : 0 < es.length := by omega
          have hposi : decide ((0 : Int) < (es.length : Int)) = true := by simp; omega
          obtain ⟨b, o, rfl, hc⟩ : ∃ b o, A3 = some ⟨b, o, none⟩ ∧ ∀ m u, (es.flatMap En.cs)[m]? = some u → W5.cell? ⟨b, o + m, none⟩ = some u := by
            obtain ⟨_, _, A', c', e, _, _, h5⟩ := Sl.of_row HE5.out.row (by omega)
            injection e with e1 e2 e3
            subst e1 e3
            obtain ⟨b, o, e, _, h7⟩ := h5 (by omega)
            exact ⟨b, o, e, h7⟩
          have hlast := hc ((es.length - 1) * 13 + 1) _ ((flat_get En.cs 13 (fun _ => rfl) es (es.length - 1) 1 (by omega) (by omega)).trans rfl)
          rw [← Nat.add_assoc, ← lastOf_ens es hpos] at hlast
          have hcmp := HG.out
          clear hc h0 HG
          generalize lastOf (es.map En.pair) = last at *
          go_quiet (fail)
        all_goals
          go_wp2_with fail
          have HE6 := Sec.mk (below_drewN_ens HE5.out nq)
          have HR6 := Sec.mk (HR5.out.below (below_drewN (Below.refl _ W5) nq))
          have HB6 := Sec.mk (below_drewN HB55.out nq)
          have HRW6 := Sec.mk (row_below HRW5.out (below_drewN (Below.refl _ W5) nq))
          have HB62 := Sec.mk (below_drewN HB52.out nq)
          have hbx6 : (W5.drewN nq).heap[w4.heap.size]? = some (.cells (rcs r (.slice A5 r.txns.length c5) (.slice A6 r.dirty.length c6)).toArray 41) := HH5.out
          have hs6 : w2.heap.size ≤ (W5.drewN nq).heap.size := HB62.out.size
          generalize W5.drewN nq = W6 at *
          obtain ⟨q0, q1, q2, q3, q4, q5, q6, q7, q8, q9, q10, q11⟩ := box12 hbx6
          clear hbx6 hq1
          go_region_law (
            (refine step_app w2.heap.size (by rfl) (.tmp 51) (.tmp 60) 87 95 (.agg (cell12 ++ [Value.slice none 0 0]).toArray) 13 176 (by rfl) Try.underlying87 info95 rfl (by decide) (by decide) _ (by rfl) (.slice (some ⟨W6.heap.size, 0, none⟩) 1 1) (by rfl) es.length (es.flatMap En.cs) ((HRW6.out.alloc _).drew) (fun b => b = W6.heap.size) 1
               (ecs r (.slice A5 r.txns.length c5) (.slice A6 r.dirty.length c6) (.slice (cutA A2 c2 k) n (c2 - k))) (sl_box W6.heap.size 13 1 (bk_drew (bk_new W6 _)) rfl (by omega)) (ecs_one' r _ _ _ _ _ _ _ _ _) (by simp; omega) (by omega) ?_
             intro A8 c8 w8 g1 g2 g3
             have H8 := Sec.mk (And.intro g1 g2)
             clear g1 g2 g3))
          have hal : Below W6.heap.size W6 ((W6.alloc (.cells (ecs r (.slice A5 r.txns.length c5) (.slice A6 r.dirty.length c6) (.slice (cutA A2 c2 k) n (c2 - k))).toArray 95)).drew) := ((Below.refl _ _).alloc (Nat.le_refl _) _).drew
          have hE8 : EnsAt w8 w.heap.size db (.slice A8 (es.length + 1) c8) (es ++ [En.mk r ((buf.drop k).take n) (.slice A5 r.txns.length c5) (.slice A6 r.dirty.length c6) (.slice (cutA A2 c2 k) n (c2 - k))]) :=
            (HE6.out.below hal).grown (HR6.out.below hal) H8.out.2 (row_lower H8.out.1 HB22.out.size)
          have hB8 : Below w2.heap.size w2 w8 := (HB62.out.trans (hal.mono hs6)).grown H8.out.2 (by simp; omega) (row_base (row_below HRW6.out hal))
          have htk : ((buf.drop k).take n).length = n := by rw [List.length_take, HDL.out]; omega
          have H88 := Sec.mk (And.intro hE8 (And.intro hB8 (And.intro htk H8.out.1)))
          clear hal hE8 hB8 htk q0 q1 q2 q3 q4 q5 q6 q7 q8 q9 q10 q11 hcut2
          go_wp2
          go_roundw
          case rel => exact ⟨es ++ [En.mk r ((buf.drop k).take n) (.slice A5 r.txns.length c5) (.slice A6 r.dirty.length c6) (.slice (cutA A2 c2 k) n (c2 - k))], k + n, by omega, by go_num, H88.out.1, by rw [List.map_append, List.map_singleton, sizeOfL_snoc, HSZ.out]; simp only [En.pair]; rw [H88.out.2.2.1], HSP.out, by simp; omega, H88.out.2.1, by simpa [En.cs] using H88.out.2.2.2⟩
          case measure => simp [intOf]; omega
end Go.Proofs.Ytgnlhjphmaikkaa
