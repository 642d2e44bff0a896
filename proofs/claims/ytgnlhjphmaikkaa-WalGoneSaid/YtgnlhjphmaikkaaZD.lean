/- Package wal, walked: Force. Conditions: as each statement says. -/
import Derived.Test.YtgnlhjphmaikkaaZC
import Derived.BigRegion
set_option linter.unusedVariables false
set_option linter.unusedSimpArgs false
namespace Go.Proofs.Ytgnlhjphmaikkaa
open Go.RowKit

theorem info99 : (Try.prog.info? 99).map (fun i => (i.zero, i.size, i.bytes)) = some (some .nilIface, 1, 16) := by kernel_rfl
theorem meth95 (v : Value) (W : World) : (method 296 95 v "flotilla/wal.lay").run Try.prog W = .ok (128, v) W := by kernel_rfl
theorem meth97 (v : Value) (W : World) : (method 296 97 v "flotilla/wal.lay").run Try.prog W = .ok (44, v) W := by kernel_rfl
def lays (es : List En) : List Value := es.map fun e => .iface 95 (.agg e.cs.toArray)
def framesOf (l : List (PRec × List UInt8)) : List UInt8 := (l.map (·.2)).flatten
theorem framesOf_length (l : List (PRec × List UInt8)) : (framesOf l).length = sizeOfL l := by
  simp [framesOf, sizeOfL, List.length_flatten, List.map_map, Function.comp_def]
theorem framesOf_snoc (l : List (PRec × List UInt8)) (x : PRec × List UInt8) : framesOf (l ++ [x]) = framesOf l ++ x.2 := by simp [framesOf]
theorem sizeOfL_append (a b : List (PRec × List UInt8)) : sizeOfL (a ++ b) = sizeOfL a + sizeOfL b := by simp [sizeOfL]
theorem sizeOfL_take (l : List (PRec × List UInt8)) (k : Nat) : sizeOfL (l.take k) ≤ sizeOfL l := by
  have := sizeOfL_append (l.take k) (l.drop k)
  rw [List.take_append_drop] at this; omega
section
variable {w : World} {B lg dg db : Nat} {G : PLog} {D : PDev}
set_option maxRecDepth 100000 in
set_option maxHeartbeats 1600000 in
theorem Force_no (H : LogAt w B lg dg db G D) (h : 0 < G.flies ∨ G.stable = G.l.length) :
    Calls Try.prog 13 #[.pointer (some ⟨lg, 0, none⟩)] w fun e w' => e = .returned (.bool false) ∧ Below w.heap.size w w' := by
  obtain ⟨A, c, es, k1, k2, k3, k4⟩ := H.cell
  have c5 : w.cell? ⟨lg, 5, none⟩ = some (.int .i64 (G.flies : Nat)) := bk_cell k1 5
  have c4 : w.cell? ⟨lg, 4, none⟩ = some (.int .i64 (G.stable : Nat)) := bk_cell k1 4
  have c2 : w.cell? ⟨lg, 2, none⟩ = some (.slice A G.l.length c) := bk_cell k1 2
  clear H k1 k2 k3 k4
  by_cases hf : 0 < G.flies
  · clear h
    have hd : decide (0 < G.flies) = true := decide_eq_true hf
    go_enter Try.func13, Try.ntmps13
    go_wp2_with fail
    go_quiet (fail)
    go_wp2
    go_ret
    exact ⟨rfl, below_drewN (Below.refl _ _) _⟩
  · have hs := h.resolve_left hf
    have hd : decide (0 < G.flies) = false := decide_eq_false hf
    have he : ((G.stable : Int) == (G.l.length : Int)) = true := by rw [hs]; simp
    clear h hs hf
    go_enter Try.func13, Try.ntmps13
    go_wp2_with fail
    go_quiet (fail)
    go_wp2
    go_ret
    exact ⟨rfl, below_drewN (Below.refl _ _) _⟩
/-- A write of all that isn't stable begins. -/
def PLog.at0 (G : PLog) : Nat := sizeOfL (G.l.take G.stable) - sizeOfL (G.l.take G.stable) % 64
/-- What a log and its device may change. -/
def Pwal (lg dg db B : Nat) : Nat → TypeId → Prop := fun b t => Plg lg B b t ∨ (b = dg ∧ t = 84) ∨ (b = db ∧ t = 5)
def forceG (G : PLog) : PLog := { G with flies := G.l.length, marked := G.size, twice := false }
def forceD (G : PLog) (D : PDev) : PDev := D.start G.hand (64 + G.at0) ((fillTo (framesOf G.l)).drop G.at0)
set_option maxRecDepth 100000 in
set_option maxHeartbeats 3200000 in
theorem Force_any (H : LogAt w B lg dg db G D) (hf : G.flies = 0) (hs : G.stable < G.l.length) (hu : D.up[G.hand]? = some none) (h64 : D.b.length % 64 = 0) :
    Calls Try.prog 13 #[.pointer (some ⟨lg, 0, none⟩)] w fun e w' => e = .returned (.bool true) ∧ LogAt w' B lg dg db (forceG G) (forceD G D) ∧ Kept (Pwal lg dg db B) w w' := by
  obtain ⟨A, c, es, k1, k2, k3, k4⟩ := H.cell
  have HK := Sec.mk (And.intro k1 (And.intro k2 (And.intro k3 k4)))
  have HH := Sec.mk H
  have h6 := H.ok.six
  have hft := H.ok.fits
  have hl := H.dev.ok.2.1
  have hc5 : w.cell? ⟨lg, 5, none⟩ = some (.int .i64 (0 : Nat)) := by rw [← hf]; exact bk_cell k1 5
  have hc4 : w.cell? ⟨lg, 4, none⟩ = some (.int .i64 (G.stable : Nat)) := bk_cell k1 4
  have hc2 : w.cell? ⟨lg, 2, none⟩ = some (.slice A G.l.length c) := bk_cell k1 2
  have he : ((G.stable : Int) == (G.l.length : Int)) = false := by simp; omega
  have HOT := Sec.mk (And.intro hf (And.intro hu h64))
  clear H k1 k2 k3 k4 hf hu h64
  go_enter Try.func13, Try.ntmps13
  go_wp2_with fail
  go_quiet (fail)
  have HB0 := Sec.mk (below_drewN (Below.refl w.heap.size w) nq)
  have hz0 := HB0.out.size
  have hd2 : (w.drewN nq).cell? ⟨lg, 2, none⟩ = some (.slice A G.l.length c) := hc2
  clear hc5 hc2
  generalize w.drewN nq = W0 at *
  go_wp2_with fail
  clear hd2 he
  have hnl : G.l.length ≤ 100000 := by omega
  go_loopw [3, 4, 36] (fun a v i wr => ∃ k : Nat, k ≤ G.l.length ∧ i = .int .i64 k ∧ a = .int .i64 (sizeOfL (G.l.take (min k G.stable)) : Nat) ∧ wr.ownsRow w.heap.size 99 1 v k (lays (es.take k)) ∧ Below w.heap.size w wr) (fun _ _ i _ => G.l.length - (intOf i).toNat)
  case atStart => exact ⟨0, by omega, rfl, by simp [sizeOfL], by simpa [lays] using World.ownsRow_nil _ _ _ _, HB0.out⟩
  case round =>
    obtain ⟨k, hk, rfl, rfl, hrow, hB⟩ := hrel
    have HR := Sec.mk hrow
    have HB := Sec.mk hB
    have hE := HK.out.2.1.below hB
    have hwr := hB.size
    have c4 : wr.cell? ⟨lg, 4, none⟩ = some (.int .i64 (G.stable : Nat)) := (hB.cell (bk_lt HK.out.1)).trans hc4
    obtain ⟨A7, c7, rfl⟩ := row_shape hrow
    clear hrow hB
    by_cases hlt : k < G.l.length
    · have hlti : (k : Int) < (G.l.length : Int) := by omega
      have hkl : k < es.length := by have := HK.out.2.2.2; omega
      obtain ⟨b, o, rfl, hc⟩ : ∃ b o, A = some ⟨b, o, none⟩ ∧ ∀ m u, (es.flatMap En.cs)[m]? = some u → wr.cell? ⟨b, o + m, none⟩ = some u := by
        have hr := hE.row
        rw [HK.out.2.2.2] at hr
        obtain ⟨_, _, A', c', e, _, _, h5⟩ := Sl.of_row hr (by omega)
        injection e with e1 e2 e3
        subst e1 e3
        obtain ⟨b, o, e, _, h7⟩ := h5 (by omega)
        exact ⟨b, o, e, h7⟩
      have hrg : wr.rangeAt b (o + k * 13) (es[k]).cs := fun m u hu => by
        have hm : m < 13 := (List.getElem?_eq_some_iff.1 hu).1
        rw [Nat.add_assoc]
        exact hc _ _ ((flat_get En.cs 13 (fun _ => rfl) es k m hkl hm).trans hu)
      have hpair : G.l[k]? = some (En.pair es[k]) := by rw [← HK.out.2.2.1, List.getElem?_map, List.getElem?_eq_getElem hkl]; rfl
      have hek := hE.all es[k] (List.getElem_mem hkl)
      have htk : es.take (k + 1) = es.take k ++ [es[k]] := by rw [List.take_add_one]; simp [hkl]
      have hstep : sizeOfL (G.l.take (min (k + 1) G.stable)) = sizeOfL (G.l.take (min k G.stable)) + (if k < G.stable then (es[k]).b.length else 0) := by
        by_cases hks : k < G.stable
        · rw [if_pos hks, show min (k + 1) G.stable = k + 1 by omega, show min k G.stable = k by omega, List.take_add_one, hpair]
          simp only [Option.toList]
          rw [sizeOfL_snoc]; rfl
        · rw [if_neg hks, show min (k + 1) G.stable = G.stable by omega, show min k G.stable = G.stable by omega]; rfl
      have hsm := sizeOfL_take G.l (min (k + 1) G.stable)
      rw [← HH.out.ok.size] at hsm
      have HTK := Sec.mk (And.intro htk hstep)
      have hbl : sizeOfL (G.l.take (min k G.stable)) + (if k < G.stable then (es[k]).b.length else 0) ≤ G.size := by omega
      have HBL := Sec.mk hbl
      have hsh := hek.rr.shape
      have hvb : ∃ A c, (es[k]).vb = .slice A (es[k]).b.length c := by obtain ⟨_, _, A, c, e, _⟩ := hek.b; exact ⟨A, c, e⟩
      clear htk hstep hc hpair hE hek hbl hsm
      generalize es[k] = e0 at *
      obtain ⟨r, fb, vt, vd, vb⟩ := e0
      simp only [En.cs] at hrg HTK HBL hsh hvb
      obtain ⟨⟨A1, c1, rfl⟩, A2, c2, rfl⟩ := hsh
      obtain ⟨A3, c3, rfl⟩ := hvb
      have HRG := Sec.mk hrg
      clear hrg
      go_upto_region 8 with (first
        | (refine wpList_load_mid rfl 95 (.tmp 40) rfl b (o + k * 13) rfl _ _ HRG.out Try.underlying95 rfl (size95.trans rfl) ?_)
        | (refine wpList_load_mid rfl 95 (.tmp 39) rfl b (o + k * 13) rfl _ _ HRG.out Try.underlying95 rfl (size95.trans rfl) ?_)
        | (refine list_box rfl 95 _ _ rfl _ rfl rfl (size95.trans rfl) rfl (ecs_one _ _ _ _ _ _ _ _ _ _) ?_; intro W5 hb5 hz5 hh5; have HB5 := Sec.mk hb5; have HH5 := Sec.mk hh5; have HZ5 := Sec.mk hz5; clear hb5 hz5 hh5))
      have h5 : Below w.heap.size w W5 := HB.out.trans (HB5.out.mono hwr)
      have hs5 := h5.size
      have H5 := Sec.mk (And.intro h5 (row_below HR.out HB5.out))
      have c45 : W5.cell? ⟨lg, 4, none⟩ = some (.int .i64 (G.stable : Nat)) := (HB5.out.cell (World.block_lt_of_cell? wr _ c4)).trans c4
      have q12 : W5.cell? ⟨wr.heap.size, 12, none⟩ = some (.slice A3 fb.length c3) := bk_cell HH5.out 12
      clear h5 c4
      obtain ⟨X, HX⟩ : ∃ X, Sec (sizeOfL (G.l.take (min k G.stable)) = X) := ⟨_, ⟨rfl⟩⟩
      obtain ⟨Y, HY⟩ : ∃ Y, Sec (sizeOfL (G.l.take (min (k + 1) G.stable)) = Y) := ⟨_, ⟨rfl⟩⟩
      have hxy := HTK.out.2
      have hbl := HBL.out
      rw [HX.out] at hxy hbl ⊢
      rw [HY.out] at hxy
      have HXY := Sec.mk hxy
      clear hxy
      by_cases hks : k < G.stable
      · rw [if_pos hks] at hbl
        have hw : IntKind.i64.wrap ((X : Int) + (fb.length : Int)) = (X : Int) + (fb.length : Int) := IntWalk.i64_in _ (by omega)
        have hksi : (k : Int) < (G.stable : Int) := by omega
        have HHK := Sec.mk hks
        clear hks hbl
        go_wp2_with (first
          | (refine wpList_load_row rfl 95 (.tmp 6) rfl wr.heap.size rfl 95 _ (0, 0) _ HH5.out Try.underlying95 rfl (size95.trans rfl) ?_)
          | (refine list_app w.heap.size rfl (.tmp 52) (.tmp 55) 93 99 .nilIface 1 16 rfl Try.underlying93 info99 rfl (by decide) (by decide) (.slice A7 k c7) rfl (.slice (some ⟨W5.heap.size, 0, none⟩) 1 1) rfl k (lays (es.take k)) (H5.out.2.alloc _) (fun b => b = W5.heap.size) 1 [.iface 95 (.agg (ecs r (.slice A1 r.txns.length c1) (.slice A2 r.dirty.length c2) (.slice A3 fb.length c3)).toArray)] (sl_box W5.heap.size 1 1 (bk_new W5 _) rfl (by omega)) (by simp [Value.oneCell']) (by simp; omega) (by omega) ?_
             intro A8 c8 w8 g1 g2 g3
             have H8 := Sec.mk (And.intro g1 g2)
             clear g1 g2 g3))
        have hal : Below w.heap.size w (W5.alloc (.cells #[.iface 95 (.agg (ecs r (.slice A1 r.txns.length c1) (.slice A2 r.dirty.length c2) (.slice A3 fb.length c3)).toArray)] 99)) := H5.out.1.alloc hs5 _
        have h8 : Below w.heap.size w w8 := hal.grown H8.out.2 (by simp; omega) (row_base H5.out.2)
        have H88 := Sec.mk (And.intro h8 H8.out.1)
        clear hal h8
        go_roundw
        case rel =>
          refine ⟨k + 1, by omega, by go_num, ?_, ?_, H88.out.1⟩
          · rw [HY.out, HXY.out, if_pos HHK.out]; simp
          · rw [HTK.out.1]; simpa [lays, En.cs] using H88.out.2
        case measure => simp [intOf]; omega
      · have hksi : ¬ (k : Int) < (G.stable : Int) := by omega
        have HHK := Sec.mk hks
        clear hks hbl
        go_wp2_with (first
          | (refine wpList_load_row rfl 95 (.tmp 6) rfl wr.heap.size rfl 95 _ (0, 0) _ HH5.out Try.underlying95 rfl (size95.trans rfl) ?_)
          | (refine list_app w.heap.size rfl (.tmp 52) (.tmp 55) 93 99 .nilIface 1 16 rfl Try.underlying93 info99 rfl (by decide) (by decide) (.slice A7 k c7) rfl (.slice (some ⟨W5.heap.size, 0, none⟩) 1 1) rfl k (lays (es.take k)) (H5.out.2.alloc _) (fun b => b = W5.heap.size) 1 [.iface 95 (.agg (ecs r (.slice A1 r.txns.length c1) (.slice A2 r.dirty.length c2) (.slice A3 fb.length c3)).toArray)] (sl_box W5.heap.size 1 1 (bk_new W5 _) rfl (by omega)) (by simp [Value.oneCell']) (by simp; omega) (by omega) ?_
             intro A8 c8 w8 g1 g2 g3
             have H8 := Sec.mk (And.intro g1 g2)
             clear g1 g2 g3))
        have hal : Below w.heap.size w (W5.alloc (.cells #[.iface 95 (.agg (ecs r (.slice A1 r.txns.length c1) (.slice A2 r.dirty.length c2) (.slice A3 fb.length c3)).toArray)] 99)) := H5.out.1.alloc hs5 _
        have h8 : Below w.heap.size w w8 := hal.grown H8.out.2 (by simp; omega) (row_base H5.out.2)
        have H88 := Sec.mk (And.intro h8 H8.out.1)
        clear hal h8
        go_roundw
        case rel =>
          refine ⟨k + 1, by omega, by go_num, ?_, ?_, H88.out.1⟩
          · rw [HY.out, HXY.out, if_neg HHK.out]; simp
          · rw [HTK.out.1]; simpa [lays, En.cs] using H88.out.2
        case measure => simp [intOf]; omega
    · obtain rfl : k = G.l.length := by omega
      have hmin : min G.l.length G.stable = G.stable := by omega
      rw [hmin]
      have htk : es.take G.l.length = es := by rw [← HK.out.2.2.2, List.take_length]
      have hr2 := HR.out
      rw [htk] at hr2
      have HR2 := Sec.mk hr2
      have HELEN := Sec.mk HK.out.2.2.2
      have hat := sizeOfL_take G.l G.stable
      rw [← HH.out.ok.size] at hat
      have hat2 : sizeOfL (G.l.take G.stable) < G.size := by
        have e1 : G.l.take (G.stable + 1) = G.l.take G.stable ++ [G.l[G.stable]] := by rw [List.take_add_one]; simp [hs]
        have e2 := sizeOfL_take G.l (G.stable + 1)
        rw [e1, sizeOfL_snoc, ← HH.out.ok.size] at e2
        have e3 := HH.out.ok.each G.l[G.stable] (List.getElem_mem hs)
        omega
      obtain ⟨AT, HAT⟩ : ∃ AT, Sec (sizeOfL (G.l.take G.stable) = AT) := ⟨_, ⟨rfl⟩⟩
      rw [HAT.out] at hat hat2 ⊢
      clear htk hr2 HR hlt hmin hE c4
      go_upto_region 14 with (
          (refine list_app w.heap.size rfl (.tmp 58) (.tmp 61) 93 99 .nilIface 1 16 rfl Try.underlying93 info99 rfl (by decide) (by decide) (.slice A7 G.l.length c7) rfl (.slice (some ⟨wr.heap.size, 0, none⟩) 1 1) rfl G.l.length (lays es) (HR2.out.alloc _) (fun b => b = wr.heap.size) 1 [.iface 97 (.agg #[])] (sl_box wr.heap.size 1 1 (bk_new wr _) rfl (by omega)) (by simp [Value.oneCell']) (by simp; omega) (by omega) ?_
           intro A8 c8 w8 g1 g2 g3
           have h8 : Below w.heap.size w w8 := (HB.out.alloc hwr _).grown g2 (by simp; omega) (row_base HR2.out)
           have H8 := Sec.mk (And.intro h8 g1)
           clear g1 g2 g3 h8))
      have hws8 := H8.out.1.size
      have HLR := Sec.mk H8.out.2
      obtain ⟨bb, ob, rfl, hcl⟩ : ∃ b o, A8 = some ⟨b, o, none⟩ ∧ ∀ m u, (lays es ++ [Value.iface 97 (.agg #[])])[m]? = some u → w8.cell? ⟨b, o + m, none⟩ = some u := by
        obtain ⟨_, _, A', c', e, _, _, h5⟩ := Sl.of_row H8.out.2 (by omega)
        injection e with e1 e2 e3
        subst e1 e3
        obtain ⟨b, o, e, _, h7⟩ := h5 (by omega)
        exact ⟨b, o, e, h7⟩
      have HCL := Sec.mk hcl
      have hbbl : bb < w8.heap.size := by
        have := hcl 0 ((lays es ++ [Value.iface 97 (.agg #[])])[0]'(by simp)) (List.getElem?_eq_getElem _)
        exact World.block_lt_of_cell? w8 _ this
      clear hcl
      obtain ⟨AP, hat64, hap1, hap2⟩ : ∃ AP : Nat, (AT : Int) - (AT : Int) % 64 = (AP : Int) ∧ AP = AT - AT % 64 ∧ AP ≤ AT := ⟨AT - AT % 64, by omega, rfl, by omega⟩
      have hap3 : AP % 64 = 0 := by omega
      have HAP := Sec.mk (And.intro hap1 hap3)
      clear hap1 hap3
      have hsz : (framesOf G.l).length = G.size := by rw [framesOf_length, ← HH.out.ok.size]
      have HSZ := Sec.mk hsz
      have hEl := HK.out.2.2.2
      have HEL := Sec.mk hEl
      clear hsz hEl
      go_loopw [7, 64] (fun v i wx => ∃ j : Nat, j ≤ G.l.length + 1 ∧ i = .int .i64 j ∧ ∃ (bs : List UInt8) (A9 : Option Addr) (c9 : Nat), v = .slice A9 bs.length c9 ∧ bs.length ≤ G.size + 64 ∧ (j ≤ G.l.length → bs = framesOf (G.l.take j)) ∧ (j = G.l.length + 1 → bs = fillTo (framesOf G.l)) ∧ wx.ownsRow w8.heap.size 5 1 (.slice A9 bs.length c9) bs.length (bv bs) ∧ Below w8.heap.size w8 wx) (fun _ i _ => G.l.length + 1 - (intOf i).toNat)
      case atStart => exact ⟨0, by omega, rfl, [], none, 0, rfl, by simp, fun _ => by simp [framesOf], fun h => by omega, by simpa [bv] using World.ownsRow_nil _ _ _ _, Below.refl _ _⟩
      case round =>
        obtain ⟨j, hj, rfl, bs, A9, c9, rfl, hbl, hb1, hb2, hrow, hB⟩ := hrel
        have HR9 := Sec.mk hrow
        have HB9 := Sec.mk hB
        have HB1 := Sec.mk (And.intro hb1 hb2)
        have hwx := hB.size
        clear hrow hB hb1 hb2
        by_cases hjl : j < G.l.length
        · have hjli : (j : Int) < (G.l.length : Int) + 1 := by omega
          have hje : j < es.length := by have := HEL.out; omega
          have hcell := HCL.out j (.iface 95 (.agg (es[j]).cs.toArray)) (by rw [List.getElem?_append_left (by simpa [lays] using hje)]; simp [lays, hje])
          have hcx : wr.cell? ⟨bb, ob + j, none⟩ = some (.iface 95 (.agg (es[j]).cs.toArray)) := (HB9.out.cell hbbl).trans hcell
          have hek := ((HK.out.2.1.below H8.out.1).below HB9.out).all es[j] (List.getElem_mem hje)
          have hsh := hek.rr.shape
          have hvb : ∃ A c, (es[j]).vb = .slice A (es[j]).b.length c := by obtain ⟨_, _, A, c, e, _⟩ := hek.b; exact ⟨A, c, e⟩
          have hpair : G.l[j]? = some (En.pair es[j]) := by rw [← HK.out.2.2.1, List.getElem?_map, List.getElem?_eq_getElem hje]; rfl
          have hfr : framesOf (G.l.take (j + 1)) = framesOf (G.l.take j) ++ (es[j]).b := by
            rw [List.take_add_one, hpair]; simp only [Option.toList]; rw [framesOf_snoc]; rfl
          have hbs := HB1.out.1 (by omega)
          rw [← hbs] at hfr
          have hlen : (bs ++ (es[j]).b).length ≤ G.size := by
            rw [← hfr, framesOf_length]; have := sizeOfL_take G.l (j + 1); rw [← HH.out.ok.size] at this; exact this
          have HFR := Sec.mk hfr
          have HVB := Sec.mk hek.b
          clear hcell hek hpair hfr hbs
          generalize es[j] = e0 at *
          obtain ⟨r, fb, vt, vd, vb⟩ := e0
          simp only [En.cs] at hcx hsh hvb HFR HVB hlen
          obtain ⟨⟨A1, c1, rfl⟩, A2, c2, rfl⟩ := hsh
          obtain ⟨A3, c3, rfl⟩ := hvb
          have hlen2 : bs.length + fb.length ≤ G.size := by simpa using hlen
          obtain ⟨ys, HYS⟩ : ∃ ys, Sec (bs ++ fb = ys) := ⟨_, ⟨rfl⟩⟩
          have hc0 := (elay_any w8.heap.size (.slice A9 bs.length c9) bs fb r A1 A2 r.txns.length r.dirty.length c1 c2 _ (.slice A3 fb.length c3) wr (by omega) hwx HR9.out HVB.out)
          rw [HYS.out] at hc0 HFR
          have HC := Sec.mk hc0
          clear hc0
          clear hlen
          have hme := meth95
          go_wp2_with (go_at_call 128; refine HC.out.mono ?_; rintro e w10 ⟨v10, rfl, g1, g2⟩; obtain ⟨A10, c10, rfl⟩ := row_shape g1; have G1 := Sec.mk g1; have G2 := Sec.mk g2; clear g1 g2)
          have hB10 := HB9.out.trans G2.out
          have HB10 := Sec.mk hB10
          clear hB10
          have hyl : ys.length ≤ G.size := by rw [← HYS.out]; simpa using hlen2
          go_roundw
          case rel => exact ⟨j + 1, by omega, by go_num, ys, A10, c10, rfl, by omega, fun _ => HFR.out.symm, fun h => by omega, G1.out, HB10.out⟩
          case measure => simp [intOf]; omega
        · by_cases hjn : j = G.l.length
          · subst hjn
            have hjli : (G.l.length : Int) < (G.l.length : Int) + 1 := by omega
            have hcell := HCL.out G.l.length (.iface 97 (.agg #[])) (by rw [List.getElem?_append_right (by simp [lays, HEL.out])]; simp [lays, HEL.out])
            have hcx : wr.cell? ⟨bb, ob + G.l.length, none⟩ = some (.iface 97 (.agg #[])) := (HB9.out.cell hbbl).trans hcell
            have hbs := HB1.out.1 (Nat.le_refl _)
            rw [List.take_length] at hbs
            have HBS := Sec.mk hbs
            have hbl2 : bs.length = G.size := by rw [hbs]; exact HSZ.out
            have HBL2 := Sec.mk hbl2
            obtain ⟨ys, HYS⟩ : ∃ ys, Sec (fillTo bs = ys) := ⟨_, ⟨rfl⟩⟩
            have hc0 := (fill_any w8.heap.size (.slice A9 bs.length c9) bs wr (by omega) hwx HR9.out)
            rw [HYS.out] at hc0
            have HC := Sec.mk hc0
            clear hc0
            clear hcell hbs hbl2
            have hme := meth97
            go_wp2_with (go_at_call 44; refine HC.out.mono ?_; rintro e w10 ⟨v10, rfl, g1, g2⟩; obtain ⟨A10, c10, rfl⟩ := row_shape g1; have G1 := Sec.mk g1; have G2 := Sec.mk g2; clear g1 g2)
            have HB10 := Sec.mk (HB9.out.trans G2.out)
            have hfl := (fillTo_length bs).2.2
            rw [HBL2.out] at hfl
            rw [HYS.out] at hfl
            go_roundw
            case rel => exact ⟨G.l.length + 1, by omega, by go_num, ys, A10, c10, rfl, by omega, fun h => by omega, fun _ => by rw [← HYS.out, HBS.out], G1.out, HB10.out⟩
            case measure => simp [intOf]
          · obtain rfl : j = G.l.length + 1 := by omega
            have hbs := HB1.out.2 rfl
            have HBS := Sec.mk hbs
            have hjli : ¬ (G.l.length : Int) + 1 < (G.l.length : Int) + 1 := by omega
            clear hbs hjl hjn
            go_upto_region 19 with fail
            have hbl3 := fillTo_length (framesOf G.l)
            rw [← HBS.out, HSZ.out] at hbl3
            obtain ⟨hm0, hm1, hm2⟩ := hbl3
            have hBall := H8.out.1.trans (HB9.out.mono hws8)
            have hdev := (HH.out.dev.below hBall).below (Below.refl _ _).drew
            have hlg := bk_below HK.out.1 hBall (bk_lt HK.out.1)
            have hc0 : wr.cell? ⟨lg, 0, none⟩ = some (.pointer (some ⟨dg, 0, none⟩)) := bk_cell hlg 0
            have hc1 : wr.cell? ⟨lg, 1, none⟩ = some (.int .i64 (G.hand : Nat)) := bk_cell hlg 1
            have hcap : bs.length ≤ c9 := by obtain ⟨_, _, A', c', e, h, _⟩ := Sl.of_row_bv HR9.out (by omega); injection e with _ _ e; omega
            have hcut := fun W : World => run_cut (P := Try.prog) 51 5 .i64 Try.underlying51 Try.info5 A9 bs.length c9 AP (by omega) W
            have hwap : IntKind.i64.wrap (64 + (AP : Int)) = 64 + (AP : Int) := IntWalk.i64_in _ (by omega)
            have hd64 := HOT.out.2.2
            have hS := (sl_drop_bv (Sl.of_row_bv HR9.out (by omega)) AP (by omega)).below (Below.refl _ wr).drew
            have hap3 := HAP.out.2
            have hst := Start_any dg db D G.hand (64 + AP) _ _ (bs.drop AP) _ hdev hS HH.out.ok.hand (by omega) (by rw [List.length_drop]; omega) (by rw [List.length_drop]; omega) (by rw [List.length_drop]; omega) HOT.out.2.1
            rw [show ((64 + AP : Nat) : Int) = 64 + (AP : Int) by omega] at hst
            have HST := Sec.mk hst
            have HLG := Sec.mk (And.intro hlg hBall)
            clear hst hS hdev hlg hd64 hap3 hBall hm0
            go_still_tail 13, (by kernel_rfl)
            change wpList _ _ _ _ _ wr.drew
            go_wp2_with (go_at_call 19; refine HST.out.mono ?_; rintro e w20 ⟨rfl, g1, g2⟩; have G1 := Sec.mk g1; have G2 := Sec.mk g2; clear g1 g2)
            have hlg20 : w20.heap[lg]? = some (.cells (G.cs dg (.slice A G.l.length c)).toArray 91) := G2.out.blk lg _ 91 _ HLG.out.1 (by simp [P84])
            have k2 : w20.cell? ⟨lg, 2, none⟩ = some (.slice A G.l.length c) := bk_cell hlg20 2
            have k3 : w20.cell? ⟨lg, 3, none⟩ = some (.int .i64 (G.size : Nat)) := bk_cell hlg20 3
            have k5 : w20.cell? ⟨lg, 5, none⟩ = some (.int .i64 (G.flies : Nat)) := bk_cell hlg20 5
            have k6 : w20.cell? ⟨lg, 6, none⟩ = some (.int .i64 (G.marked : Nat)) := bk_cell hlg20 6
            have k7 : w20.cell? ⟨lg, 7, none⟩ = some (.bool G.twice) := bk_cell hlg20 7
            have z5 : w20.frozen? ⟨lg, 5, none⟩ = false := bk_frozen hlg20 5
            have z6 : w20.frozen? ⟨lg, 6, none⟩ = false := bk_frozen hlg20 6
            have z7 : w20.frozen? ⟨lg, 7, none⟩ = false := bk_frozen hlg20 7
            have HL20 := Sec.mk hlg20
            have HFF := Sec.mk HOT.out.1
            clear hlg20 hc0 hc1 hcut hat64 hcap
            go_region
            all_goals
              go_wp2
              go_ret
              have hatp : G.at0 = AP := by unfold PLog.at0; rw [HAT.out]; exact HAP.out.1.symm
              have hfd : forceD G D = D.start G.hand (64 + AP) (bs.drop AP) := by unfold forceD; rw [hatp, HBS.out]
              have hE20 : EnsAt w20 B db (.slice A G.l.length c) es := ((HK.out.2.1.below HLG.out.2).below (Below.refl _ wr).drew).kept G2.out (by simp [P84]) (by simp [P84]) (by simp [P84]) (by simp [P84])
              have hm20 : LogMem w20 B lg dg db G (forceD G D) := ⟨by rw [hfd]; exact G1.out, ⟨_, es, HL20.out, hE20, HK.out.2.2.1⟩, HH.out.b1, HH.out.b2, HH.out.b3⟩
              have hs1 := hm20.set { G with flies := G.l.length } 5 (.int .i64 (G.l.length : Nat)) rfl (fun v => by simp [PLog.cs])
              have hs2 := hs1.1.set { G with flies := G.l.length, marked := G.size } 6 (.int .i64 (G.size : Nat)) rfl (fun v => by simp [PLog.cs])
              have hs3 := hs2.1.set (forceG G) 7 (.bool false) rfl (fun v => by simp [PLog.cs, forceG])
              have hok : (forceG G).ok (forceD G D).b.length := by
                have h := HH.out.ok
                exact ⟨h.hand, h.size, h.fits, h.stable, Nat.le_refl _, h.each, by simp only [forceG]; omega⟩
              have hk1 : Kept (Pwal lg dg db B) w w20 := ((Kept.of HLG.out.2).below (Below.refl _ wr).drew).trans (G2.out.mono fun b t hb => .inr (.inl hb))
              have hk2 : Kept (Pwal lg dg db B) w20 _ := ((hs1.2.trans hs2.2).trans hs3.2).mono fun b t hb => .inl hb
              exact ⟨rfl, (hs3.1.at hok).below (Below.refl _ _).drew, (hk1.trans hk2).drew⟩
end
end Go.Proofs.Ytgnlhjphmaikkaa
