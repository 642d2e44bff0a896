/- WalGone, walked: it answers true. Conditions: its list reads as steps. -/
import Derived.Test.YtgnlhjphmaikkaaTornW
set_option linter.unusedVariables false
set_option linter.unusedSimpArgs false
namespace Go.Proofs.Ytgnlhjphmaikkaa
open Go.RowKit

theorem row_take {w : World} {B e size n : Nat} {A : Option Addr} {c : Nat} {xs : List Value} (h : w.ownsRow B e size (.slice A n c) n xs) (k : Nat) (hk : k ≤ n) : w.ownsRow B e size (.slice A k c) k (xs.take (k * size)) := by
  refine ⟨by rw [List.length_take, h.1]; exact Nat.min_eq_left (Nat.mul_le_mul_right _ hk), ?_⟩
  rcases h.2 with ⟨e1, rfl⟩ | ⟨g, cap, cur, e1, h1, h2, h3, h4, h5, h6⟩
  · injection e1 with e1 e2 e3
    subst e1 e3
    obtain rfl : k = 0 := by omega
    exact .inl ⟨rfl, rfl⟩
  · injection e1 with e1 e2 e3
    subst e1 e3
    refine .inr ⟨g, c, cur, rfl, h1, h2, by omega, h4, h5, ?_⟩
    rw [← h6, List.take_take, Nat.min_eq_left (Nat.mul_le_mul_right _ hk)]
theorem size43 : (Try.prog.info? 43).map (·.size) = some 15 := by kernel_rfl
theorem op_one (k n a : Int) (r : PRec) (A1 A2 : Option Addr) (n1 n2 c1 c2 : Nat) : ((OpE.mk k n a r (.slice A1 n1 c1) (.slice A2 n2 c2)).cs.toArray.all (·.oneCell')) = true := by simp [OpE.cs, rcs, Value.oneCell']
theorem box43 {W : World} {b : Nat} {x : OpE} {f : Nat × Nat} (h : W.heap[b]? = some (.cells x.cs.toArray 43 f)) : W.rangeAt b 3 (rcs x.r x.vt x.vd) ∧ W.cell? ⟨b, 0, none⟩ = some (.int .i64 x.kind) ∧ W.cell? ⟨b, 1, none⟩ = some (.int .i64 x.n) := by
  refine ⟨fun j v hv => ?_, bk_cell h 0, bk_cell h 1⟩
  rw [bk_cell h, List.getElem?_toArray]
  unfold OpE.cs
  rw [List.getElem?_append_right (by simp)]
  simpa using hv
/-- An own row of records whose slices lie among the arguments. -/
structure AllAt (w wr : World) (v : Value) (l : List PRec) : Prop where
  ex : ∃ es : List Ent, es.map (·.r) = l ∧ wr.ownsRow w.heap.size 41 12 v l.length (es.flatMap Ent.cs) ∧ ∀ e ∈ es, RecSl w (fun b => b < w.heap.size) e.r e.vt e.vd ∧ e.r.txns.length ≤ 1000000 ∧ e.r.dirty.length ≤ 1000000
section
variable {w wr w1 : World} {v : Value} {l : List PRec}
theorem AllAt.below (h : AllAt w wr v l) (hb : Below wr.heap.size wr w1) : AllAt w w1 v l := by
  obtain ⟨es, h1, h2, h3⟩ := h.ex
  exact ⟨es, h1, row_below h2 hb, h3⟩
theorem AllAt.kept {P : Nat → TypeId → Prop} (h : AllAt w wr v l) (hk : Kept P wr w1) (h0 : ∀ b, ¬ P b 41) : AllAt w w1 v l := by
  obtain ⟨es, g1, g2, g3⟩ := h.ex
  refine ⟨es, g1, row_kept g2 fun k hk' => ?_, g3⟩
  obtain ⟨cs, f, hh⟩ := row_typed g2 hk'; rw [hh]; exact hk.blk k cs 41 f hh (h0 k)
theorem AllAt.rd (h : AllAt w wr v l) (hb : Below w.heap.size w wr) (hn : l.length ≤ 1000000) : RecsRd wr v l := by
  obtain ⟨es, h1, h2, h3⟩ := h.ex
  exact ⟨es, h1, (Sl.of_row h2 (by omega)).imp (fun _ _ => trivial), fun e he => ⟨((h3 e he).1.below hb).imp (fun _ _ => trivial), (h3 e he).2⟩⟩
theorem AllAt.take {A : Option Addr} {c : Nat} (h : AllAt w wr (.slice A l.length c) l) (k : Nat) (hk : k ≤ l.length) : AllAt w wr (.slice A k c) (l.take k) := by
  obtain ⟨es, h1, h2, h3⟩ := h.ex
  have hl : es.length = l.length := by rw [← h1, List.length_map]
  refine ⟨es.take k, by rw [← h1, List.map_take], ?_, fun e he => h3 e (List.mem_of_mem_take he)⟩
  have e1 : (l.take k).length = k := by rw [List.length_take]; omega
  have e2 : (es.take k).flatMap Ent.cs = (es.flatMap Ent.cs).take (k * 12) := by
    conv => rhs; rw [← List.take_append_drop k es, List.flatMap_append]
    rw [List.take_left' (by rw [flat_len Ent.cs 12 (fun _ => rfl), List.length_take]; congr 1; omega)]
  rw [e1, e2]
  exact row_take h2 k hk
theorem AllAt.shape (h : AllAt w wr v l) : ∃ A c, v = .slice A l.length c := by obtain ⟨es, _, h2, _⟩ := h.ex; exact row_shape h2
end
theorem St.kept41 {w w1 : World} {B lg dg db : Nat} {G : PLog} {D : PDev} (h : St w B lg dg db G D) (hk : Kept (fun _ t => t = 41) w w1) : St w1 B lg dg db G D :=
  ⟨h.log.kept hk (by simp) (by simp) (by simp) (by simp) (by simp) (by simp) (by simp), h.inv⟩
structure GRel (w : World) (N dg db lg : Nat) (v : Value) (wr : World) : Prop where
  ex : ∃ G D, St wr w.heap.size lg dg db G D ∧ G.hand = 2 ∧ D.b.length = N ∧ AllAt w wr v (G.l.map (·.1))
  low : Below w.heap.size w wr
theorem good_small {l : List (PRec × List UInt8)} (h : Good l) : ∀ r ∈ l.map (·.1), r.txns.length ≤ 1000000 ∧ r.dirty.length ≤ 1000000 := fun r hr => by
  obtain ⟨x, hx, rfl⟩ := List.mem_map.1 hr
  have hm := (h.each x hx).1
  have h1 : x.1.txns.length ≤ 64 := hm.2.2.2.2.2.2.2.2.2.1.1
  have h2 : x.1.dirty.length ≤ 16 := hm.2.2.2.2.2.2.2.2.2.2.1
  omega
theorem Inv.len {G : PLog} {D : PDev} (h : Inv G D) : G.l.length ≤ 100000 := by have := h.ok.six; have := h.ok.fits; have := h.few; omega
set_option maxRecDepth 100000 in
set_option maxHeartbeats 30000000 in
theorem WalGone_any (size : Int) (v : Value) (n : Nat) (f : Nat → OpE) (w : World) (HO : OpsAt w v n f) :
    Calls Try.prog 3 #[.int .i64 size, v] w fun e w' => e = .returned (.bool true) ∧ Below w.heap.size w w' := by
  obtain ⟨A, c, rfl⟩ := HO.shape
  by_cases hbad : size < 0 ∨ 65536 < size ∨ size % 64 ≠ 0
  · have HN := Sec.mk (New_bad8 size w hbad)
    clear hbad
    go_enter Try.func3, Try.ntmps3
    go_wp2_with (first
      | (go_at_call 8; refine HN.out.mono ?_; rintro e w1 ⟨rfl, rfl⟩)
      | (go_at_call 9; refine (lives_any _).mono ?_; rintro e w1 ⟨rfl, g2⟩; have HB := Sec.mk g2; clear g2))
    go_ret
    exact ⟨rfl, HB.out⟩
  · have h1 : 0 ≤ size := by omega
    have h2 : size ≤ 65536 := by omega
    have h3 : size % 64 = 0 := by omega
    obtain ⟨N, rfl⟩ := Int.eq_ofNat_of_zero_le h1
    have HN := Sec.mk (New8 N w (by omega) (by omega))
    clear hbad h1
    by_cases hsz : (4096 : Int) < (N : Int) ∨ (N : Int) < 64
    · rcases hsz with hs1 | hs1
      all_goals
        first
          | (have hs2 : ¬ (4096 : Int) < (N : Int) := by omega)
          | skip
        go_enter Try.func3, Try.ntmps3
        go_wp2_with (first
          | (go_at_call 8; refine HN.out.mono ?_; rintro e w1 ⟨dg, db, rfl, g1, g2, g3, g4⟩; have HB1 := Sec.mk g4; clear g1 g2 g3 g4)
          | (go_at_call 9; refine (lives_any _).mono ?_; rintro e w3 ⟨rfl, g2⟩; have HB := Sec.mk (HB1.out.trans (g2.mono HB1.out.size)); clear g2))
        go_ret
        exact ⟨rfl, HB.out⟩
    · have h64n : 64 ≤ N := by omega
      have h64i : ¬ (N : Int) < 64 := by omega
      have h4096 : ¬ (4096 : Int) < (N : Int) := by omega
      have hinv := dev0_inv N 2 h64n (by omega) (by omega) (by omega)
      have HI := Sec.mk hinv
      have h2n : N ≤ 65536 := by omega
      clear hinv hsz h2 h3
      go_enter Try.func3, Try.ntmps3
      go_wp2_with (first
        | (go_at_call 8; refine HN.out.mono ?_; rintro e w1 ⟨dg, db, rfl, g1, g2, g3, g4⟩; have HD := Sec.mk g1; have HB1 := Sec.mk g4; have HG := Sec.mk (And.intro g2 g3); clear g1 g2 g3 g4)
        | (go_at_call 10; refine (S_open w.heap.size dg db 2 (dev0 N) w1 HD.out (by omega) HI.out HB1.out.size HG.out.1 HG.out.2).mono ?_; rintro e w2 ⟨lg, rfl, g1, g2, g3⟩; have HS := Sec.mk g1; have HB2 := Sec.mk (HB1.out.trans (g2.mono HB1.out.size)); clear g1 g2 g3))
      go_loopw [7, 9, 10] (fun p av i wr => ∃ (lg k : Nat), k ≤ n ∧ k ≤ 60 ∧ p = .pointer (some ⟨lg, 0, none⟩) ∧ i = .int .i64 k ∧ GRel w N dg db lg av wr) (fun _ _ i _ => 61 - (intOf i).toNat)
      case atStart => exact ⟨lg, 0, by omega, by omega, rfl, rfl, ⟨⟨_, _, HS.out, rfl, dev0_len N, by rw [openP_zero N 2 h64n]; exact ⟨[], rfl, by simpa using World.ownsRow_nil _ _ _ _, by simp⟩⟩, HB2.out⟩⟩
      case round =>
        clear HS HB2
        obtain ⟨lg, k, hkn, hk60, rfl, rfl, hT⟩ := hrel
        obtain ⟨G, D, hst, hha, hN, hall⟩ := hT.ex
        obtain ⟨A9, c9, rfl⟩ := hall.shape
        have HST := Sec.mk hst
        have HLOW := Sec.mk hT.low
        have HFO := Sec.mk (And.intro hha hN)
        have HALL := Sec.mk hall
        have hgl := hst.inv.len
        have hml : (G.l.map (·.1)).length = G.l.length := List.length_map _
        rw [hml]
        rw [hml] at HALL
        clear hst hha hN hT hall hml
        by_cases hk : k < n ∧ k < 60
        · obtain ⟨hk1, hk2⟩ := hk
          have hki : (k : Int) < (n : Int) := by omega
          obtain ⟨b, o, rfl, hbl, hrg⟩ := HO.range hk1
          have hgood := HO.good k hk1
          generalize f k = op at *
          obtain ⟨kind, num, at_, r, vt, vd⟩ := op
          have hsh := hgood.sh
          simp only at hsh
          obtain ⟨⟨A1, c1, rfl⟩, A2, c2, rfl⟩ := hsh
          have HRG := Sec.mk (range_below hrg hbl HLOW.out)
          have HGD := Sec.mk hgood
          clear hrg hgood
          obtain ⟨Lb, HLb⟩ : ∃ Lb, Sec (lightB r = Lb) := ⟨_, ⟨rfl⟩⟩
          have HLI : Sec (∀ W : World, Calls Try.prog 11 #[.agg (rcs r (.slice A1 r.txns.length c1) (.slice A2 r.dirty.length c2)).toArray] W fun e w' => e = .returned (.bool (lightB r)) ∧ Below W.heap.size W w') := ⟨fun W => light_any r _ _ W ⟨⟨_, _, rfl⟩, _, _, rfl⟩⟩
          rw [HLb.out] at HLI
          simp only [rcs] at HLI
          go_upto_region 12 with (first
            | (refine wpList_load_mid rfl 43 (.tmp 52) rfl b (o + k * 15) rfl _ _ HRG.out Try.underlying43 rfl (size43.trans rfl) ?_)
            | (refine list_box rfl 43 _ _ rfl _ rfl rfl (size43.trans rfl) rfl (op_one _ _ _ _ _ _ _ _ _ _) ?_; intro W5 hb5 hz5 hh5; have HB5 := Sec.mk hb5; have HH5 := Sec.mk hh5; clear hb5 hz5 hh5))
          have HS5 := Sec.mk (HST.out.below HB5.out)
          have HA5 := Sec.mk (HALL.out.below HB5.out)
          have HL5 := Sec.mk (HLOW.out.trans (HB5.out.mono HLOW.out.size))
          obtain ⟨rg5, kc0, kc1⟩ := box43 HH5.out
          have HR5 := Sec.mk rg5
          have hbx : wr.heap.size < W5.heap.size := bk_lt HH5.out
          generalize wr.heap.size = bx at *
          clear rg5
          cases Lb with
          | false =>
            go_wp2_with (first
              | (refine wpList_load_mid rfl 41 (.tmp 54) rfl bx 3 rfl _ _ HR5.out Try.underlying41 rfl (size41.trans rfl) ?_; simp only [rcs])
              | (go_at_call 11; refine (HLI.out _).mono ?_; rintro e w3 ⟨rfl, g2⟩; have HB3 := Sec.mk (HL5.out.trans (g2.mono HL5.out.size)); clear g2)
              | (go_at_call 9; refine (lives_any _).mono ?_; rintro e w4 ⟨rfl, g2⟩; have HB4 := Sec.mk (HB3.out.trans (g2.mono HB3.out.size)); clear g2))
            go_ret
            exact ⟨rfl, HB4.out⟩
          | true =>
            obtain ⟨ht1, hd1⟩ := lightB_few HLb.out
            clear kc0 kc1
            go_upto_region 14 with (first
              | (refine wpList_load_mid rfl 41 (.tmp 54) rfl bx 3 rfl _ _ HR5.out Try.underlying41 rfl (size41.trans rfl) ?_; simp only [rcs])
              | (go_at_call 11; refine (HLI.out _).mono ?_; rintro e w3 ⟨rfl, g2⟩; have HX3 := Sec.mk (bk_below HH5.out g2 (bk_lt HH5.out)); have HB3 := Sec.mk (HL5.out.trans (g2.mono HL5.out.size)); have HS3 := Sec.mk (HS5.out.below g2); have HA3 := Sec.mk (HA5.out.below g2); clear g2))
            obtain ⟨rg3, kc0, kc1⟩ := box43 HX3.out
            have HR3 := Sec.mk rg3
            simp only at kc0 kc1
            clear rg3
            have HRS : Sec (RecSl w (fun b => b < w.heap.size) r (.slice A1 r.txns.length c1) (.slice A2 r.dirty.length c2)) := ⟨HGD.out.sl (by show r.txns.length ≤ 1000000; omega) (by show r.dirty.length ≤ 1000000; omega)⟩
            have HRS3 := Sec.mk (HRS.out.below HB3.out)
            have hwf : r.wf := HGD.out.wf
            have HJF := Sec.mk (joinP_fix G r (G.room D.b.length : Nat))
            by_cases e0 : kind = 0
            · subst e0
              have HA := Sec.mk (S_append HS3.out _ r _ _ HRS3.out hwf (by omega) (by omega))
              simp only [rcs] at HA
              have HJC := Sec.mk (joinP_cases G r (G.room D.b.length : Nat))
              generalize joinP G r (G.room D.b.length : Nat) = JP at *
              go_upto_region 17 with fail
              rcases HJC.out with e | e | ⟨e, x1, x2, x3⟩
              · subst e
                go_wp2_with (first
                  | (refine wpList_load_mid rfl 41 (.tmp 65) rfl bx 3 rfl _ _ HR3.out Try.underlying41 rfl (size41.trans rfl) ?_; simp only [rcs])
                  | (go_at_call 12; refine HA.out.mono ?_; rintro e w4 ⟨rfl, g1, g2, g3⟩; have HS4 := Sec.mk g1; have HA4 := Sec.mk (HA3.out.kept g2 (by simp [Plg])); have HB4 := Sec.mk (HB3.out.trans g3); clear g1 g2 g3))
                go_roundw
                case rel => exact ⟨lg, k + 1, by omega, by omega, rfl, by go_num, ⟨⟨_, _, HS4.out, HFO.out.1, HFO.out.2, by simpa using HA4.out⟩, HB4.out⟩⟩
                case measure => simp [intOf]; omega
              · subst e
                go_wp2_with (first
                  | (refine wpList_load_mid rfl 41 (.tmp 65) rfl bx 3 rfl _ _ HR3.out Try.underlying41 rfl (size41.trans rfl) ?_; simp only [rcs])
                  | (go_at_call 12; refine HA.out.mono ?_; rintro e w4 ⟨rfl, g1, g2, g3⟩; have HS4 := Sec.mk g1; have HA4 := Sec.mk (HA3.out.kept g2 (by simp [Plg])); have HB4 := Sec.mk (HB3.out.trans g3); clear g1 g2 g3))
                go_roundw
                case rel => exact ⟨lg, k + 1, by omega, by omega, rfl, by go_num, ⟨⟨_, _, HS4.out, HFO.out.1, HFO.out.2, by simpa using HA4.out⟩, HB4.out⟩⟩
                case measure => simp [intOf]; omega
              · subst e
                obtain ⟨es, he1, he2, he3⟩ := HA3.out.ex
                go_wp2_with (first
                  | (refine wpList_load_mid rfl 41 (.tmp 65) rfl bx 3 rfl _ _ HR3.out Try.underlying41 rfl (size41.trans rfl) ?_; simp only [rcs])
                  | (go_at_call 12; refine HA.out.mono ?_; rintro e w4 ⟨rfl, g1, g2, g3⟩; have HS4 := Sec.mk g1; have HA4 := Sec.mk (HA3.out.kept g2 (by simp [Plg])); have HB4 := Sec.mk (HB3.out.trans g3); have HX4 := Sec.mk (g2.blk bx _ 43 _ HX3.out (by simp [Plg])); have HR4 := Sec.mk (box43 HX4.out).1; obtain ⟨es, he1, he2, he3⟩ := HA4.out.ex; have HE4 := Sec.mk (And.intro he1 (And.intro (show w4.ownsRow w.heap.size 41 12 (.slice A9 G.l.length c9) G.l.length (es.flatMap Ent.cs) by simpa using he2) he3)); have hws4 := HB4.out.size; clear g1 g2 g3 he1 he2 he3)
                  | (refine wpList_load_mid rfl 41 (.tmp 70) rfl bx 3 rfl _ _ HR4.out Try.underlying41 rfl (size41.trans rfl) ?_; simp only [rcs])
                  | (refine list_app w.heap.size rfl (.tmp 69) (.tmp 72) 31 41 (.agg cell12.toArray) 12 152 rfl Try.underlying31 info41 rfl (by decide) (by decide) (.slice A9 G.l.length c9) rfl (.slice (some ⟨w4.heap.size, 0, none⟩) 1 1) rfl G.l.length (es.flatMap Ent.cs) (HE4.out.2.1.alloc _) (fun b => b = w4.heap.size) 1 (rcs r (.slice A1 r.txns.length c1) (.slice A2 r.dirty.length c2)) (sl_box w4.heap.size (cs := rcs r (.slice A1 r.txns.length c1) (.slice A2 r.dirty.length c2)) 12 1 (bk_new w4 _) rfl (by omega)) (rcs_one' ⟨⟨_, _, rfl⟩, _, _, rfl⟩) (by simp; omega) (by omega) ?_
                     intro A8 c8 w8 g1 g2 g3
                     have H8 := Sec.mk (And.intro g1 g2)
                     clear g1 g2 g3))
                have hal : Below w4.heap.size w4 (w4.alloc (.cells (rcs r (.slice A1 r.txns.length c1) (.slice A2 r.dirty.length c2)).toArray 41)) := (Below.refl _ _).alloc (Nat.le_refl _) _
                have hrow4 := HE4.out.2.1.alloc (.cells (rcs r (.slice A1 r.txns.length c1) (.slice A2 r.dirty.length c2)).toArray 41)
                have hkp : Kept (fun _ t => t = 41) w4 w8 := (Kept.of hal).row H8.out.2 (fun k hk => by obtain ⟨cs, f, hh⟩ := row_typed hrow4 hk; exact ⟨cs, 41, f, hh, rfl⟩)
                have hs8 := HS4.out.kept41 hkp
                have hlow8 : Below w.heap.size w w8 := (HB4.out.trans (hal.mono hws4)).grown H8.out.2 (by simp; omega) (row_base hrow4)
                have ha8 : AllAt w w8 (.slice A8 (G.l.length + 1) c8) ((G.l ++ [(r, frame r)]).map (·.1)) := ⟨es ++ [⟨r, .slice A1 r.txns.length c1, .slice A2 r.dirty.length c2⟩], by rw [List.map_append, List.map_append, HE4.out.1]; rfl, by simpa [Ent.cs] using H8.out.1, fun x hx => by
                  rcases List.mem_append.1 hx with hx | hx
                  · exact HE4.out.2.2 x hx
                  · rw [List.mem_singleton] at hx; subst hx; exact ⟨HRS.out, by show r.txns.length ≤ 1000000; omega, by show r.dirty.length ≤ 1000000; omega⟩⟩
                have H9 := Sec.mk (And.intro hs8 (And.intro hlow8 ha8))
                clear hal hrow4 hkp hs8 hlow8 ha8
                go_roundw
                case rel => exact ⟨lg, k + 1, by omega, by omega, rfl, by go_num, ⟨⟨_, _, H9.out.1, HFO.out.1, HFO.out.2, H9.out.2.2⟩, H9.out.2.1⟩⟩
                case measure => simp [intOf]; omega
            · have b0 : (kind == 0) = false := by simp [e0]
              by_cases e2 : kind = 2
              · subst e2
                have HA := Sec.mk (S_append HS3.out _ r _ _ HRS3.out hwf (by omega) (by omega))
                simp only [rcs] at HA
                have HJC := Sec.mk (joinP_cases G r (G.room D.b.length : Nat))
                generalize joinP G r (G.room D.b.length : Nat) = JP at *
                go_upto_region 17 with fail
                rcases HJC.out with e | e | ⟨e, x1, x2, x3⟩
                · subst e
                  go_wp2_with (first
                    | (refine wpList_load_mid rfl 41 (.tmp 65) rfl bx 3 rfl _ _ HR3.out Try.underlying41 rfl (size41.trans rfl) ?_; simp only [rcs])
                    | (go_at_call 12; refine HA.out.mono ?_; rintro e w4 ⟨rfl, g1, g2, g3⟩; have HS4 := Sec.mk g1; have HA4 := Sec.mk (HA3.out.kept g2 (by simp [Plg])); have HB4 := Sec.mk (HB3.out.trans g3); clear g1 g2 g3))
                  go_roundw
                  case rel => exact ⟨lg, k + 1, by omega, by omega, rfl, by go_num, ⟨⟨_, _, HS4.out, HFO.out.1, HFO.out.2, by simpa using HA4.out⟩, HB4.out⟩⟩
                  case measure => simp [intOf]; omega
                · subst e
                  go_wp2_with (first
                    | (refine wpList_load_mid rfl 41 (.tmp 65) rfl bx 3 rfl _ _ HR3.out Try.underlying41 rfl (size41.trans rfl) ?_; simp only [rcs])
                    | (go_at_call 12; refine HA.out.mono ?_; rintro e w4 ⟨rfl, g1, g2, g3⟩; have HS4 := Sec.mk g1; have HA4 := Sec.mk (HA3.out.kept g2 (by simp [Plg])); have HB4 := Sec.mk (HB3.out.trans g3); clear g1 g2 g3))
                  go_roundw
                  case rel => exact ⟨lg, k + 1, by omega, by omega, rfl, by go_num, ⟨⟨_, _, HS4.out, HFO.out.1, HFO.out.2, by simpa using HA4.out⟩, HB4.out⟩⟩
                  case measure => simp [intOf]; omega
                · subst e
                  obtain ⟨es, he1, he2, he3⟩ := HA3.out.ex
                  go_wp2_with (first
                    | (refine wpList_load_mid rfl 41 (.tmp 65) rfl bx 3 rfl _ _ HR3.out Try.underlying41 rfl (size41.trans rfl) ?_; simp only [rcs])
                    | (go_at_call 12; refine HA.out.mono ?_; rintro e w4 ⟨rfl, g1, g2, g3⟩; have HS4 := Sec.mk g1; have HA4 := Sec.mk (HA3.out.kept g2 (by simp [Plg])); have HB4 := Sec.mk (HB3.out.trans g3); have HX4 := Sec.mk (g2.blk bx _ 43 _ HX3.out (by simp [Plg])); have HR4 := Sec.mk (box43 HX4.out).1; obtain ⟨es, he1, he2, he3⟩ := HA4.out.ex; have HE4 := Sec.mk (And.intro he1 (And.intro (show w4.ownsRow w.heap.size 41 12 (.slice A9 G.l.length c9) G.l.length (es.flatMap Ent.cs) by simpa using he2) he3)); have hws4 := HB4.out.size; clear g1 g2 g3 he1 he2 he3)
                    | (refine wpList_load_mid rfl 41 (.tmp 70) rfl bx 3 rfl _ _ HR4.out Try.underlying41 rfl (size41.trans rfl) ?_; simp only [rcs])
                    | (refine list_app w.heap.size rfl (.tmp 69) (.tmp 72) 31 41 (.agg cell12.toArray) 12 152 rfl Try.underlying31 info41 rfl (by decide) (by decide) (.slice A9 G.l.length c9) rfl (.slice (some ⟨w4.heap.size, 0, none⟩) 1 1) rfl G.l.length (es.flatMap Ent.cs) (HE4.out.2.1.alloc _) (fun b => b = w4.heap.size) 1 (rcs r (.slice A1 r.txns.length c1) (.slice A2 r.dirty.length c2)) (sl_box w4.heap.size (cs := rcs r (.slice A1 r.txns.length c1) (.slice A2 r.dirty.length c2)) 12 1 (bk_new w4 _) rfl (by omega)) (rcs_one' ⟨⟨_, _, rfl⟩, _, _, rfl⟩) (by simp; omega) (by omega) ?_
                       intro A8 c8 w8 g1 g2 g3
                       have H8 := Sec.mk (And.intro g1 g2)
                       clear g1 g2 g3))
                  have hal : Below w4.heap.size w4 (w4.alloc (.cells (rcs r (.slice A1 r.txns.length c1) (.slice A2 r.dirty.length c2)).toArray 41)) := (Below.refl _ _).alloc (Nat.le_refl _) _
                  have hrow4 := HE4.out.2.1.alloc (.cells (rcs r (.slice A1 r.txns.length c1) (.slice A2 r.dirty.length c2)).toArray 41)
                  have hkp : Kept (fun _ t => t = 41) w4 w8 := (Kept.of hal).row H8.out.2 (fun k hk => by obtain ⟨cs, f, hh⟩ := row_typed hrow4 hk; exact ⟨cs, 41, f, hh, rfl⟩)
                  have hs8 := HS4.out.kept41 hkp
                  have hlow8 : Below w.heap.size w w8 := (HB4.out.trans (hal.mono hws4)).grown H8.out.2 (by simp; omega) (row_base hrow4)
                  have ha8 : AllAt w w8 (.slice A8 (G.l.length + 1) c8) ((G.l ++ [(r, frame r)]).map (·.1)) := ⟨es ++ [⟨r, .slice A1 r.txns.length c1, .slice A2 r.dirty.length c2⟩], by rw [List.map_append, List.map_append, HE4.out.1]; rfl, by simpa [Ent.cs] using H8.out.1, fun x hx => by
                    rcases List.mem_append.1 hx with hx | hx
                    · exact HE4.out.2.2 x hx
                    · rw [List.mem_singleton] at hx; subst hx; exact ⟨HRS.out, by show r.txns.length ≤ 1000000; omega, by show r.dirty.length ≤ 1000000; omega⟩⟩
                  have H9 := Sec.mk (And.intro hs8 (And.intro hlow8 ha8))
                  clear hal hrow4 hkp hs8 hlow8 ha8
                  go_roundw
                  case rel => exact ⟨lg, k + 1, by omega, by omega, rfl, by go_num, ⟨⟨_, _, H9.out.1, HFO.out.1, HFO.out.2, H9.out.2.2⟩, H9.out.2.1⟩⟩
                  case measure => simp [intOf]; omega
              · have b2 : (kind == 2) = false := by simp [e2]
                by_cases e4 : kind = 4
                · subst e4
                  have HA := Sec.mk (S_force HS3.out)
                  have hfl : (forceG' G).l = G.l ∧ (forceG' G).hand = G.hand := by unfold forceG'; split <;> exact ⟨rfl, rfl⟩
                  have HFL := Sec.mk hfl
                  clear hfl
                  go_wp2_with (go_at_call 13; refine HA.out.mono ?_; rintro e w4 ⟨rfl, g1, g2, g3⟩; have HS4 := Sec.mk g1; have HA4 := Sec.mk (HA3.out.kept g2 (by simp [Pwal, Plg])); have HB4 := Sec.mk (HB3.out.trans g3); clear g1 g2 g3)
                  go_roundw
                  case rel => exact ⟨lg, k + 1, by omega, by omega, rfl, by go_num, ⟨⟨_, _, HS4.out, HFL.out.2.trans HFO.out.1, (forceD'_len G D).trans HFO.out.2, by rw [HFL.out.1]; simpa using HA4.out⟩, HB4.out⟩⟩
                  case measure => simp [intOf]; omega
                · have b4 : (kind == 4) = false := by simp [e4]
                  by_cases e5 : kind = 5
                  · subst e5
                    have HA := Sec.mk (S_done HS3.out)
                    have HDF := Sec.mk (doneG_fix G)
                    have HDL := Sec.mk HS3.out.inv.doneD_len
                    go_wp2_with (go_at_call 14; refine HA.out.mono ?_; rintro e w4 ⟨⟨x4, rfl⟩, g1, g2, g3⟩; have HS4 := Sec.mk g1; have HA4 := Sec.mk (HA3.out.kept g2 (by simp [Pwal, Plg])); have HB4 := Sec.mk (HB3.out.trans g3); clear g1 g2 g3)
                    go_roundw
                    case rel => exact ⟨lg, k + 1, by omega, by omega, rfl, by go_num, ⟨⟨_, _, HS4.out, HDF.out.2.1.trans HFO.out.1, HDL.out.trans HFO.out.2, by rw [HDF.out.2.2.1]; simpa using HA4.out⟩, HB4.out⟩⟩
                    case measure => simp [intOf]; omega
                  · have b5 : (kind == 5) = false := by simp [e5]
                    by_cases e6 : kind = 6
                    · subst e6
                      obtain ⟨kk, hkk, hsd, hln, hup, h8⟩ := HS3.out.inv.crash num
                      rw [HFO.out.1] at hup
                      have hG := HS3.out.inv.good
                      have hkl : kk ≤ G.l.length := by
                        have h1 := HS3.out.inv.ok.stable
                        have h2 := HS3.out.inv.ok.flies
                        rcases hkk with rfl | ⟨_, rfl⟩ <;> assumption
                      have hin := Inv.opened 2 (by omega) (by rw [hln]; exact HS3.out.inv.mod) (by rw [hln]; exact HS3.out.inv.big) (by rw [hln]; exact HS3.out.inv.few) (hG.take kk) hsd hup h8
                      have hcr := S_crash HS3.out num
                      rw [HFO.out.1, show ((2 : Nat) : Int) = 2 from rfl] at hcr
                      have HCR := Sec.mk hcr
                      have HIN := Sec.mk hin
                      have HDG := Sec.mk (And.intro HS3.out.log.b2 HS3.out.log.b3)
                      have hsm := good_small hG
                      obtain ⟨RL, HRL⟩ : ∃ RL, Sec (G.l.map (·.1) = RL) := ⟨_, ⟨rfl⟩⟩
                      have hrl : RL.length = G.l.length := by rw [← HRL.out, List.length_map]
                      have hgot : (G.l.take kk).map (·.1) = RL.take kk := by rw [← HRL.out, List.map_take]
                      rw [HRL.out] at HA3 hsm
                      have hgll : (RL.take kk).length = kk := by rw [List.length_take]; omega
                      have HGL := Sec.mk hgll
                      have HRL2 := Sec.mk hrl
                      have HSMT : Sec (∀ r ∈ RL.take kk, r.txns.length ≤ 1000000 ∧ r.dirty.length ≤ 1000000) := ⟨fun r hr => hsm r (List.mem_of_mem_take hr)⟩
                      have HRC : Sec (∀ (W : World) {lg2 : Nat}, St W w.heap.size lg2 dg db (openP (crashD G D num).b 2) (crashD G D num) → Calls Try.prog 16 #[.pointer (some ⟨lg2, 0, none⟩)] W fun e w' => ∃ v', e = .returned v' ∧ RecsAt w' W.heap.size v' (RL.take kk) ∧ Below W.heap.size W w') := ⟨fun W lg2 h => by
                        have h1 := Records_any h.log
                        rw [HIN.out.2, hgot] at h1
                        exact h1⟩
                      have HTK : Sec (∀ W : World, AllAt w W (.slice A9 G.l.length c9) RL → Below w.heap.size w W → RecsRd W (.slice A9 kk c9) (RL.take kk) ∧ AllAt w W (.slice A9 kk c9) (RL.take kk)) := ⟨fun W h hb => by
                        rw [← hrl] at h
                        exact ⟨(h.rd hb (by omega)).take kk (by omega), h.take kk (by omega)⟩⟩
                      have hcap : G.l.length ≤ c9 := by
                        obtain ⟨_, _, h2, _⟩ := HA3.out.ex
                        rw [hrl] at h2
                        rcases h2.2 with ⟨e1, e2⟩ | ⟨g, cap, cur, e1, _, _, h3, _⟩
                        · omega
                        · injection e1 with _ _ e3; omega
                      have hcut := run_cut31 A9 G.l.length c9 kk (by omega)
                      have hcmp : ¬ (G.l.length : Int) < (kk : Int) := by omega
                      have HLN := Sec.mk hln
                      have HGOT := Sec.mk hgot
                      have hkl6 : (RL.take kk).length ≤ 1000000 := by omega
                      clear hcr hin hsm hrl hgot hgll hkk hsd hup h8 hG hln
                      go_wp2_with (first
                        | (go_at_call 15; refine HCR.out.mono ?_; rintro e w4 ⟨⟨x4, rfl⟩, g1, g2, g3⟩; have HD4 := Sec.mk g1; have HA4 := Sec.mk (HA3.out.kept g2 (by simp [Pwal, Plg])); have HB4 := Sec.mk (HB3.out.trans g3); clear g1 g2 g3)
                        | (go_at_call 10; refine (S_open w.heap.size dg db 2 (crashD G D num) w4 HD4.out (by omega) HIN.out.1 HB4.out.size HDG.out.1 HDG.out.2).mono ?_; rintro e w5 ⟨lg2, rfl, g1, g2, g3⟩; have HS5x := Sec.mk g1; have HA5x := Sec.mk (HA4.out.below g2); have HB5x := Sec.mk (HB4.out.trans (g2.mono HB4.out.size)); clear g1 g2 g3)
                        | (go_at_call 16; refine (HRC.out _ HS5x.out).mono ?_; rintro e w6 ⟨v6, rfl, g1, g2⟩; obtain ⟨A6, c6, e6⟩ := (g1.rd (by omega) HSMT.out).shape; rw [HGL.out] at e6; subst e6; have HV6 := Sec.mk (g1.rd (by omega) HSMT.out); have HS6 := Sec.mk (HS5x.out.below g2); have HA6 := Sec.mk (HA5x.out.below g2); have HB6 := Sec.mk (HB5x.out.trans (g2.mono HB5x.out.size)); clear g1 g2)
                        | (go_at_call 17; refine (SameRecords_eq (RL.take kk) _ _ w6 HV6.out (HTK.out _ HA6.out HB6.out).1).mono ?_; rintro e w7 ⟨rfl, g2⟩; have HS7 := Sec.mk (HS6.out.below g2); have HA7 := Sec.mk (HA6.out.below g2); have HB7 := Sec.mk (HB6.out.trans (g2.mono HB6.out.size)); clear g2))
                      go_roundw
                      case rel => exact ⟨lg2, k + 1, by omega, by omega, rfl, by go_num, ⟨⟨_, _, HS7.out, rfl, HLN.out.trans HFO.out.2, by rw [HIN.out.2, HGOT.out]; exact (HTK.out _ HA7.out HB7.out).2⟩, HB7.out⟩⟩
                      case measure => simp [intOf]; omega
                    · have b6 : (kind == 6) = false := by simp [e6]
                      go_wp2
                      go_roundw
                      case rel => exact ⟨lg, k + 1, by omega, by omega, rfl, by go_num, ⟨⟨_, _, HS3.out, HFO.out.1, HFO.out.2, by simpa using HA3.out⟩, HB3.out⟩⟩
                      case measure => simp [intOf]; omega
        · have hxk : ¬ (k < n) ∨ (k < n ∧ k = 60) := by omega
          clear hk
          have hG := HST.out.inv.good
          have hsm := good_small hG
          obtain ⟨RL, HRL⟩ : ∃ RL, Sec (G.l.map (·.1) = RL) := ⟨_, ⟨rfl⟩⟩
          have hrl : RL.length = G.l.length := by rw [← HRL.out, List.length_map]
          rw [HRL.out] at HALL hsm
          have HSM := Sec.mk hsm
          have HRC := Records_any HST.out.log
          rw [HRL.out] at HRC
          have HRC := Sec.mk HRC
          have HRL2 := Sec.mk hrl
          have hkl6 : RL.length ≤ 1000000 := by omega
          clear hG hsm hrl
          rcases hxk with hx1 | ⟨hx1, hx2⟩
          all_goals
            first
              | (have hki : ¬ (k : Int) < (n : Int) := by omega)
              | (have hki : (k : Int) < (n : Int) := by omega)
            try subst hx2
            go_wp2_with (first
              | (go_at_call 16; refine HRC.out.mono ?_; rintro e w3 ⟨v3, rfl, g1, g2⟩; obtain ⟨A3, c3, e3⟩ := (g1.rd (by omega) HSM.out).shape; rw [HRL2.out] at e3; subst e3; have HV3 := Sec.mk (g1.rd (by omega) HSM.out); have HA3 := Sec.mk (HALL.out.below g2); have HB3 := Sec.mk (HLOW.out.trans (g2.mono HLOW.out.size)); clear g1 g2)
              | (go_at_call 17; refine (SameRecords_eq RL _ _ w3 HV3.out (HA3.out.rd HB3.out (by omega))).mono ?_; rintro e w4 ⟨rfl, g2⟩; have HB4 := Sec.mk (HB3.out.trans (g2.mono HB3.out.size)); clear g2)
              | (go_at_call 9; refine (lives_any _).mono ?_; rintro e w5 ⟨rfl, g2⟩; have HB5 := Sec.mk (HB4.out.trans (g2.mono HB4.out.size)); clear g2))
            go_ret
            exact ⟨rfl, HB5.out⟩
end Go.Proofs.Ytgnlhjphmaikkaa
