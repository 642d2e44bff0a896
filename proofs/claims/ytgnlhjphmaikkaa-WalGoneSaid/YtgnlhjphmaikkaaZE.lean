/- Package wal, walked: Done. Conditions: as each statement says. -/
import Derived.Test.YtgnlhjphmaikkaaZD
set_option linter.unusedVariables false
set_option linter.unusedSimpArgs false
namespace Go.Proofs.Ytgnlhjphmaikkaa
open Go.RowKit

/-- The bytes of a mark. -/
def markOf (n : Nat) : List UInt8 := fillTo (sealed (le n 4))
theorem markOf_length (n : Nat) : (markOf n).length = 64 := by
  have h : (sealed (le n 4)).length = 8 := by simp [sealed, le_length]
  simp [markOf, fillTo, h]
theorem fin_length (D : PDev) (k pl : Nat) (bs : List UInt8) (m : Int) (h : pl + bs.length ≤ D.b.length) : (D.fin k pl bs m).b.length = D.b.length := by
  simp only [PDev.fin]
  apply over_length
  have : (bs.take (64 * cnt (bs.length / 64) m)).length ≤ bs.length := by rw [List.length_take]; omega
  omega
/-- The log behind the write of its records; behind that of its mark. -/
def done1G (G : PLog) : PLog := { G with twice := true }
def done2G (G : PLog) : PLog := { G with stable := G.flies, flies := 0 }
def done1D (G : PLog) (D : PDev) (pl : Nat) (bs : List UInt8) : PDev := (D.fin G.hand pl bs (-1)).start G.hand 0 (markOf G.marked)
section
variable {w w1 : World} {B lg dg db : Nat} {G : PLog} {D D1 : PDev}
/-- A device changes under its log. -/
theorem LogMem.dev' (h : LogMem w B lg dg db G D) (hd : DevAt w1 dg db D1) (hk : Kept (fun b t => (b = dg ∧ t = 84) ∨ (b = db ∧ t = 5)) w w1) : LogMem w1 B lg dg db G D1 := by
  obtain ⟨v, es, h1, h2, h3⟩ := h.ex
  exact ⟨hd, ⟨v, es, hk.blk _ _ _ _ h1 (by simp), h2.kept hk (by simp) (by simp) (by simp) (by intro b _ hb; simp [hb]), h3⟩, h.b1, h.b2, h.b3⟩
set_option maxRecDepth 100000 in
set_option maxHeartbeats 800000 in
theorem Done_none (H : LogAt w B lg dg db G D) (hf : G.flies = 0) : Calls Try.prog 14 #[.pointer (some ⟨lg, 0, none⟩)] w fun e w' => e = .returned (.int .i64 8) ∧ w = w' := by
  obtain ⟨A, c, es, k1, _⟩ := H.cell
  have c5 : w.cell? ⟨lg, 5, none⟩ = some (.int .i64 (0 : Nat)) := by rw [← hf]; exact bk_cell k1 5
  clear H k1 hf
  go_enter Try.func14, Try.ntmps14
  go_wp2
  go_ret
  exact ⟨rfl, rfl⟩
set_option maxRecDepth 100000 in
set_option maxHeartbeats 1600000 in
theorem Done_second (H : LogAt w B lg dg db G D) (hf : 0 < G.flies) (ht : G.twice = true) (pl : Nat) (bs : List UInt8) (hu : D.up[G.hand]? = some (some (pl, bs))) :
    Calls Try.prog 14 #[.pointer (some ⟨lg, 0, none⟩)] w fun e w' => e = .returned (.int .i64 0) ∧ LogAt w' B lg dg db (done2G G) (D.fin G.hand pl bs (-1)) ∧ Kept (Pwal lg dg db B) w w' := by
  obtain ⟨A, c, es, k1, _⟩ := H.cell
  have HH := Sec.mk H
  have c5 : w.cell? ⟨lg, 5, none⟩ = some (.int .i64 (G.flies : Nat)) := bk_cell k1 5
  have c0 : w.cell? ⟨lg, 0, none⟩ = some (.pointer (some ⟨dg, 0, none⟩)) := bk_cell k1 0
  have c1 : w.cell? ⟨lg, 1, none⟩ = some (.int .i64 (G.hand : Nat)) := bk_cell k1 1
  have hfz : ((G.flies : Int) == 0) = false := by simp; omega
  have HFN := Sec.mk (Finish_any dg db D G.hand pl bs w.drew (H.dev.below (Below.refl _ _).drew) H.ok.hand hu)
  have hfits := (H.dev.ok.2.2 _ _ _ hu).1
  have HK1 := Sec.mk k1
  have HT := Sec.mk (And.intro ht (And.intro hu hfits))
  clear H k1 ht hu hfits
  go_enter Try.func14, Try.ntmps14
  go_wp2_with fail
  go_still_tail 8, (by kernel_rfl)
  change wpList _ _ _ _ _ w.drew
  go_upto_region 6 with (go_at_call 20; refine HFN.out.mono ?_; rintro e w1 ⟨rfl, g1, g2⟩; have G1 := Sec.mk g1; have G2 := Sec.mk g2; clear g1 g2)
  have hlg1 : w1.heap[lg]? = some (.cells (G.cs dg (.slice A G.l.length c)).toArray 91) := G2.out.blk lg _ 91 _ HK1.out (by simp [Pend])
  have d7 : w1.cell? ⟨lg, 7, none⟩ = some (.bool true) := by rw [← HT.out.1]; exact bk_cell hlg1 7
  have d5 : w1.cell? ⟨lg, 5, none⟩ = some (.int .i64 (G.flies : Nat)) := bk_cell hlg1 5
  have d4 : w1.cell? ⟨lg, 4, none⟩ = some (.int .i64 (G.stable : Nat)) := bk_cell hlg1 4
  have z5 : w1.frozen? ⟨lg, 5, none⟩ = false := bk_frozen hlg1 5
  have z4 : w1.frozen? ⟨lg, 4, none⟩ = false := bk_frozen hlg1 4
  clear hlg1 c0 c1 c5
  go_wp2_with fail
  go_ret
  have hm := (HH.out.mem.below (Below.refl _ w).drew).dev' G1.out (G2.out.mono fun b t h => h)
  have hs1 := hm.set { G with stable := G.flies } 4 (.int .i64 (G.flies : Nat)) rfl (fun v => by simp [PLog.cs])
  have hs2 := hs1.1.set (done2G G) 5 (.int .i64 0) rfl (fun v => by simp [PLog.cs, done2G])
  have hok : (done2G G).ok (D.fin G.hand pl bs (-1)).b.length := by
    have h := HH.out.ok
    rw [fin_length _ _ _ _ _ HT.out.2.2]
    exact ⟨h.hand, h.size, h.fits, h.flies, by simp [done2G], h.each, h.marked⟩
  refine ⟨rfl, hs2.1.at hok, ?_⟩
  exact (((Kept.refl _ w).drew.trans (G2.out.mono fun b t h => .inr h)).trans (hs1.2.mono fun b t h => .inl h)).trans (hs2.2.mono fun b t h => .inl h)
set_option maxRecDepth 100000 in
set_option maxHeartbeats 1600000 in
theorem Done_first (H : LogAt w B lg dg db G D) (hf : 0 < G.flies) (ht : G.twice = false) (pl : Nat) (bs : List UInt8) (hu : D.up[G.hand]? = some (some (pl, bs))) (h64 : 64 ≤ D.b.length) :
    Calls Try.prog 14 #[.pointer (some ⟨lg, 0, none⟩)] w fun e w' => e = .returned (.int .i64 0) ∧ LogAt w' B lg dg db (done1G G) (done1D G D pl bs) ∧ Kept (Pwal lg dg db B) w w' := by
  obtain ⟨A, c, es, k1, _⟩ := H.cell
  have HH := Sec.mk H
  have c5 : w.cell? ⟨lg, 5, none⟩ = some (.int .i64 (G.flies : Nat)) := bk_cell k1 5
  have c0 : w.cell? ⟨lg, 0, none⟩ = some (.pointer (some ⟨dg, 0, none⟩)) := bk_cell k1 0
  have c1 : w.cell? ⟨lg, 1, none⟩ = some (.int .i64 (G.hand : Nat)) := bk_cell k1 1
  have hfz : ((G.flies : Int) == 0) = false := by simp; omega
  have HFN := Sec.mk (Finish_any dg db D G.hand pl bs w.drew (H.dev.below (Below.refl _ _).drew) H.ok.hand hu)
  have hfits := (H.dev.ok.2.2 _ _ _ hu).1
  have hmk := H.ok.marked
  have HK1 := Sec.mk k1
  have HT := Sec.mk (And.intro ht (And.intro hu (And.intro hfits h64)))
  clear H k1 ht hu hfits h64
  go_enter Try.func14, Try.ntmps14
  go_wp2_with fail
  go_still_tail 8, (by kernel_rfl)
  change wpList _ _ _ _ _ w.drew
  go_upto_region 6 with (go_at_call 20; refine HFN.out.mono ?_; rintro e w1 ⟨rfl, g1, g2⟩; have G1 := Sec.mk g1; have G2 := Sec.mk g2; clear g1 g2)
  have hlg1 : w1.heap[lg]? = some (.cells (G.cs dg (.slice A G.l.length c)).toArray 91) := G2.out.blk lg _ 91 _ HK1.out (by simp [Pend])
  have HLG1 := Sec.mk hlg1
  have d7 : w1.cell? ⟨lg, 7, none⟩ = some (.bool false) := by rw [← HT.out.1]; exact bk_cell hlg1 7
  clear hlg1 c0 c1 c5
  go_wp2_with fail
  refine (New_any _).mono ?_
  rintro e w2 ⟨rfl, hw2, hb2⟩
  have HW2 := Sec.mk hw2
  have HB2 := Sec.mk hb2
  have d6 : w2.cell? ⟨lg, 6, none⟩ = some (.int .i64 (G.marked : Nat)) := bk_cell (bk_below HLG1.out hb2 (bk_lt HLG1.out)) 6
  have hcv : IntKind.u32.wrap (G.marked : Int) = (G.marked : Int) := by unfold IntKind.wrap; simp [IntKind.signed, IntKind.bits]; omega
  have HW4 := Sec.mk (Four_go w1.heap.size w1.heap.size G.marked (by omega) [] w2 (by simp) hw2)
  clear hw2 hb2
  go_upto_region 9 with (go_at_call 43; refine HW4.out.mono ?_; rintro e w3 ⟨rfl, g1, g2⟩; have G3 := Sec.mk g1; have G4 := Sec.mk g2; clear g1 g2)
  rw [List.nil_append] at G3
  have hb3 : Below w1.heap.size w1 w3 := HB2.out.trans G4.out.bel
  have HB3 := Sec.mk hb3
  have hlgl := bk_lt HLG1.out
  have hs3 := hb3.size
  obtain ⟨X, HX⟩ : ∃ X, Sec (le G.marked 4 = X) := ⟨_, ⟨rfl⟩⟩
  obtain ⟨Y, HY⟩ : ∃ Y, Sec (sealed X = Y) := ⟨_, ⟨rfl⟩⟩
  obtain ⟨Z, HZ⟩ : ∃ Z, Sec (fillTo Y = Z) := ⟨_, ⟨rfl⟩⟩
  have hZm : markOf G.marked = Z := by unfold markOf; rw [HX.out, HY.out, HZ.out]
  have hXl : X.length = 4 := by rw [← HX.out, le_length]
  have hYl : Y.length = 8 := by rw [← HY.out]; simp [sealed, hXl, le_length]
  have hZl : Z.length = 64 := by rw [← hZm, markOf_length]
  have HL := Sec.mk (And.intro hZm (And.intro hXl (And.intro hYl hZl)))
  rw [HX.out] at G3
  have HD3 := Sec.mk (Done_any w1.heap.size w1.heap.size X w3.drew (by omega) (G3.out.below (Below.refl _ _).drew))
  have hle0 : ∀ W : World, Below w1.heap.size w1 W → W.cell? ⟨lg, 0, none⟩ = some (.pointer (some ⟨dg, 0, none⟩)) ∧ W.cell? ⟨lg, 1, none⟩ = some (.int .i64 (G.hand : Nat)) := fun W hW => by
    have := bk_below HLG1.out hW hlgl
    exact ⟨bk_cell this 0, bk_cell this 1⟩
  have HLE := Sec.mk hle0
  obtain ⟨p30, p31⟩ := hle0 w3 hb3
  have hup1 : ∀ W : World, DevAt W dg db (D.fin G.hand pl bs (-1)) → (D.fin G.hand pl bs (-1)).up[G.hand]? = some none := fun W h => by
    have := HH.out.dev.ok.1
    have := HH.out.ok.hand
    simp only [PDev.fin]
    exact List.getElem?_set_self (by omega)
  have hfl : 64 ≤ (D.fin G.hand pl bs (-1)).b.length := by rw [fin_length _ _ _ _ _ HT.out.2.2.1]; exact HT.out.2.2.2
  have HUP := Sec.mk (And.intro hup1 hfl)
  have hhand := HH.out.ok.hand
  clear hle0 hb3 hup1 hfl hZm hXl hYl hZl d6 d7 hcv HW4
  go_region_held3 (fun W => W.cell? ⟨lg, 0, none⟩ = some (.pointer (some ⟨dg, 0, none⟩)) ∧ W.cell? ⟨lg, 1, none⟩ = some (.int .i64 (G.hand : Nat)))
    (first
      | exact ⟨p80, p81⟩
      | exact ⟨p60, p61⟩
      | exact ⟨p50, p51⟩
      | exact ⟨p40, p41⟩
      | exact ⟨p70, p71⟩
      | exact ⟨p30, p31⟩
      | go_keep)
    (first
      | (go_at_call 46; refine HD3.out.mono ?_; rintro e w4 ⟨v4, rfl, g1, g2⟩; obtain ⟨A4, c4, rfl⟩ := row_shape g1; have R4 := Sec.mk g1
         have B4 : Sec (Below w1.heap.size w1 w4) := ⟨HB3.out.trans ((g2.mono (by show w1.heap.size ≤ w3.heap.size; omega)) |> (Below.refl _ _).drew.trans)⟩
         obtain ⟨p40, p41⟩ := HLE.out w4 B4.out
         have hs4 := B4.out.size
         clear g1 g2)
      | (go_at_call 45; refine (Seal_any _ _ X w4 (by rw [HL.out.2.1]; omega) (Sl.of_row_bv R4.out (by rw [HL.out.2.1]; omega))).mono ?_; rintro e w5 ⟨v5, rfl, g1, g2⟩; rw [HY.out] at g1; obtain ⟨A5, c5, rfl⟩ := row_shape g1; have R5 := Sec.mk g1
         have B5 : Sec (Below w1.heap.size w1 w5) := ⟨B4.out.trans (g2.mono hs4)⟩
         obtain ⟨p50, p51⟩ := HLE.out w5 B5.out
         have hs5 := g2.size
         clear g1 g2)
      | (go_at_call 44; refine (fill_any w4.heap.size _ Y w5 (by rw [HL.out.2.2.1]; omega) hs5 R5.out).mono ?_; rintro e w6 ⟨v6, rfl, g1, g2⟩; rw [HZ.out] at g1; obtain ⟨A6, c6, rfl⟩ := row_shape g1; have R6 := Sec.mk g1
         have B6 : Sec (Below w1.heap.size w1 w6) := ⟨B5.out.trans (g2.mono hs4)⟩
         obtain ⟨p60, p61⟩ := HLE.out w6 B6.out
         clear g1 g2)
      | (go_at_call 19; refine (Start_any dg db (D.fin G.hand pl bs (-1)) G.hand 0 _ _ Z w6 (G1.out.below B6.out) (Sl.of_row_bv R6.out (by rw [HL.out.2.2.2]; omega)) hhand (by omega) (by rw [HL.out.2.2.2]) (by rw [HL.out.2.2.2]; omega) (by rw [HL.out.2.2.2]; have := HUP.out.2; omega) (HUP.out.1 _ G1.out)).mono ?_
         rintro e w7 ⟨rfl, g1, g2⟩
         have hlg7 : w7.heap[lg]? = some (.cells (G.cs dg (.slice A G.l.length c)).toArray 91) := g2.blk lg _ 91 _ (bk_below HLG1.out B6.out hlgl) (by simp [P84])
         have p70 := bk_cell hlg7 0
         have p71 := bk_cell hlg7 1
         have p77 : w7.cell? ⟨lg, 7, none⟩ = some (.bool G.twice) := bk_cell hlg7 7
         have z77 : w7.frozen? ⟨lg, 7, none⟩ = false := bk_frozen hlg7 7
         have p80 : (w7.setCell ⟨lg, 7, none⟩ (.bool true)).cell? ⟨lg, 0, none⟩ = some (.pointer (some ⟨dg, 0, none⟩)) := (bk_cell (bk_set hlg7 7 (.bool true)) 0).trans rfl
         have p81 : (w7.setCell ⟨lg, 7, none⟩ (.bool true)).cell? ⟨lg, 1, none⟩ = some (.int .i64 (G.hand : Nat)) := (bk_cell (bk_set hlg7 7 (.bool true)) 1).trans rfl
         have R7 := Sec.mk g1
         have K7 := Sec.mk g2
         clear g1 g2 hlg7))
  all_goals
    go_wp2
    go_ret
    have hm1 := (HH.out.mem.below (Below.refl _ w).drew).dev' G1.out (G2.out.mono fun b t h => h)
    have hm6 := hm1.below B6.out
    have hm7 := hm6.dev' R7.out (K7.out.mono fun b t h => .inl h)
    have hs1 := hm7.set (done1G G) 7 (.bool true) rfl (fun v => by simp [PLog.cs, done1G])
    have hd : done1D G D pl bs = (D.fin G.hand pl bs (-1)).start G.hand 0 Z := by unfold done1D; rw [HL.out.1]
    have hok : (done1G G).ok (done1D G D pl bs).b.length := by
      have h := HH.out.ok
      rw [show (done1D G D pl bs).b.length = D.b.length from fin_length D G.hand pl bs (-1) HT.out.2.2.1]
      exact ⟨h.hand, h.size, h.fits, h.stable, h.flies, h.each, h.marked⟩
    refine ⟨rfl, ?_, ?_⟩
    · rw [hd]; rw [hd] at hok; exact hs1.1.at hok
    · exact (((((Kept.refl _ w).drew.trans (G2.out.mono fun b t h => .inr h)).below B6.out).trans (K7.out.mono fun b t h => .inr (.inl h)))).trans (hs1.2.mono fun b t h => .inl h)
end
end Go.Proofs.Ytgnlhjphmaikkaa
