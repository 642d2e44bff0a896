/- Package stable, walked: Start. Conditions: as each statement says. -/
import Derived.Test.YtgnlhjphmaikkaaO
set_option linter.unusedVariables false
set_option linter.unusedSimpArgs false
namespace Go.Proofs.Ytgnlhjphmaikkaa
open Go.RowKit

def P84 (dg : Nat) : Nat → TypeId → Prop := fun b t => b = dg ∧ t = 84
set_option maxRecDepth 100000 in
set_option maxHeartbeats 800000 in
theorem Start_bad (dg : Nat) (i k : Int) (v : Value) (w : World) (h : ¬ (0 ≤ i ∧ i < 8)) : Calls Try.prog 19 #[.pointer (some ⟨dg, 0, none⟩), .int .i64 i, .int .i64 k, v] w fun e w' => e = .returned (.int .i64 1) ∧ w = w' := by
  have hk := known_any dg i w
  rw [decide_eq_false h] at hk
  clear h
  go_enter Try.func19, Try.ntmps19
  go_wp2_with (go_at_call 51; refine hk.mono ?_; rintro e w1 ⟨rfl, rfl⟩)
  go_ret
  exact ⟨rfl, rfl⟩
def PDev.start (D : PDev) (k pl : Nat) (bs : List UInt8) : PDev := { D with up := D.up.set k (some (pl, bs)) }
theorem DevAt.start {w w1 : World} {dg db : Nat} {D : PDev} (h : DevAt w dg db D) (hb : Below w.heap.size w w1) {v : Value} {bs : List UInt8} (hr : w1.ownsRow w.heap.size 5 1 v bs.length (bv bs)) {k pl : Nat} (hk : k < 8) (h1 : pl + bs.length ≤ D.b.length) (h2 : bs.length % 64 = 0) :
    DevAt ((w1.alloc (.cells #[.int .i64 (pl : Nat), v] 111)).setCell ⟨dg, 1 + k, none⟩ (.pointer (some ⟨w1.heap.size, 0, none⟩))) dg db (D.start k pl bs) ∧
      Kept (P84 dg) w ((w1.alloc (.cells #[.int .i64 (pl : Nat), v] 111)).setCell ⟨dg, 1 + k, none⟩ (.pointer (some ⟨w1.heap.size, 0, none⟩))) := by
  have hl := h.ok.2.1
  have hd1 := h.below hb
  obtain ⟨ps, a1, a2, a3, a4⟩ := (hd1.below ((Below.refl _ _).alloc (Nat.le_refl _) (.cells #[.int .i64 (pl : Nat), v] 111))).ex
  have hdb : db < w.heap.size := by obtain ⟨_, _, _, a3, _⟩ := h.ex; exact bk_lt a3
  have hnew := bk_new w1 (.cells #[.int .i64 (pl : Nat), v] 111)
  have hs : Sl (w1.alloc (.cells #[.int .i64 (pl : Nat), v] 111)) (fun b => Ty (w1.alloc (.cells #[.int .i64 (pl : Nat), v] 111)) 5 b ∧ w.heap.size ≤ b) 1 v bs.length (bv bs) :=
    (Sl.typed_bv hr (by omega)).kept (P := fun _ _ => False) (Kept.of ((Below.refl _ _).alloc (Nat.le_refl _) _)) (fun _ _ h => h)
  have hK0 : Kept (P84 dg) w (w1.alloc (.cells #[.int .i64 (pl : Nat), v] 111)) := (Kept.of hb).alloc _
  generalize hW : w1.alloc (.cells #[.int .i64 (pl : Nat), v] 111) = W at *
  clear hW
  have hK : Kept (P84 dg) W (W.setCell ⟨dg, 1 + k, none⟩ (.pointer (some ⟨w1.heap.size, 0, none⟩))) := (Kept.refl _ _).set a2 ⟨rfl, rfl⟩ _ _
  refine ⟨⟨⟨by simpa [PDev.start] using h.ok.1, h.ok.2.1, ?_⟩, ps.set k (.pointer (some ⟨w1.heap.size, 0, none⟩)), by simpa using a1, ?_, ?_, ?_⟩, hK0.trans hK⟩
  · intro i p b hi
    unfold PDev.start at hi
    simp only [List.getElem?_set] at hi
    split at hi
    · split at hi
      · injection hi with hi; injection hi with hi; injection hi with e1 e2; subst e1 e2; exact ⟨h1, h2⟩
      · cases hi
    · exact h.ok.2.2 i p b hi
  · have := bk_set a2 (1 + k) (.pointer (some ⟨w1.heap.size, 0, none⟩))
    rw [Nat.add_comm 1 k] at this ⊢
    simpa [PDev.start] using this
  · exact hK.blk _ _ _ _ a3 (by simp [P84])
  · intro i p u hp hu
    unfold PDev.start at hu
    simp only [List.getElem?_set] at hp hu
    by_cases hik : k = i
    · subst hik
      rw [if_pos rfl, if_pos (by omega)] at hp
      rw [if_pos rfl, if_pos (by have := h.ok.1; omega)] at hu
      injection hp with hp; injection hu with hu
      subst hp hu
      exact ⟨w1.heap.size, v, rfl, hK.blk _ _ _ _ hnew (by simp [P84]), (hs.imp (fun b hb => ⟨hb.1, (show b ≠ db by have := hb.2; omega)⟩)).kept hK (fun b _ => by simp [P84])⟩
    · rw [if_neg hik] at hp hu
      exact (a4 i p u hp hu).kept hK (by simp [P84]) (by simp [P84])
set_option maxRecDepth 100000 in
set_option maxHeartbeats 1600000 in
theorem Start_any (dg db : Nat) (D : PDev) (k pl : Nat) (ok : Nat → Prop) (v : Value) (bs : List UInt8) (w : World) (H : DevAt w dg db D) (HS : Sl w ok 1 v bs.length (bv bs)) (hk : k < 8) (hp : pl % 64 = 0) (hb : bs.length % 64 = 0) (h0 : 0 < bs.length) (hl : pl + bs.length ≤ D.b.length)
    (hu : D.up[k]? = some none) :
    Calls Try.prog 19 #[.pointer (some ⟨dg, 0, none⟩), .int .i64 (k : Nat), .int .i64 (pl : Nat), v] w fun e w' => e = .returned (.int .i64 0) ∧ DevAt w' dg db (D.start k pl bs) ∧ Kept (P84 dg) w w' := by
  obtain ⟨A, c, rfl⟩ : ∃ A c, v = .slice A bs.length c := by obtain ⟨_, _, A, c, e, _⟩ := HS; exact ⟨A, c, e⟩
  have hkn := known_any dg (k : Int) w
  rw [decide_eq_true (show (0 : Int) ≤ k ∧ (k : Int) < 8 by omega)] at hkn
  have hc := H.cell
  obtain ⟨p, u, hch, hu2, hup⟩ := H.hand k hk
  rw [hu] at hu2
  injection hu2 with hu2
  subst hu2
  obtain rfl : p = .pointer none := hup
  have hlen := H.ok.2.1
  have HH := Sec.mk H
  have HSS := Sec.mk HS
  have n1 : ((pl : Int) % 64 != 0) = false := by simp; omega
  have n2 : ((bs.length : Int) % 64 != 0) = false := by simp; omega
  have n3 : ((bs.length : Int) == 0) = false := beq_false_of_ne (by omega)
  have n4 : ¬ (pl : Int) < 0 := by omega
  have n5 : ¬ (D.b.length : Int) < (pl : Int) := by omega
  have n6 : ¬ (D.b.length : Int) - (pl : Int) < (bs.length : Int) := by omega
  have hw2 : IntKind.i64.wrap ((D.b.length : Int) - (pl : Int)) = (D.b.length : Int) - (pl : Int) := IntWalk.i64_in _ (by omega)
  have HL := Sec.mk (And.intro hk (And.intro hb (And.intro h0 hl)))
  clear H HS hu hb hp h0
  go_enter Try.func19, Try.ntmps19
  go_wp2_with (go_at_call 51; refine hkn.mono ?_; rintro e w1 ⟨rfl, rfl⟩)
  have HS1 := Sec.mk (HSS.out.below (((Below.refl _ _).alloc (Nat.le_refl _) (.cells #[] 5)).drew))
  have hr0 := (row_empty w w.heap.size (Nat.le_refl _)).drew
  have HR0 := Sec.mk hr0
  have k8 : (k : Int) < 8 := by omega
  clear hr0
  go_region_law (
    (refine step_app_b w.heap.size (by rfl) (.tmp 62) (.tmp 63) (by rfl) (.slice (some ⟨w.heap.size, 0, none⟩) 0 0) (by rfl) (.slice A bs.length c) (by rfl) [] bs HR0.out ok (bv bs) HS1.out rfl (by simp) (by have := HL.out; simp; omega) bs (by simp) ?_
     intro A1 c1 w1 h1 h2 h3
     have hB1 : Below w.heap.size w w1 := (((Below.refl _ _).alloc (Nat.le_refl _) _).drew).trans h3
     have hz := HH.out.start hB1 h1 (pl := pl) HL.out.1 HL.out.2.2.2 HL.out.2.1
     have hdg : ∀ ob : Obj, ((w1.alloc ob).cell? ⟨dg, 1 + k, none⟩ = some (.pointer none) ∧ (w1.alloc ob).frozen? ⟨dg, 1 + k, none⟩ = false) := fun ob => by
       obtain ⟨ps, _, b2, _⟩ := HH.out.ex
       have b3 := bk_below b2 (hB1.trans ((Below.refl _ _).alloc (by have := hB1.size; omega) ob)) (bk_lt b2)
       exact ⟨(bk_cell b3 _).trans ((bk_cell b2 _).symm.trans hch), bk_frozen b3 _⟩
     have hd1 := fun ob => (hdg ob).1
     have hd2 := fun ob => (hdg ob).2
     have HZ := Sec.mk hz
     clear h1 h2 h3 hB1 hz hdg))
  all_goals
    go_wp2
    go_ret
    exact ⟨rfl, HZ.out.1, HZ.out.2⟩
end Go.Proofs.Ytgnlhjphmaikkaa
