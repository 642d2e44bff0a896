/- Package wal, walked: Open, Read, Keep. Conditions: as each statement says. -/
import Derived.Test.YtgnlhjphmaikkaaZ
set_option linter.unusedVariables false
set_option linter.unusedSimpArgs false
namespace Go.Proofs.Ytgnlhjphmaikkaa
open Go.RowKit

/-- What a log's own calls change. -/
def Plg (lg B : Nat) : Nat → TypeId → Prop := fun b t => (b = lg ∧ t = 91) ∨ (B ≤ b ∧ t = 95)
theorem Plg_low {lg B : Nat} (h : B ≤ lg) : ∀ b t, Plg lg B b t → B ≤ b := fun b t hp => by rcases hp with ⟨rfl, _⟩ | ⟨h, _⟩ <;> assumption
theorem scanP_size (b : List UInt8) : ∀ last, sizeOfL (scanP last b) ≤ b.length ∧ ∀ x ∈ scanP last b, 6 ≤ x.2.length := by
  induction h : b.length using Nat.strongRecOn generalizing b with
  | _ k ih =>
    intro last
    cases hu : unframe b with
    | none => rw [scanP_none _ _ hu]; simp [sizeOfL]
    | some x =>
      obtain ⟨r, n⟩ := x
      obtain ⟨h1, h2, h3⟩ := unframe_some hu
      by_cases hl : r.lsn ≤ last
      · rw [scanP_stop _ _ _ _ hu hl]; simp [sizeOfL]
      · rw [scanP_more _ _ _ _ hu hl]
        have hi := ih (b.drop n).length (by simp; omega) (b.drop n) rfl r.lsn
        have e : sizeOfL ((r, b.take n) :: scanP r.lsn (b.drop n)) = n + sizeOfL (scanP r.lsn (b.drop n)) := by
          simp [sizeOfL]; omega
        rw [e]
        have e2 : (b.drop n).length = b.length - n := by simp
        refine ⟨by have := hi.1; omega, fun x hx => ?_⟩
        rcases List.mem_cons.1 hx with rfl | hx
        · simp; omega
        · exact hi.2 x hx
theorem stands_size (b : List UInt8) (h : 64 ≤ b.length) : 64 + sizeOfL (stands b) ≤ b.length ∧ ∀ x ∈ stands b, 6 ≤ x.2.length := by
  unfold stands
  rw [if_neg (by omega)]
  have h1 := scanP_size ((b.drop 64).take (toldOf b)) 0
  have h2 := toldOf_le b h
  rw [List.length_take, List.length_drop] at h1
  exact ⟨by omega, h1.2⟩
noncomputable def openP (b : List UInt8) (hand : Nat) : PLog := ⟨stands b, sizeOfL (stands b), (stands b).length, 0, 0, false, 0, hand⟩
theorem openP_ok (b : List UInt8) (hand : Nat) (h : 64 ≤ b.length) (hh : hand < 8) : (openP b hand).ok b.length := by
  have := stands_size b h
  exact ⟨hh, rfl, by simpa [openP] using this.1, by simp [openP], by simp [openP], this.2, by simp [openP]⟩

set_option maxRecDepth 100000 in
set_option maxHeartbeats 800000 in
theorem scan_nil (w : World) : Calls Try.prog 40 #[.pointer none] w fun e w' => e = .returned (.tuple #[.slice none 0 0, .int .i64 0]) ∧ w = w' := by
  go_enter Try.func40, Try.ntmps40
  go_wp2_with (go_at_call 38; refine (Size_nil _).mono ?_; rintro e w1 ⟨rfl, rfl⟩)
  go_ret2
  exact ⟨rfl, rfl⟩
set_option maxRecDepth 100000 in
set_option maxHeartbeats 800000 in
theorem records_none (w : World) : Calls Try.prog 48 #[.slice none 0 0] w fun e w' => ∃ v', e = .returned v' ∧ RecsAt w' w.heap.size v' [] ∧ Below w.heap.size w w' := by
  have := records_any (fun _ => True) (fun _ => True) [] (.slice none 0 0) w ⟨by simp, by simp, none, 0, rfl, by simp, fun _ => rfl, fun h => by simp at h⟩ (by simp) (by simp)
  simpa using this
set_option maxRecDepth 100000 in
set_option maxHeartbeats 800000 in
theorem WRead_nil (w : World) : Calls Try.prog 21 #[.pointer none] w fun e w' => ∃ v', e = .returned v' ∧ RecsAt w' w.heap.size v' [] ∧ Below w.heap.size w w' := by
  go_enter Try.func21, Try.ntmps21
  go_wp2_with (first
    | (go_at_call 40; refine (scan_nil _).mono ?_; rintro e w1 ⟨rfl, rfl⟩)
    | (go_at_call 48; refine (records_none _).mono ?_; rintro e w1 ⟨v1, rfl, g1, g2⟩; have G1 := Sec.mk g1; have G2 := Sec.mk g2; clear g1 g2))
  go_ret
  exact ⟨_, rfl, G1.out, G2.out⟩
theorem RecsAt.lower {w : World} {B B' : Nat} {v : Value} {l : List PRec} (h : RecsAt w B v l) (hb : B' ≤ B) : RecsAt w B' v l := by
  obtain ⟨es, h1, h2, h3⟩ := h.ex
  exact ⟨es, h1, row_lower h2 hb, fun e he => (h3 e he).lower hb⟩
theorem ens_records {w : World} {B db : Nat} {v : Value} {es : List En} (h : EnsAt w B db v es) (hn : es.length ≤ 100000) : Calls Try.prog 48 #[v] w fun e w' => ∃ v', e = .returned v' ∧ RecsAt w' w.heap.size v' (es.map (·.r)) ∧ Below w.heap.size w w' :=
  records_any (fun b => B ≤ b) (fun b => B ≤ b) es v w (Sl.of_row h.row (by omega)) (fun e he => ⟨(h.all e he).rr.recSl (by have := (h.all e he).t64; omega) (by have := (h.all e he).d16; omega), (h.all e he).b.imp (fun k hk => hk.2.2), by have := (h.all e he).t64; omega, by have := (h.all e he).d16; omega⟩) hn
set_option maxRecDepth 100000 in
set_option maxHeartbeats 800000 in
theorem WRead_any (dg db : Nat) (D : PDev) (w : World) (H : DevAt w dg db D) (hl : 64 ≤ D.b.length) :
    Calls Try.prog 21 #[.pointer (some ⟨dg, 0, none⟩)] w fun e w' => ∃ v', e = .returned v' ∧ RecsAt w' w.heap.size v' ((stands D.b).map (·.1)) ∧ Below w.heap.size w w' := by
  have HS := Sec.mk (scan_any dg db D w H hl)
  have hsz0 := stands_size D.b hl
  have hsz := And.intro hsz0.1 (sizeOfL_six _ hsz0.2)
  clear hsz0
  have hlen := H.ok.2.1
  clear H
  generalize stands D.b = S at *
  go_enter Try.func21, Try.ntmps21
  go_wp2_with (go_at_call 40; refine HS.out.mono ?_; rintro e w1 ⟨v1, es, rfl, h1, h2, h3⟩; have H1 := Sec.mk h1; have H2 := Sec.mk h2; have H3 := Sec.mk h3; clear h1 h2 h3)
  have hel : es.length = S.length := by rw [← H2.out, List.length_map]
  refine (ens_records H1.out (by omega)).mono ?_
  rintro e w2 ⟨v2, rfl, g1, g2⟩
  have G1 := Sec.mk g1
  have G2 := Sec.mk g2
  clear g1 g2 hel
  go_wp2
  go_ret
  have e1 : es.map (·.r) = S.map (·.1) := by rw [← H2.out, List.map_map]; rfl
  rw [← e1]
  exact ⟨_, rfl, G1.out.lower H3.out.size, H3.out.trans (G2.out.mono H3.out.size)⟩

/-! ### Open -/
set_option maxRecDepth 100000 in
set_option maxHeartbeats 800000 in
theorem Open_nil (h : Int) (w : World) : Calls Try.prog 10 #[.pointer none, .int .i64 h] w fun e w' => e = .returned (.tuple #[.pointer none, .int .i64 1]) ∧ w = w' := by
  go_enter Try.func10, Try.ntmps10
  go_wp2_with (go_at_call 38; refine (Size_nil _).mono ?_; rintro e w1 ⟨rfl, rfl⟩)
  go_ret2
  exact ⟨rfl, rfl⟩
set_option maxRecDepth 100000 in
set_option maxHeartbeats 800000 in
theorem Open_small (dg db : Nat) (D : PDev) (h : Int) (w : World) (H : DevAt w dg db D) (hl : D.b.length < 64) : Calls Try.prog 10 #[.pointer (some ⟨dg, 0, none⟩), .int .i64 h] w fun e w' => e = .returned (.tuple #[.pointer none, .int .i64 1]) ∧ w = w' := by
  have HS := Sec.mk (Size_any dg db D w H)
  have h1 : (D.b.length : Int) < 64 := by omega
  clear H
  go_enter Try.func10, Try.ntmps10
  go_wp2_with (go_at_call 38; refine HS.out.mono ?_; rintro e w1 ⟨rfl, rfl⟩)
  go_ret2
  exact ⟨rfl, rfl⟩
set_option maxRecDepth 100000 in
set_option maxHeartbeats 800000 in
theorem Open_arg (dg db : Nat) (D : PDev) (h : Int) (w : World) (H : DevAt w dg db D) (hl : 64 ≤ D.b.length) (hh : ¬ (0 ≤ h ∧ h < 8)) : Calls Try.prog 10 #[.pointer (some ⟨dg, 0, none⟩), .int .i64 h] w fun e w' => e = .returned (.tuple #[.pointer none, .int .i64 1]) ∧ w = w' := by
  have HS := Sec.mk (Size_any dg db D w H)
  have h1 : ¬ (D.b.length : Int) < 64 := by omega
  clear H
  by_cases h0 : h < 0
  · clear hh
    go_enter Try.func10, Try.ntmps10
    go_wp2_with (go_at_call 38; refine HS.out.mono ?_; rintro e w1 ⟨rfl, rfl⟩)
    go_ret2
    exact ⟨rfl, rfl⟩
  · have h8 : 8 ≤ h := by omega
    clear hh
    go_enter Try.func10, Try.ntmps10
    go_wp2_with (go_at_call 38; refine HS.out.mono ?_; rintro e w1 ⟨rfl, rfl⟩)
    go_ret2
    exact ⟨rfl, rfl⟩
set_option maxRecDepth 100000 in
set_option maxHeartbeats 800000 in
theorem Open_busy (dg db : Nat) (D : PDev) (h : Nat) (w : World) (H : DevAt w dg db D) (hl : 64 ≤ D.b.length) (hh : h < 8) (pl : Nat) (bs : List UInt8) (hu : D.up[h]? = some (some (pl, bs))) : Calls Try.prog 10 #[.pointer (some ⟨dg, 0, none⟩), .int .i64 (h : Nat)] w fun e w' => e = .returned (.tuple #[.pointer none, .int .i64 10]) ∧ Below w.heap.size w w' := by
  have HS := Sec.mk (Size_any dg db D w H)
  have h1 : ¬ (D.b.length : Int) < 64 := by omega
  have hup : handUp D (h : Int) = some (pl, bs) := by unfold handUp; rw [if_pos (by omega)]; simp [hu]
  have HF := Flying_any dg db D (h : Nat) w H
  rw [hup] at HF
  simp only at HF
  have HF := Sec.mk HF
  have h8 : (h : Int) < 8 := by omega
  clear H hu hup
  go_enter Try.func10, Try.ntmps10
  go_wp2_with (first
    | (go_at_call 38; refine HS.out.mono ?_; rintro e w1 ⟨rfl, rfl⟩)
    | (go_at_call 39; refine HF.out.mono ?_; rintro e w1 ⟨g1, rfl⟩; have G1 := Sec.mk g1; clear g1))
  go_ret2
  exact ⟨rfl, G1.out⟩
set_option maxRecDepth 100000 in
set_option maxHeartbeats 800000 in
theorem Open_ok (B dg db : Nat) (D : PDev) (h : Nat) (w : World) (H : DevAt w dg db D) (hl : 64 ≤ D.b.length) (hh : h < 8) (hu : D.up[h]? = some none) (hB : B ≤ w.heap.size) (hd1 : B ≤ dg) (hd2 : B ≤ db) :
    Calls Try.prog 10 #[.pointer (some ⟨dg, 0, none⟩), .int .i64 (h : Nat)] w fun e w' => ∃ lg, e = .returned (.tuple #[.pointer (some ⟨lg, 0, none⟩), .int .i64 0]) ∧ LogAt w' B lg dg db (openP D.b h) D ∧ Below w.heap.size w w' ∧ w.heap.size ≤ lg := by
  have HS := Sec.mk (Size_any dg db D w H)
  have h1 : ¬ (D.b.length : Int) < 64 := by omega
  have hup : handUp D (h : Int) = none := by unfold handUp; rw [if_pos (by omega)]; simp [hu]
  have HF := Flying_any dg db D (h : Nat) w H
  rw [hup] at HF
  simp only at HF
  have HF := Sec.mk HF
  have h8 : (h : Int) < 8 := by omega
  have HH := Sec.mk H
  clear H hu hup
  go_enter Try.func10, Try.ntmps10
  go_wp2_with (first
    | (go_at_call 38; refine HS.out.mono ?_; rintro e w1 ⟨rfl, rfl⟩)
    | (go_at_call 39; refine HF.out.mono ?_; rintro e w1 ⟨g1, rfl⟩; have G1 := Sec.mk g1; clear g1)
    | (go_at_call 40; refine (scan_any dg db D _ (HH.out.below G1.out) hl).mono ?_; rintro e w2 ⟨v2, es, rfl, g1, g2, g3⟩; have E2 := Sec.mk g1; have E3 := Sec.mk g2; have E4 := Sec.mk g3; obtain ⟨A2, c2, rfl⟩ := row_shape g1.row; clear g1 g2 g3))
  go_ret2
  have hB2 : Below w.heap.size w w2 := G1.out.trans (E4.out.mono G1.out.size)
  have hs1 := G1.out.size
  have hs2 := hB2.size
  have hel : es.length = (stands D.b).length := by rw [← E3.out, List.length_map]
  refine ⟨_, rfl, ?_, hB2.alloc hs2 _, hs2⟩
  refine ⟨(HH.out.below hB2).below ((Below.refl _ _).alloc (Nat.le_refl _) _), openP_ok _ _ hl hh, ⟨.slice A2 es.length c2, es, ?_, ((E2.out.lower (by omega)).below ((Below.refl _ _).alloc (Nat.le_refl _) _)), E3.out⟩, by omega, hd1, hd2⟩
  have := bk_new w2 (.cells ((openP D.b h).cs dg (.slice A2 es.length c2)).toArray 91)
  simp only [PLog.cs, openP] at this ⊢
  rw [← hel] at this ⊢
  exact this
end Go.Proofs.Ytgnlhjphmaikkaa
