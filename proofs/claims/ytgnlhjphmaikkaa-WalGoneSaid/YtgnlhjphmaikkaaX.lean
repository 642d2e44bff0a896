/- Package wal, walked: records. Conditions: the entries read. -/
import Derived.Test.YtgnlhjphmaikkaaV
import Derived.Deep.MidRow
set_option linter.unusedVariables false
set_option linter.unusedSimpArgs false
namespace Go.Proofs.Ytgnlhjphmaikkaa
open Go.RowKit

/-- A struct goes whole into a new cell: the world behind it is one that has it there. -/
theorem list_box {P : Program} {ops : Array Oper} {rest : List Oper} {o : Oper} {a : Act} {w : World} {Q : Exit → Act → World → Prop} {old : Array Value} {t : TypeId} (hgd : o.guard = none) (ty : TypeId) (x y : Operand) (ho : o.op = .store ty x y)
    (cells : Array Value) (hx : a.eval x = .pointer (some ⟨w.heap.size, 0, none⟩)) (hy : a.eval y = .agg cells) (hi : (P.info? ty).map (·.size) = some cells.size) (hold : old.size = cells.size) (h1 : cells.all (·.oneCell') = true)
    (h : ∀ W : World, Below w.heap.size w W → W.heap.size = w.heap.size + 1 → W.heap[w.heap.size]? = some (.cells cells t) → wpList P ops Q rest (a.put o.dst undef) W) : wpList P ops Q (o :: rest) a (w.alloc (.cells old t)) :=
  wpList_store_row hgd ty x y ho w.heap.size cells hx hy t old (bk_new w _) hi hold h1 (h _ (below_setRow ((Below.refl _ _).alloc (Nat.le_refl _) _) (Nat.le_refl _) _) (by simp) (setRow_heap _ _ _ _ _ _ (bk_new w _)))

theorem info41 : (Try.prog.info? 41).map (fun i => (i.zero, i.size, i.bytes)) = some (some (.agg cell12.toArray), 12, 152) := by kernel_rfl
theorem info95 : (Try.prog.info? 95).map (fun i => (i.zero, i.size, i.bytes)) = some (some (.agg (cell12 ++ [Value.slice none 0 0]).toArray), 13, 176) := by kernel_rfl
/-- A record with its slices' values. -/
structure Ent where
  r : PRec
  vt : Value
  vd : Value
def Ent.cs (e : Ent) : List Value := rcs e.r e.vt e.vd
/-- v is a row of records, of one's own, from base B on. -/
structure RecsAt (w : World) (B : Nat) (v : Value) (l : List PRec) : Prop where
  ex : ∃ es : List Ent, es.map (·.r) = l ∧ w.ownsRow B 41 12 v l.length (es.flatMap Ent.cs) ∧ ∀ e ∈ es, RecRow w B e.r e.vt e.vd
theorem flat_len {α : Type} (f : α → List Value) (k : Nat) (hf : ∀ x, (f x).length = k) : ∀ l : List α, (l.flatMap f).length = l.length * k
  | [] => by simp
  | x :: l => by rw [List.flatMap_cons, List.length_append, hf, flat_len f k hf l, List.length_cons, Nat.add_mul, Nat.one_mul]; omega
theorem flat_get {α : Type} (f : α → List Value) (k : Nat) (hf : ∀ x, (f x).length = k) : ∀ (l : List α) (i j : Nat) (hi : i < l.length) (hj : j < k), (l.flatMap f)[i * k + j]? = (f l[i])[j]?
  | x :: l, 0, j, _, hj => by simp [List.getElem?_append, hf, hj]
  | x :: l, i + 1, j, hi, hj => by
    rw [List.flatMap_cons, List.getElem?_append_right (by rw [hf, Nat.add_mul]; omega), hf, show (i + 1) * k + j - k = i * k + j by rw [Nat.add_mul]; omega]
    exact flat_get f k hf l i j (by simpa using hi) hj
theorem rcs_len (r : PRec) (vt vd : Value) : (rcs r vt vd).length = 12 := rfl
theorem RecRow.kept {w w1 : World} {B : Nat} {r : PRec} {vt vd : Value} (h : RecRow w B r vt vd) (hk : ∀ k t, (t = 136 ∨ t = 138) → B ≤ k → Ty w t k → w1.heap[k]? = w.heap[k]?) : RecRow w1 B r vt vd := by
  have f : ∀ {e : TypeId} {size n : Nat} {v : Value} {xs : List Value}, w.ownsRow B e size v n xs → (e = 136 ∨ e = 138) → w1.ownsRow B e size v n xs := fun {e size n v xs} h he => row_kept h fun k hb => hk k e he (h.lt k hb).1 (by
    rcases h.2 with ⟨rfl, _⟩ | ⟨g, cap, cur, rfl, _, hh, _⟩
    · simp [Value.ownBlock] at hb
    · simp [Value.ownBlock] at hb; subst hb; exact ⟨_, _, hh⟩)
  exact ⟨f h.t (.inl rfl), f h.d (.inr rfl)⟩
theorem RecRow.below {w w1 : World} {B : Nat} {r : PRec} {vt vd : Value} (h : RecRow w B r vt vd) (hb : Below w.heap.size w w1) : RecRow w1 B r vt vd := h.kept fun k t _ _ ht => by obtain ⟨_, _, ht⟩ := ht; exact hb.block k (bk_lt ht)
theorem RecRow.grown {w w1 : World} {B : Nat} {r : PRec} {vt vd : Value} (h : RecRow w B r vt vd) {row : Option Nat} (hg : w.grownBy w1 row) (hr : ∀ k, row = some k → ¬ Ty w 136 k ∧ ¬ Ty w 138 k) : RecRow w1 B r vt vd := h.kept fun k t ht _ hty => by
  obtain ⟨cs, f, h1⟩ := hty
  refine hg.block k (bk_lt h1) (fun e => ?_)
  have := hr k e.symm
  rcases ht with rfl | rfl
  · exact this.1 ⟨_, _, h1⟩
  · exact this.2 ⟨_, _, h1⟩

theorem row_ty {w : World} {B : Nat} {e : TypeId} {size n : Nat} {v : Value} {xs : List Value} (h : w.ownsRow B e size v n xs) {k : Nat} (hk : v.ownBlock = some k) (t : TypeId) (ht : t ≠ e) : ¬ Ty w t k := by
  rcases h.2 with ⟨rfl, _⟩ | ⟨g, cap, cur, rfl, _, hh, _⟩
  · simp [Value.ownBlock] at hk
  · simp [Value.ownBlock] at hk; subst hk
    rintro ⟨cs, f, h1⟩
    rw [hh] at h1; injection h1 with h1; injection h1 with _ h2; exact ht h2.symm
theorem RecsAt.below {w w1 : World} {B : Nat} {v : Value} {l : List PRec} (h : RecsAt w B v l) (hb : Below w.heap.size w w1) : RecsAt w1 B v l := by
  obtain ⟨es, h1, h2, h3⟩ := h.ex
  exact ⟨es, h1, row_below h2 hb, fun e he => (h3 e he).below hb⟩
theorem RecsAt.snoc {w w1 : World} {B : Nat} {v v1 : Value} {es : List Ent} {r : PRec} {vt vd : Value} (hrow : w.ownsRow B 41 12 v es.length (es.flatMap Ent.cs)) (hrr : ∀ e ∈ es, RecRow w B e.r e.vt e.vd) (hr : RecRow w B r vt vd)
    (hg : w.grownBy w1 v.ownBlock) (h1 : w1.ownsRow B 41 12 v1 (es.length + 1) (es.flatMap Ent.cs ++ rcs r vt vd)) : RecsAt w1 B v1 (es.map (·.r) ++ [r]) := by
  have hk : ∀ k, v.ownBlock = some k → ¬ Ty w 136 k ∧ ¬ Ty w 138 k := fun k hk => ⟨row_ty hrow hk 136 (by decide), row_ty hrow hk 138 (by decide)⟩
  refine ⟨es ++ [⟨r, vt, vd⟩], by simp, by simpa [Ent.cs] using h1, fun e he => ?_⟩
  rcases List.mem_append.1 he with he | he
  · exact (hrr e he).grown hg hk
  · rw [List.mem_singleton] at he; subst he; exact hr.grown hg hk

/-- A log's entry: the record, its frame, the slices' values. -/
structure En where
  r : PRec
  b : List UInt8
  vt : Value
  vd : Value
  vb : Value
def En.cs (e : En) : List Value := ecs e.r e.vt e.vd e.vb
theorem size95 : (Try.prog.info? 95).map (·.size) = some 13 := by kernel_rfl
theorem size41 : (Try.prog.info? 41).map (·.size) = some 12 := by kernel_rfl
theorem ecs_one (r : PRec) (A1 A2 A3 : Option Addr) (n1 n2 n3 c1 c2 c3 : Nat) : ((ecs r (.slice A1 n1 c1) (.slice A2 n2 c2) (.slice A3 n3 c3)).toArray.all (·.oneCell')) = true := by simp [ecs, rcs, Value.oneCell']
theorem rcs_one' {r : PRec} {vt vd : Value} (h : (∃ A c, vt = .slice A r.txns.length c) ∧ ∃ A c, vd = .slice A r.dirty.length c) : ∀ u ∈ rcs r vt vd, u.oneCell' = true := by
  obtain ⟨⟨A1, c1, rfl⟩, A2, c2, rfl⟩ := h
  intro u hu
  simp [rcs] at hu
  rcases hu with rfl | rfl | rfl | rfl | rfl | rfl | rfl | rfl | rfl | rfl | rfl | rfl <;> rfl
theorem rcs_one (r : PRec) (A1 A2 : Option Addr) (n1 n2 c1 c2 : Nat) : ((rcs r (.slice A1 n1 c1) (.slice A2 n2 c2)).toArray.all (·.oneCell')) = true := by simp [rcs, Value.oneCell']
set_option maxRecDepth 100000 in
set_option maxHeartbeats 1600000 in
theorem records_any (ok1 ok2 : Nat → Prop) (es : List En) (v : Value) (w : World) (HV : Sl w ok1 13 v es.length (es.flatMap En.cs)) (HE : ∀ e ∈ es, RecSl w ok2 e.r e.vt e.vd ∧ Sl w ok2 1 e.vb e.b.length (bv e.b) ∧ e.r.txns.length ≤ 1000000 ∧ e.r.dirty.length ≤ 1000000) (hn : es.length ≤ 100000) :
    Calls Try.prog 48 #[v] w fun e w' => ∃ v', e = .returned v' ∧ RecsAt w' w.heap.size v' (es.map (·.r)) ∧ Below w.heap.size w w' := by
  obtain ⟨A, c, rfl⟩ : ∃ A c, v = .slice A es.length c := by obtain ⟨_, _, A, c, e, _⟩ := HV; exact ⟨A, c, e⟩
  have HVV := Sec.mk HV
  have HEE := Sec.mk HE
  clear HV HE
  go_enter Try.func48, Try.ntmps48
  go_wp2_with fail
  go_loopw [3, 8] (fun o i wr => ∃ j : Nat, j ≤ es.length ∧ i = .int .i64 j ∧ Below w.heap.size w wr ∧ RecsAt wr w.heap.size o ((es.take j).map (·.r))) (fun _ i _ => es.length - (intOf i).toNat)
  case atStart => exact ⟨0, by omega, rfl, Below.refl _ _, ⟨[], by simp, by simpa using World.ownsRow_nil _ _ _ _, by simp⟩⟩
  case round =>
    obtain ⟨j, hj, rfl, hB, hR⟩ := hrel
    have HB := Sec.mk hB
    have HR := Sec.mk hR
    clear hB hR
    by_cases hlt : j < es.length
    · have hlti : (j : Int) < (es.length : Int) := by omega
      obtain ⟨b, o, rfl, hc⟩ : ∃ b o, A = some ⟨b, o, none⟩ ∧ ∀ m u, (es.flatMap En.cs)[m]? = some u → wr.cell? ⟨b, o + m, none⟩ = some u := by
        obtain ⟨_, _, A', c', e, _, _, h5⟩ := HVV.out.below HB.out
        injection e with e1 e2 e3
        subst e1 e3
        obtain ⟨b, o, e, _, h7⟩ := h5 (by omega)
        exact ⟨b, o, e, h7⟩
      have hrg : wr.rangeAt b (o + j * 13) (es[j]).cs := fun m u hu => by
        have hm : m < 13 := by
          have := (List.getElem?_eq_some_iff.1 hu).1
          exact this
        rw [Nat.add_assoc]
        exact hc _ _ ((flat_get En.cs 13 (fun _ => rfl) es j m hlt hm).trans hu)
      obtain ⟨hrs, hvb, hl1, hl2⟩ := HEE.out _ (List.getElem_mem hlt)
      have htk : es.take (j + 1) = es.take j ++ [es[j]] := by rw [List.take_add_one]; simp [hlt]
      have HTK := Sec.mk htk
      clear htk hc
      generalize es[j] = e at *
      obtain ⟨r, fb, vt, vd, vb⟩ := e
      simp only at hrs hvb hl1 hl2
      simp only [En.cs] at hrg
      obtain ⟨A1, c1, rfl⟩ : ∃ A c, vt = .slice A r.txns.length c := by obtain ⟨_, _, A, c, e, _⟩ := hrs.t; exact ⟨A, c, e⟩
      obtain ⟨A2, c2, rfl⟩ : ∃ A c, vd = .slice A r.dirty.length c := by obtain ⟨_, _, A, c, e, _⟩ := hrs.d; exact ⟨A, c, e⟩
      obtain ⟨A3, c3, rfl⟩ : ∃ A c, vb = .slice A fb.length c := by obtain ⟨_, _, A, c, e, _⟩ := hvb; exact ⟨A, c, e⟩
      have HRS := Sec.mk hrs
      have HRG := Sec.mk hrg
      clear hrg hrs hvb
      go_upto_region 5 with (first
        | (refine wpList_load_mid rfl 95 (.tmp 10) rfl b (o + j * 13) rfl _ _ HRG.out Try.underlying95 rfl (size95.trans rfl) ?_)
        | (refine list_box rfl 95 _ _ rfl _ rfl rfl (size95.trans rfl) rfl (ecs_one _ _ _ _ _ _ _ _ _ _) ?_; intro W5 hb5 hz5 hh5; have HB5 := Sec.mk hb5; have HH5 := Sec.mk hh5; have HZ5 := Sec.mk hz5; clear hb5 hz5 hh5))
      have hw5 := HB.out.size
      have h5 : Below w.heap.size w W5 := HB.out.trans (HB5.out.mono hw5)
      have hR5 : RecsAt W5 w.heap.size u3 ((es.take j).map (·.r)) := HR.out.below HB5.out
      have hrs5 := HRS.out.below h5
      obtain ⟨es', hm', hrow', hrr'⟩ := hR5.ex
      have hesl : es'.length = j := by have := congrArg List.length hm'; simp at this; omega
      have hel : ((es.take j).map (·.r)).length = es'.length := by rw [← hm', List.length_map]
      rw [hel] at hrow'
      have hrg5 : W5.rangeAt wr.heap.size 0 (rcs r (.slice A1 r.txns.length c1) (.slice A2 r.dirty.length c2)) := fun m u hu => by
        have hm : m < 12 := (List.getElem?_eq_some_iff.1 hu).1
        rw [Nat.zero_add, bk_cell HH5.out, List.getElem?_toArray]
        unfold ecs
        rw [List.getElem?_append_left (by exact hm)]; exact hu
      have HC := Sec.mk (copied_any ok2 r _ _ W5 hrs5 hl1 hl2)
      have H55 := Sec.mk (And.intro h5 (And.intro hrow' (And.intro hrr' (And.intro hm' hrg5))))
      have HEL := Sec.mk hesl
      obtain ⟨A7, c7, e7⟩ := row_shape hrow'
      clear h5 hR5 hrs5 hrow' hrr' hm' hrg5 HR hesl hel
      subst e7
      have hs5 := H55.out.1.size
      go_upto_region 6 with (first
        | (refine wpList_load_mid rfl 41 (.tmp 13) rfl wr.heap.size 0 rfl _ _ H55.out.2.2.2.2 Try.underlying41 rfl (size41.trans rfl) ?_)
        | (go_at_call 64; refine HC.out.mono ?_; rintro e w6 ⟨vt6, vd6, rfl, hr6, hb6⟩; obtain ⟨⟨A6, c6, rfl⟩, A66, c66, rfl⟩ := hr6.shape; have HR6 := Sec.mk hr6; have HB6 := Sec.mk hb6; have hs6 := hb6.size; clear hr6 hb6; simp only [rcs])
        | (refine list_app w.heap.size rfl (.tmp 12) (.tmp 16) 31 41 (.agg cell12.toArray) 12 152 rfl Try.underlying31 info41 rfl (by decide) (by decide) (.slice A7 es'.length c7) rfl (.slice (some ⟨w6.heap.size, 0, none⟩) 1 1) rfl es'.length (es'.flatMap Ent.cs) (row_below (row_below H55.out.2.1 HB6.out) ((Below.refl _ _).alloc (Nat.le_refl _) _)) (fun b => b = w6.heap.size) 1 (rcs r (.slice A6 r.txns.length c6) (.slice A66 r.dirty.length c66)) (sl_box w6.heap.size (cs := rcs r (.slice A6 r.txns.length c6) (.slice A66 r.dirty.length c66)) 12 1 (bk_new w6 _) rfl (by omega)) (rcs_one' (RecRow.shape HR6.out)) (by simp; omega) (by have := HEL.out; omega) ?_
           intro A8 c8 w8 g1 g2 g3
           have H8 := Sec.mk (And.intro g1 g2)
           clear g1 g2 g3))
      have hB6 := H55.out.1.trans (HB6.out.mono hs5)
      have hal : Below w6.heap.size w6 (w6.alloc (.cells (rcs r (.slice A6 r.txns.length c6) (.slice A66 r.dirty.length c66)).toArray 41)) := (Below.refl _ _).alloc (Nat.le_refl _) _
      have hr8 : RecsAt w8 w.heap.size (.slice A8 (es'.length + 1) c8) ((es.take (j + 1)).map (·.r)) := by
        have h1 := RecsAt.snoc (row_below (row_below H55.out.2.1 HB6.out) hal) (fun e he => ((H55.out.2.2.1 e he).below HB6.out).below hal) ((HR6.out.lower hs5).below hal) H8.out.2 H8.out.1
        rw [H55.out.2.2.2.1] at h1
        rw [HTK.out, List.map_append]; exact h1
      have h8 : Below w.heap.size w w8 := (hB6.trans (hal.mono (by omega))).grown H8.out.2 (by have := hB6.size; simp; omega) (row_base (row_below (row_below H55.out.2.1 HB6.out) hal))
      have H88 := Sec.mk (And.intro hr8 h8)
      clear hr8 h8 hal hB6
      go_wp2
      go_roundw
      case rel => exact ⟨j + 1, by omega, by go_num, H88.out.2, H88.out.1⟩
      case measure => simp [intOf]; omega
    · obtain rfl : j = es.length := by omega
      rw [List.take_length] at HR
      go_wp2
      go_ret
      exact ⟨_, rfl, HR.out, HB.out⟩
end Go.Proofs.Ytgnlhjphmaikkaa
