/- What a log and its device have to do with one another, in plain lists: what stands on the device is what is stable, whatever is torn. No walk in it. Conditions: none. -/
import Derived.Test.YtgnlhjphmaikkaaZE
set_option linter.unusedVariables false
set_option linter.unusedSimpArgs false
namespace Go.Proofs.Ytgnlhjphmaikkaa
open Go.RowKit

/-! ### Frames that stand one behind the other -/
structure Good (l : List (PRec × List UInt8)) : Prop where
  each : ∀ x ∈ l, x.1.may ∧ x.1.wf ∧ x.2 = frame x.1
  inc : l.Pairwise fun a b => a.1.lsn < b.1.lsn
theorem Good.take {l : List (PRec × List UInt8)} (h : Good l) (k : Nat) : Good (l.take k) := ⟨fun x hx => h.each x (List.mem_of_mem_take hx), h.inc.sublist (List.take_sublist k l)⟩
theorem Good.tail {x : PRec × List UInt8} {l : List (PRec × List UInt8)} (h : Good (x :: l)) : Good l := ⟨fun y hy => h.each y (List.mem_cons_of_mem _ hy), (List.pairwise_cons.1 h.inc).2⟩
theorem Good.nil : Good [] := ⟨by simp, List.Pairwise.nil⟩
theorem lastOf_le {l : List (PRec × List UInt8)} (h : Good l) : ∀ x ∈ l, x.1.lsn ≤ lastOf l := by
  intro x hx
  unfold lastOf
  rw [List.getLast?_eq_getElem?]
  obtain ⟨i, hi, rfl⟩ := List.getElem_of_mem hx
  rw [List.getElem?_eq_getElem (by omega)]
  simp only [Option.map_some, Option.getD_some]
  rcases Nat.lt_or_ge i (l.length - 1) with h1 | h1
  · exact Int.le_of_lt (List.pairwise_iff_getElem.1 h.inc i (l.length - 1) hi (by omega) h1)
  · have : i = l.length - 1 := by omega
    subst this
    exact Int.le_refl _
theorem Good.snoc {l : List (PRec × List UInt8)} {r : PRec} (h : Good l) (hm : r.may) (hw : r.wf) (hl : ¬ r.lsn ≤ lastOf l) : Good (l ++ [(r, frame r)]) := by
  refine ⟨fun x hx => ?_, List.pairwise_append.2 ⟨h.inc, List.pairwise_singleton _ _, fun a ha b hb => ?_⟩⟩
  · rcases List.mem_append.1 hx with hx | hx
    · exact h.each x hx
    · rw [List.mem_singleton] at hx; subst hx; exact ⟨hm, hw, rfl⟩
  · rw [List.mem_singleton] at hb; subst hb
    have := lastOf_le h a ha
    simp only; omega
theorem unframe_frame (r : PRec) (hm : r.may) (hw : r.wf) (rest : List UInt8) : unframe (frame r ++ rest) = some (r, (frame r).length) := by
  have hbl := body_length r hm
  have hfl := frame_length r
  have hx : (⟨frame r ++ rest, 0⟩ : Rd).num 2 = ((body r).length, ⟨body r ++ (le (crcSum (le (body r).length 2 ++ body r)) 4 ++ rest), 0⟩) := by
    have e : frame r ++ rest = le (body r).length 2 ++ (body r ++ (le (crcSum (le (body r).length 2 ++ body r)) 4 ++ rest)) := by
      simp [frame, sealed, List.append_assoc]
    rw [e]
    exact Rd.num_le 2 (body r).length _ (by omega)
  have ho : opened ((frame r ++ rest).take ((body r).length + 6)) = some (le (body r).length 2 ++ body r) := by
    rw [← hfl, List.take_left']
    · exact opened_sealed _
    · rfl
  have hd : decode ((le (body r).length 2 ++ body r).drop 2) = some r := by
    rw [List.drop_left' (le_length 2 _)]
    exact decode_body r hw hm
  have := unframe_dec _ _ hx (by simp; omega) _ ho _ hd
  rw [this, hfl]; rfl
theorem framesOf_cons (x : PRec × List UInt8) (l : List (PRec × List UInt8)) : framesOf (x :: l) = x.2 ++ framesOf l := by simp [framesOf]
theorem scanP_frames : ∀ (l : List (PRec × List UInt8)) (last : Int), Good l → (∀ x ∈ l, last < x.1.lsn) → scanP last (framesOf l) = l
  | [], last, _, _ => by rw [show framesOf [] = [] from rfl]; exact scanP_none _ _ (unframe_short [] _ rfl (.inl (by simp [Rd.num])))
  | (r, b) :: l, last, h, hl => by
    obtain ⟨hm, hw, hb⟩ := h.each (r, b) (List.mem_cons_self ..)
    simp only at hm hw hb
    subst hb
    rw [framesOf_cons]
    have h1 := hl (r, frame r) (List.mem_cons_self ..)
    simp only at h1 ⊢
    rw [scanP_more _ _ _ _ (unframe_frame r hm hw _) (by omega), List.take_left' rfl, List.drop_left' rfl]
    rw [scanP_frames l r.lsn h.tail (fun x hx => (List.pairwise_cons.1 h.inc).1 x hx)]
theorem stands_of {b : List UInt8} {l : List (PRec × List UInt8)} (hb : 64 ≤ b.length) (hg : Good l) (ht : toldOf b = sizeOfL l) (hd : (b.drop 64).take (sizeOfL l) = framesOf l) : stands b = l := by
  unfold stands
  rw [if_neg (by omega), ht, hd]
  exact scanP_frames l 0 hg (fun x hx => by have := (hg.each x hx).1.2.2.1.1; omega)

/-! ### Bytes laid over others, place by place -/
theorem over_get (b x : List UInt8) (p i : Nat) (h : p + x.length ≤ b.length) : (over b p x)[i]? = if i < p then b[i]? else if i < p + x.length then x[i - p]? else b[i]? := by
  unfold over
  have h1 : (b.take p).length = p := by rw [List.length_take]; omega
  rw [List.append_assoc]
  by_cases h2 : i < p
  · rw [if_pos h2, List.getElem?_append_left (by omega), List.getElem?_take, if_pos h2]
  · rw [if_neg h2, List.getElem?_append_right (by omega), h1]
    by_cases h3 : i < p + x.length
    · rw [if_pos h3, List.getElem?_append_left (by omega)]
    · rw [if_neg h3, List.getElem?_append_right (by omega), List.getElem?_drop]
      congr 1; omega
theorem toldOf_same {b b' : List UInt8} (hl : b'.length = b.length) (h : ∀ i, i < 8 → b'[i]? = b[i]?) : toldOf b' = toldOf b := by
  have e : (b'.drop 0).take 8 = (b.drop 0).take 8 := by
    apply List.ext_getElem?
    intro i
    rw [List.getElem?_take, List.getElem?_take, List.drop_zero, List.drop_zero]
    split
    · exact h i (by assumption)
    · rfl
  unfold toldOf
  rw [e, hl]
theorem toldOf_mark {b : List UInt8} {n : Nat} (hb : 64 ≤ b.length) (hn : n + 64 ≤ b.length) (h32 : n < 4294967296) (h : ∀ i, i < 8 → b[i]? = (markOf n)[i]?) : toldOf b = n := by
  have hs : (sealed (le n 4)).length = 8 := by simp [sealed, le_length]
  have e : (b.drop 0).take 8 = sealed (le n 4) := by
    apply List.ext_getElem?
    intro i
    rw [List.getElem?_take, List.drop_zero]
    split
    · rw [h i (by assumption)]
      unfold markOf fillTo
      rw [List.getElem?_append_left (by omega)]
    · rw [List.getElem?_eq_none (by omega)]
  unfold toldOf
  rw [e, opened_sealed]
  have e2 : ((⟨le n 4, 0⟩ : Rd).num 4).1 = n := by
    have := Rd.num_le 4 n [] (by omega)
    rw [List.append_nil] at this
    rw [this]
  simp only [e2]
  rw [if_neg (by omega)]

/-! ### A log and its device -/
structure Inv (G : PLog) (D : PDev) : Prop where
  mod : D.b.length % 64 = 0
  big : 64 ≤ D.b.length
  few : D.b.length ≤ 65536
  ups : D.up.length = 8
  ok : G.ok D.b.length
  good : Good G.l
  told : toldOf D.b = sizeOfL (G.l.take G.stable)
  data : (D.b.drop 64).take (sizeOfL (G.l.take G.stable)) = framesOf (G.l.take G.stable)
  idle : G.flies = 0 → D.up[G.hand]? = some none
  recs : 0 < G.flies → G.twice = false → G.stable < G.flies ∧ D.up[G.hand]? = some (some (64 + G.at0, (fillTo (framesOf (G.l.take G.flies))).drop G.at0)) ∧ G.marked = sizeOfL (G.l.take G.flies)
  mark : 0 < G.flies → G.twice = true → D.up[G.hand]? = some (some (0, markOf G.marked)) ∧ G.marked = sizeOfL (G.l.take G.flies) ∧ (D.b.drop 64).take G.marked = framesOf (G.l.take G.flies)
theorem Inv.stand {G : PLog} {D : PDev} (h : Inv G D) : stands D.b = G.l.take G.stable := stands_of h.big (h.good.take _) h.told h.data
theorem Inv.snoc {G : PLog} {D : PDev} (h : Inv G D) (x : PRec × List UInt8) (G' : PLog) (hl : G'.l = G.l ++ [x]) (h1 : G'.stable = G.stable) (h2 : G'.flies = G.flies) (h3 : G'.marked = G.marked) (h4 : G'.twice = G.twice) (h5 : G'.hand = G.hand) (hok : G'.ok D.b.length) (hg : Good G'.l) : Inv G' D := by
  have e1 : G'.l.take G'.stable = G.l.take G.stable := by rw [hl, h1, List.take_append_of_le_length h.ok.stable]
  have e2 : G'.l.take G'.flies = G.l.take G.flies := by rw [hl, h2, List.take_append_of_le_length h.ok.flies]
  have e3 : G'.at0 = G.at0 := by unfold PLog.at0; rw [e1]
  refine ⟨h.mod, h.big, h.few, h.ups, hok, hg, by rw [e1]; exact h.told, by rw [e1]; exact h.data, ?_, ?_, ?_⟩
  · rw [h2, h5]; exact h.idle
  · rw [e2, e3, h1, h2, h3, h4, h5]; exact h.recs
  · rw [e2, h2, h3, h4, h5]; exact h.mark
theorem Inv.same {G : PLog} {D : PDev} (h : Inv G D) (G' : PLog) (hl : G'.l = G.l) (h1 : G'.stable = G.stable) (h2 : G'.flies = G.flies) (h3 : G'.marked = G.marked) (h4 : G'.twice = G.twice) (h5 : G'.hand = G.hand) (hok : G'.ok D.b.length) : Inv G' D := by
  have e3 : G'.at0 = G.at0 := by unfold PLog.at0; rw [hl, h1]
  refine ⟨h.mod, h.big, h.few, h.ups, hok, by rw [hl]; exact h.good, by rw [hl, h1]; exact h.told, by rw [hl, h1]; exact h.data, ?_, ?_, ?_⟩
  · rw [h2, h5]; exact h.idle
  · rw [hl, e3, h1, h2, h3, h4, h5]; exact h.recs
  · rw [hl, h2, h3, h4, h5]; exact h.mark
theorem Inv.join {G : PLog} {D : PDev} (h : Inv G D) (r : PRec) (hw : r.wf) (room : Int) (hr : room ≤ (G.room D.b.length : Int)) : Inv (joinP G r room).1 D := by
  have hok := joinP_ok h.ok r room hr
  rcases joinP_cases G r room with e | e | ⟨e, h1, h2, h3⟩
  · rw [e]; exact h
  · rw [e]; exact h
  · rw [e] at hok ⊢
    exact h.snoc _ _ rfl rfl rfl rfl rfl rfl hok (h.good.snoc h1 hw h2)
theorem Inv.spend {G : PLog} {D : PDev} (h : Inv G D) (r : PRec) (hw : r.wf) : Inv (spendP G r).1 D := by
  have hok := spendP_ok h.ok r
  unfold spendP at hok ⊢
  rcases joinP_cases G r (G.kept : Nat) with e | e | ⟨e, h1, h2, h3⟩
  · rw [e] at hok ⊢; simpa using h
  · rw [e] at hok ⊢; simpa using h
  · rw [e] at hok ⊢
    rw [if_pos rfl] at hok ⊢
    exact h.snoc _ _ rfl rfl rfl rfl rfl rfl hok (h.good.snoc h1 hw h2)
theorem Inv.keep {G : PLog} {D : PDev} (h : Inv G D) (i : Int) : Inv (keepP G D.b.length i).1 D := by
  have hok := keepP_ok h.ok i
  unfold keepP at hok ⊢
  split
  · exact h
  · split
    · exact h
    · rename_i h1 h2
      rw [if_neg h1, if_neg h2] at hok
      exact h.same _ rfl rfl rfl rfl rfl rfl hok
theorem Inv.force {G : PLog} {D : PDev} (h : Inv G D) (hf : G.flies = 0) (hs : G.stable < G.l.length) : Inv (forceG G) (forceD G D) := by
  have hok : (forceG G).ok D.b.length := ⟨h.ok.hand, h.ok.size, h.ok.fits, h.ok.stable, Nat.le_refl _, h.ok.each, by have := h.ok.fits; have := h.few; simp only [forceG]; omega⟩
  have hlen : 0 < G.l.length := by omega
  refine ⟨h.mod, h.big, h.few, by simp [forceD, PDev.start, h.ups], hok, h.good, h.told, h.data, fun h0 => by have : G.l.length = 0 := h0; omega, fun _ _ => ⟨hs, ?_, ?_⟩, fun _ h0 => by simp [forceG] at h0⟩
  · simp only [forceD, PDev.start, forceG, List.take_length]
    rw [List.getElem?_set_self (by rw [h.ups]; exact h.ok.hand)]
    rfl
  · simp only [forceG, List.take_length]; exact h.ok.size
/-! ### Writes that end -/
theorem frames_prefix (l : List (PRec × List UInt8)) {k m : Nat} (h : k ≤ m) {i : Nat} (hi : i < sizeOfL (l.take k)) : (framesOf (l.take m))[i]? = (framesOf (l.take k))[i]? := by
  have e : l.take m = l.take k ++ (l.take m).drop k := by
    have := (List.take_append_drop k (l.take m)).symm
    rwa [List.take_take, Nat.min_eq_left h] at this
  have e2 : framesOf (l.take m) = framesOf (l.take k) ++ framesOf ((l.take m).drop k) := by
    conv => lhs; rw [e]
    simp [framesOf]
  rw [e2, List.getElem?_append_left (by rw [framesOf_length]; exact hi)]
theorem sizeOfL_mono (l : List (PRec × List UInt8)) {k m : Nat} (h : k ≤ m) : sizeOfL (l.take k) ≤ sizeOfL (l.take m) := by
  have := sizeOfL_take (l.take m) k
  rwa [List.take_take, Nat.min_eq_left h] at this
theorem data_get {b F : List UInt8} {n : Nat} (h : (b.drop 64).take n = F) {i : Nat} (hi : i < n) : b[64 + i]? = F[i]? := by
  rw [← h, List.getElem?_take, if_pos hi, List.getElem?_drop]
theorem data_of {b F : List UInt8} {n : Nat} (hn : F.length = n) (h : ∀ i, i < n → b[64 + i]? = F[i]?) : (b.drop 64).take n = F := by
  apply List.ext_getElem?
  intro i
  rw [List.getElem?_take, List.getElem?_drop]
  split
  · exact h i (by assumption)
  · rw [List.getElem?_eq_none (by omega)]
/-- What is so of a device on which just some records stand. -/
structure Stands (D : PDev) (l : List (PRec × List UInt8)) : Prop where
  told : toldOf D.b = sizeOfL l
  data : (D.b.drop 64).take (sizeOfL l) = framesOf l
theorem Inv.recs_fin {G : PLog} {D : PDev} (h : Inv G D) (hf : 0 < G.flies) (ht : G.twice = false) (m : Int) :
    Stands (D.fin G.hand (64 + G.at0) ((fillTo (framesOf (G.l.take G.flies))).drop G.at0) m) (G.l.take G.stable) ∧
    (m < 0 → ((D.fin G.hand (64 + G.at0) ((fillTo (framesOf (G.l.take G.flies))).drop G.at0) m).b.drop 64).take (sizeOfL (G.l.take G.flies)) = framesOf (G.l.take G.flies)) ∧
    (D.fin G.hand (64 + G.at0) ((fillTo (framesOf (G.l.take G.flies))).drop G.at0) m).b.length = D.b.length := by
  obtain ⟨hlt, hup, hmk⟩ := h.recs hf ht
  have hmono := sizeOfL_mono G.l (Nat.le_of_lt hlt)
  have hall := sizeOfL_take G.l G.flies
  rw [← h.ok.size] at hall
  have hfit := h.ok.fits
  have hmod := h.mod
  obtain ⟨f0, f1, f2⟩ := fillTo_length (framesOf (G.l.take G.flies))
  rw [framesOf_length] at f1 f2
  have hat : G.at0 = sizeOfL (G.l.take G.stable) - sizeOfL (G.l.take G.stable) % 64 := rfl
  have hsl : ((fillTo (framesOf (G.l.take G.flies))).drop G.at0).length = (fillTo (framesOf (G.l.take G.flies))).length - G.at0 := by rw [List.length_drop]
  have hfits : 64 + G.at0 + ((fillTo (framesOf (G.l.take G.flies))).drop G.at0).length ≤ D.b.length := by rw [hsl]; omega
  have hget : ∀ i, G.at0 ≤ i → i < sizeOfL (G.l.take G.flies) → ((fillTo (framesOf (G.l.take G.flies))).drop G.at0)[i - G.at0]? = (framesOf (G.l.take G.flies))[i]? := fun i h1 h2 => by
    rw [List.getElem?_drop, show G.at0 + (i - G.at0) = i by omega]
    unfold fillTo
    rw [List.getElem?_append_left (by rw [framesOf_length]; exact h2)]
  have hS := fun i (hi : i < sizeOfL (G.l.take G.stable)) => data_get h.data hi
  have hpre := fun i (hi : i < sizeOfL (G.l.take G.stable)) => frames_prefix G.l (Nat.le_of_lt hlt) hi
  generalize hbs : (fillTo (framesOf (G.l.take G.flies))).drop G.at0 = bs at *
  have hlen := fin_length D G.hand (64 + G.at0) bs m hfits
  have htk : (bs.take (64 * cnt (bs.length / 64) m)).length ≤ bs.length := by rw [List.length_take]; omega
  have htk2 : (bs.take (64 * cnt (bs.length / 64) m)).length ≤ 64 * cnt (bs.length / 64) m := by rw [List.length_take]; omega
  have hov := fun i => over_get D.b (bs.take (64 * cnt (bs.length / 64) m)) (64 + G.at0) i (by omega)
  refine ⟨⟨?_, ?_⟩, fun hm => ?_, hlen⟩
  · rw [toldOf_same hlen (fun i hi => ?_)]
    · exact h.told
    · show (over _ _ _)[i]? = _
      rw [hov, if_pos (by omega)]
  · refine data_of (framesOf_length _) fun i hi => ?_
    show (over _ _ _)[64 + i]? = _
    rw [hov]
    split
    · exact hS i hi
    · split
      · rename_i h1 h2
        rw [List.getElem?_take, if_pos (by omega), show 64 + i - (64 + G.at0) = i - G.at0 by omega, hget i (by omega) (by omega), hpre i hi]
      · exact hS i hi
  · have hc : 64 * cnt (bs.length / 64) m = bs.length := by
      unfold cnt
      rw [if_pos hm]
      omega
    refine data_of (framesOf_length _) fun i hi => ?_
    show (over _ _ _)[64 + i]? = _
    rw [hov, hc, List.take_length]
    split
    · rw [hS i (by omega), hpre i (by omega)]
    · rw [if_pos (by omega), show 64 + i - (64 + G.at0) = i - G.at0 by omega]
      exact hget i (by omega) hi
theorem fin_up (D : PDev) (k pl : Nat) (bs : List UInt8) (m : Int) (hk : k < D.up.length) : (D.fin k pl bs m).up[k]? = some none := by
  simp only [PDev.fin]
  exact List.getElem?_set_self hk
theorem Inv.done1 {G : PLog} {D : PDev} (h : Inv G D) (hf : 0 < G.flies) (ht : G.twice = false) :
    Inv (done1G G) (done1D G D (64 + G.at0) ((fillTo (framesOf (G.l.take G.flies))).drop G.at0)) := by
  obtain ⟨hs, hF, hlen⟩ := h.recs_fin hf ht (-1)
  obtain ⟨hlt, hup, hmk⟩ := h.recs hf ht
  generalize (fillTo (framesOf (G.l.take G.flies))).drop G.at0 = bs at *
  have hl : (done1D G D (64 + G.at0) bs).b.length = D.b.length := hlen
  refine ⟨by rw [hl]; exact h.mod, by rw [hl]; exact h.big, by rw [hl]; exact h.few, by simp [done1D, PDev.start, PDev.fin, h.ups], by rw [hl]; exact ⟨h.ok.hand, h.ok.size, h.ok.fits, h.ok.stable, h.ok.flies, h.ok.each, h.ok.marked⟩, h.good, hs.told, hs.data, fun h0 => ?_, fun _ h0 => ?_, fun _ _ => ⟨?_, hmk, ?_⟩⟩
  · simp only [done1G] at h0; omega
  · simp only [done1G] at h0; cases h0
  · simp only [done1D, PDev.start, done1G]
    exact List.getElem?_set_self (by simp only [PDev.fin, List.length_set]; rw [h.ups]; exact h.ok.hand)
  · show ((done1D G D (64 + G.at0) bs).b.drop 64).take G.marked = _
    rw [hmk]
    exact hF (by omega)
theorem Inv.mark_fin {G : PLog} {D : PDev} (h : Inv G D) (hf : 0 < G.flies) (ht : G.twice = true) (m : Int) :
    (D.fin G.hand 0 (markOf G.marked) m).b.length = D.b.length ∧ (Stands (D.fin G.hand 0 (markOf G.marked) m) (G.l.take G.flies) ∨ (0 ≤ m ∧ Stands (D.fin G.hand 0 (markOf G.marked) m) (G.l.take G.stable))) := by
  obtain ⟨hup, hmk, hda⟩ := h.mark hf ht
  have h64 := markOf_length G.marked
  have hbig := h.big
  have hlen := fin_length D G.hand 0 (markOf G.marked) m (by omega)
  have hall := sizeOfL_take G.l G.flies
  rw [← h.ok.size] at hall
  have hfit := h.ok.fits
  have hfew := h.few
  refine ⟨hlen, ?_⟩
  by_cases hc : cnt ((markOf G.marked).length / 64) m = 0
  · right
    have hm : 0 ≤ m := by
      unfold cnt at hc
      rw [h64] at hc
      split at hc
      · simp at hc
      · omega
    have hb : (D.fin G.hand 0 (markOf G.marked) m).b = D.b := by
      simp only [PDev.fin]
      rw [hc]
      simp [over]
    refine ⟨hm, ?_, ?_⟩
    · rw [hb]; exact h.told
    · rw [hb]; exact h.data
  · left
    have hc1 : cnt ((markOf G.marked).length / 64) m = 1 := by
      unfold cnt at hc ⊢
      rw [h64] at hc ⊢
      split
      · rfl
      · rename_i h1; rw [if_neg h1] at hc; omega
    have hb : (D.fin G.hand 0 (markOf G.marked) m).b = over D.b 0 (markOf G.marked) := by
      simp only [PDev.fin]
      rw [hc1, List.take_of_length_le (by omega)]
    have hov := fun i => over_get D.b (markOf G.marked) 0 i (by omega)
    refine ⟨?_, ?_⟩
    · rw [← hmk]
      refine toldOf_mark (by omega) (by omega) (by omega) fun i hi => ?_
      rw [hb, hov, if_neg (by omega), if_pos (by omega), Nat.sub_zero]
    · rw [← hmk]
      refine data_of (by rw [framesOf_length, hmk]) fun i hi => ?_
      rw [hb, hov, if_neg (by omega), if_neg (by omega)]
      exact data_get hda hi
theorem Inv.done2 {G : PLog} {D : PDev} (h : Inv G D) (hf : 0 < G.flies) (ht : G.twice = true) : Inv (done2G G) (D.fin G.hand 0 (markOf G.marked) (-1)) := by
  obtain ⟨hlen, hs⟩ := h.mark_fin hf ht (-1)
  have hs := hs.resolve_right (fun h => by have := h.1; omega)
  refine ⟨by rw [hlen]; exact h.mod, by rw [hlen]; exact h.big, by rw [hlen]; exact h.few, by simp [PDev.fin, h.ups], by rw [hlen]; exact ⟨h.ok.hand, h.ok.size, h.ok.fits, h.ok.flies, by simp [done2G], h.ok.each, h.ok.marked⟩, h.good, hs.told, hs.data, fun _ => fin_up _ _ _ _ _ (by rw [h.ups]; exact h.ok.hand), fun h0 => by simp [done2G] at h0, fun h0 => by simp [done2G] at h0⟩
/-- What is under way ends behind some sectors. -/
def crashD (G : PLog) (D : PDev) (s : Int) : PDev := match D.up[G.hand]? with
  | some (some (pl, bs)) => D.fin G.hand pl bs (max s 0)
  | _ => D
theorem Inv.crash {G : PLog} {D : PDev} (h : Inv G D) (s : Int) : ∃ k, (k = G.stable ∨ (0 < G.flies ∧ k = G.flies)) ∧ Stands (crashD G D s) (G.l.take k) ∧ (crashD G D s).b.length = D.b.length ∧ (crashD G D s).up[G.hand]? = some none ∧ (crashD G D s).up.length = 8 := by
  have hh := h.ok.hand
  by_cases hf : G.flies = 0
  · have hi := h.idle hf
    have e : crashD G D s = D := by unfold crashD; rw [hi]
    rw [e]
    exact ⟨G.stable, .inl rfl, ⟨h.told, h.data⟩, rfl, hi, h.ups⟩
  · have hf : 0 < G.flies := by omega
    cases ht : G.twice with
    | false =>
      obtain ⟨_, hup, _⟩ := h.recs hf ht
      obtain ⟨hs, _, hlen⟩ := h.recs_fin hf ht (max s 0)
      have e : crashD G D s = D.fin G.hand (64 + G.at0) ((fillTo (framesOf (G.l.take G.flies))).drop G.at0) (max s 0) := by unfold crashD; rw [hup]
      rw [e]
      exact ⟨G.stable, .inl rfl, hs, hlen, fin_up _ _ _ _ _ (by rw [h.ups]; exact hh), by simp [PDev.fin, h.ups]⟩
    | true =>
      obtain ⟨hup, _, _⟩ := h.mark hf ht
      obtain ⟨hlen, hs⟩ := h.mark_fin hf ht (max s 0)
      have e : crashD G D s = D.fin G.hand 0 (markOf G.marked) (max s 0) := by unfold crashD; rw [hup]
      rw [e]
      rcases hs with hs | ⟨_, hs⟩
      · exact ⟨G.flies, .inr ⟨hf, rfl⟩, hs, hlen, fin_up _ _ _ _ _ (by rw [h.ups]; exact hh), by simp [PDev.fin, h.ups]⟩
      · exact ⟨G.stable, .inl rfl, hs, hlen, fin_up _ _ _ _ _ (by rw [h.ups]; exact hh), by simp [PDev.fin, h.ups]⟩
theorem Inv.opened {D : PDev} {l : List (PRec × List UInt8)} (hand : Nat) (hh : hand < 8) (hmod : D.b.length % 64 = 0) (hbig : 64 ≤ D.b.length) (hfew : D.b.length ≤ 65536) (hg : Good l) (hs : Stands D l) (hup : D.up[hand]? = some none) (h8 : D.up.length = 8) :
    Inv (openP D.b hand) D ∧ (openP D.b hand).l = l := by
  have e : stands D.b = l := stands_of hbig hg hs.told hs.data
  have hok := openP_ok D.b hand hbig hh
  have e2 : (openP D.b hand).l = l := e
  have e3 : (openP D.b hand).l.take (openP D.b hand).stable = l := by
    show (Go.Proofs.Ytgnlhjphmaikkaa.stands D.b).take (Go.Proofs.Ytgnlhjphmaikkaa.stands D.b).length = l
    rw [List.take_length, e]
  refine ⟨⟨hmod, hbig, hfew, h8, hok, by rw [e2]; exact hg, by rw [e3]; exact hs.told, by rw [e3]; exact hs.data, fun _ => hup, fun h0 => by simp [openP] at h0, fun h0 => by simp [openP] at h0⟩, e2⟩
end Go.Proofs.Ytgnlhjphmaikkaa
