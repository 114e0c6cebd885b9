/- RemnantMore: a further piece increases the number of boxes of Best by at most 1 and never decreases it, nor the number of right packings, nor those of Fill; without the piece there are as many right packings as with it in a box of its own, if it fills one. For every room, list and number. -/
import Derived.Test.YtoecbchfdgbliaaMathS
import Derived.Test.YtoecbchfdgbliaaBx3
import Derived.Test.YtoecbchfdgbliaaHandK
import Derived.Test.YtoecbchfdgbliaaMathI
import Derived.Test.YtoecbchfdgbliaaHandE
import Derived.Test.YtoecbchfdgbliaaMathU

-- Plain lemmas over the names of the B print: Best.
namespace Go.Proofs.Ytoecbchfdgbliaa.Math
open Go.RowKit Go.Proofs.Ytoecbchfdgbliaa.B Go.Proofs.YtoecbchfdgbliaaW.PrintWords Go.Proofs.YtoecbchfdgbliaaW.PrintLast Go.Proofs.YtoecbchfdgbliaaW.PrintMore
open Go.Proofs.Ytoecbchfdgbliaa.Hand hiding wrap_in look
set_option linter.unusedVariables false

/-- What Weight and Best answer: no smaller number of boxes does. -/
theorem best_ok {room : Int} {l : List Int} (hok : Hand.pieF room l = true) (h1 : 1 ≤ room) (h2 : room ≤ 100) (h12 : l.length ≤ 12) (hp : ∀ i, i < l.length → 1 ≤ pz l i ∧ pz l i ≤ room) :
    ∃ (w at_ : Int) (m : Nat) (q : List Int), (0 ≤ at_ ∧ 2 * at_ ≤ room ∧ w = wgt room at_ (pz l) l.length ∧ ∀ a : Int, 0 ≤ a → 2 * a ≤ room → wgt room a (pz l) l.length ≤ w) ∧ w ≤ m ∧ m ≤ l.length ∧
      q ∈ packs room l m l.length [] 0 (List.replicate 12 0) ∧ (∀ m' : Nat, w ≤ m' → m' < m → packs room l m' l.length [] 0 (List.replicate 12 0) = []) ∧
      ∀ k, 200 ≤ k → remnant_Weight.f k room l = some (w, at_, 0) ∧ remnant_Best.f k room l = some (q, (m : Int), 0) := by
  obtain ⟨t, ht⟩ := Int.eq_ofNat_of_zero_le (show 0 ≤ room / 2 + 1 by omega)
  obtain ⟨w, at_, hP, hk⟩ := weight_go h1 h2 l h12 hp t 0 (-1) 0 (by omega) (.inl ⟨rfl, rfl⟩)
  have hwn : 0 ≤ w := by rw [hP.2.2.1]; exact wgt_nonneg _ _ _ _
  have hwl : w ≤ l.length := by rw [hP.2.2.1]; exact wgt_len h1 hP.1 hP.2.1 (pz l) l.length hp
  obtain ⟨v, rfl⟩ := Int.eq_ofNat_of_zero_le hwn
  have h0 : ∀ b, (List.replicate 12 (0 : Int)).getD b 0 = 0 := fun b => by rw [List.getD_eq_getElem?_getD, List.getElem?_replicate]; split <;> rfl
  have hld : ∀ (d j : Nat), (∀ i, i < j + d → 0 ≤ pz l i ∧ pz l i ≤ room) → ∀ b, 0 ≤ ld (pz l) (fun i => i) b j d ∧ ld (pz l) (fun i => i) b j d ≤ room ∧ (b < j → ld (pz l) (fun i => i) b j d = 0) := by
    intro d
    induction d with
    | zero => intro j _ b; exact ⟨Int.le_refl _, by show (0 : Int) ≤ room; omega, fun _ => rfl⟩
    | succ d ih =>
      intro j hb b
      have h3 := ih (j + 1) (fun i hi => hb i (by omega)) b
      have h4 := hb j (by omega)
      rw [ld]
      by_cases e : j = b
      · have := h3.2.2 (by omega)
        rw [if_pos e, this]
        omega
      · rw [if_neg e, Int.zero_add]
        exact ⟨h3.1, h3.2.1, fun h => h3.2.2 (by omega)⟩
  have hlast : packs room l l.length l.length [] 0 (List.replicate 12 0) ≠ [] := by
    refine packs_ne room l l.length (fun i hi => by have := (hp i hi).1; dsimp only [pz] at this; omega) h12 l.length [] 0 _ (by simp) (Nat.zero_le _) (by simp) (fun b _ => h0 b) ⟨fun i => i, fun i _ hi => by simpa using hi, fun b hb => ?_⟩
    show (List.replicate 12 (0 : Int)).getD b 0 + ld (pz l) (fun i => i) b 0 l.length ≤ room
    rw [h0, Int.zero_add]
    exact (hld l.length 0 (fun i hi => by have := hp i (by omega); omega) b).2.1
  obtain ⟨m, hm1, hm2, hm3, hm4⟩ : ∃ m : Nat, v ≤ m ∧ m ≤ l.length ∧ packs room l m l.length [] 0 (List.replicate 12 0) ≠ [] ∧ ∀ m', v ≤ m' → m' < m → packs room l m' l.length [] 0 (List.replicate 12 0) = [] := by
    have key : ∀ d u : Nat, u + d = l.length → v ≤ u → (∀ m', v ≤ m' → m' < u → packs room l m' l.length [] 0 (List.replicate 12 0) = []) → ∃ m : Nat, v ≤ m ∧ m ≤ l.length ∧ packs room l m l.length [] 0 (List.replicate 12 0) ≠ [] ∧ ∀ m', v ≤ m' → m' < m → packs room l m' l.length [] 0 (List.replicate 12 0) = [] := by
      intro d
      induction d with
      | zero => intro u hu hv hb; exact ⟨u, hv, by omega, by rw [show u = l.length by omega]; exact hlast, hb⟩
      | succ d ih =>
        intro u hu hv hb
        by_cases e : packs room l u l.length [] 0 (List.replicate 12 0) = []
        · exact ih (u + 1) (by omega) (by omega) fun m' h3 h4 => by
            by_cases e2 : m' = u
            · rw [e2]; exact e
            · exact hb m' h3 (by omega)
        · exact ⟨u, hv, by omega, e, hb⟩
    exact key (l.length - v) v (by omega) (Nat.le_refl _) fun m' h3 h4 => by omega
  obtain ⟨q, hq, hbest⟩ := bestL_found room l (l.length + 1 - v) v m hm1 (by omega) hm3 hm4
  refine ⟨v, at_, m, q, hP, by omega, hm2, hq, fun m' h3 h4 => hm4 m' (by omega) h4, fun k hk' => ?_⟩
  have hW : remnant_Weight.f k room l = some ((v : Int), at_, 0) := by
    unfold remnant_Weight.f remnant_arePieces.f
    rw [hok]
    simp only [Option.bind_some, if_true]
    rw [half room h1 h2, wrap_in (by omega) (by omega)]
    exact hk k (by omega)
  refine ⟨hW, ?_⟩
  unfold remnant_Best.f
  rw [if_pos hok, hW, Option.bind_some, if_pos ⟨rfl, by omega, by omega⟩, bestF, if_pos hok, Int.toNat_natCast, hbest]

end Go.Proofs.Ytoecbchfdgbliaa.Math

-- Plain lemmas: the table of the fewest boxes, and what the walk over the packings finds first.
namespace Go.Proofs.Ytoecbchfdgbliaa.Math
open Go.RowKit Go.Proofs.YtoecbchfdgbliaaW.PrintWords Go.Proofs.YtoecbchfdgbliaaW.PrintLast Go.Proofs.YtoecbchfdgbliaaW.PrintMore
open Go.Proofs.Ytoecbchfdgbliaa.Hand hiding wrap_in look within_iff
set_option linter.unusedVariables false

theorem bIn_inv (room : Int) (l : List Int) (s : Nat) : ∀ m, m ≤ l.length →
    (∀ i, i < m → (s / 2 ^ i) % 2 = 1 → ¬ Bet (stp room (bT room l (s - 2 ^ i)) (rd l (i : Int))) (bIn room l s m)) ∧
    (bIn room l s m = ((l.length : Int) + 1, 0) ∨ ∃ i, i < m ∧ (s / 2 ^ i) % 2 = 1 ∧ bIn room l s m = stp room (bT room l (s - 2 ^ i)) (rd l (i : Int)))
  | 0, _ => ⟨fun i hi => by omega, .inl rfl⟩
  | m + 1, hm => by
    obtain ⟨h1, h2⟩ := bIn_inv room l s m (by omega)
    rw [bIn_succ]
    unfold bstep
    by_cases hb : (s / 2 ^ m) % 2 = 1
    · rw [if_pos hb]
      by_cases hbt : Bet (stp room (bT room l (s - 2 ^ m)) (rd l (m : Int))) (bIn room l s m)
      · rw [if_pos hbt]
        refine ⟨fun i hi hbi hB => ?_, .inr ⟨m, by omega, hb, rfl⟩⟩
        by_cases e : i = m
        · subst e
          unfold Bet at hB; omega
        · refine h1 i (by omega) hbi ?_
          unfold Bet at *
          omega
      · rw [if_neg hbt]
        refine ⟨fun i hi hbi => ?_, ?_⟩
        · by_cases e : i = m
          · subst e; exact hbt
          · exact h1 i (by omega) hbi
        · rcases h2 with h2 | ⟨i, hi, hbi, h2⟩
          · exact .inl h2
          · exact .inr ⟨i, by omega, hbi, h2⟩
    · rw [if_neg hb]
      refine ⟨fun i hi hbi => ?_, ?_⟩
      · by_cases e : i = m
        · subst e; exact absurd hbi hb
        · exact h1 i (by omega) hbi
      · rcases h2 with h2 | ⟨i, hi, hbi, h2⟩
        · exact .inl h2
        · exact .inr ⟨i, by omega, hbi, h2⟩
theorem bT_cnt (room : Int) (l : List Int) : ∀ N s, s < N → s < 2 ^ l.length → (bT room l s).1 ≤ sl (fun _ => 1) (fun _ => 0) 0 s l.length
  | 0, s, h, _ => by omega
  | N + 1, s, h, hs => by
    by_cases e : s = 0
    · subst e
      exact sl_nonneg (fun _ _ => by decide) _ _ _
    · obtain ⟨i, hi, hb⟩ := has_bit l.length s (by omega) hs
      have h2 := two_le hb
      have hp : 0 < 2 ^ i := Nat.pow_pos (by decide)
      have ih := bT_cnt room l N (s - 2 ^ i) (by omega) (by omega)
      have hst := sl_step (p := fun _ => 1) (g := fun _ => 0) hi hb 0
      rw [if_pos rfl] at hst
      have hinv := (bIn_inv room l s l.length (Nat.le_refl _)).1 i hi hb
      rw [← bT_rec room l (by omega)] at hinv
      rw [hst]
      generalize bT room l (s - 2 ^ i) = c at ih hinv
      generalize bT room l s = t at hinv ⊢
      obtain ⟨c1, c2⟩ := c
      obtain ⟨t1, t2⟩ := t
      unfold Bet stp at hinv
      dsimp only at *
      split at hinv <;> dsimp only at hinv <;> omega
theorem sl_len (s : Nat) (n : Nat) : sl (fun _ => 1) (fun _ => 0) 0 s n ≤ n := by
  have h := sum_le 1 (List.range n) (fun i => if (s / 2 ^ i) % 2 = 1 ∧ (0 : Nat) = 0 then (1 : Int) else 0) fun b _ => by
    try dsimp only
    split <;> omega
  rw [List.length_range] at h
  have e : sl (fun _ => 1) (fun _ => 0) 0 s n = ((List.range n).map fun i => if (s / 2 ^ i) % 2 = 1 ∧ (0 : Nat) = 0 then (1 : Int) else 0).sum := rfl
  rw [e]; omega
theorem bT_dp (room : Int) (l : List Int) : Dp room (pz l) l.length (bT room l) := by
  refine ⟨rfl, fun s h0 hs => ?_, fun s i hs hi hb => ?_⟩
  · have hc := bT_cnt room l (s + 1) s (Nat.lt_succ_self s) hs
    have hn := sl_len s l.length
    rcases (bIn_inv room l s l.length (Nat.le_refl _)).2 with h | ⟨i, hi, hb, h⟩
    · rw [← bT_rec room l h0] at h
      rw [h] at hc
      dsimp only at hc
      omega
    · exact ⟨i, hi, hb, by rw [bT_rec room l h0]; exact h⟩
  · have h2 := two_le hb
    have hp : 0 < 2 ^ i := Nat.pow_pos (by decide)
    have h := (bIn_inv room l s l.length (Nat.le_refl _)).1 i hi hb
    rw [← bT_rec room l (by omega)] at h
    exact h

theorem all_bitsX (n i : Nat) (h : i < n) : ((2 ^ n - 1) / 2 ^ i) % 2 = 1 := by
  have := Nat.testBit_two_pow_sub_one n i
  rw [Nat.testBit_eq_decide_div_mod_eq] at this
  simpa [h] using this
theorem sl_bs (p : Nat → Int) (g : Nat → Nat) (b n : Nat) : sl p g b (2 ^ n - 1) n = bs p g b n := by
  unfold sl bs
  congr 1
  refine List.map_congr_left fun i hi => ?_
  have h := all_bitsX n i (List.mem_range.1 hi)
  by_cases e : g i = b
  · rw [if_pos ⟨h, e⟩, if_pos e]
  · rw [if_neg fun k => e k.2, if_neg e]
theorem ld_snoc (p : Nat → Int) (g : Nat → Nat) (b : Nat) : ∀ (d j : Nat), ld p g b j (d + 1) = ld p g b j d + (if g (j + d) = b then p (j + d) else 0)
  | 0, j => by rw [ld, ld, ld, Nat.add_zero]; omega
  | d + 1, j => by
    rw [ld, ld_snoc p g b d (j + 1), ld, show j + 1 + d = j + (d + 1) by omega]
    omega
theorem ld_bs (p : Nat → Int) (g : Nat → Nat) (b : Nat) : ∀ n, ld p g b 0 n = bs p g b n
  | 0 => rfl
  | n + 1 => by rw [ld_snoc, bs_succ, ld_bs p g b n, Nat.zero_add]
theorem zero12 (b : Nat) : (List.replicate 12 (0 : Int)).getD b 0 = 0 := by rw [List.getD_eq_getElem?_getD, List.getElem?_replicate]; split <;> rfl

/-- The boxes of a list of boxes hold what they may. -/
theorem part_loads {room : Int} {l q : List Int} {most n' : Nat} {y : List Int} (h0 : 0 ≤ room) (hlen : q.length = l.length) (hP : Part room l most q n' y) :
    (∀ i, i < l.length → 0 ≤ rd q (i : Int) ∧ rd q (i : Int) < (n' : Int)) ∧ ∀ b, b < 12 → bs (pz l) (fun i => (rd q (i : Int)).toNat) b l.length ≤ room := by
  have hb3 := (boxF_true q 0 n' hP.box).2.2
  have hin : ∀ i, i < l.length → 0 ≤ rd q (i : Int) ∧ rd q (i : Int) < (n' : Int) := fun i hi => hb3 _ (rd_memR (by omega))
  refine ⟨hin, fun b hb => ?_⟩
  have h := hP.sum b hb
  have h2 := (hP.load b).2
  rw [h, hlen] at h2
  have e : bs (pz l) (fun i => (rd q (i : Int)).toNat) b l.length = ((List.range l.length).map fun (i : Nat) => if rd q (i : Int) = (b : Int) then rd l (i : Int) else 0).sum := by
    unfold bs
    congr 1
    refine List.map_congr_left fun i hi => ?_
    have hi' := hin i (List.mem_range.1 hi)
    by_cases k : rd q (i : Int) = (b : Int)
    · rw [if_pos k, if_pos (show (rd q (i : Int)).toNat = b by omega)]
    · rw [if_neg k, if_neg (show ¬ (rd q (i : Int)).toNat = b by omega)]
  rw [e]; exact h2
/-- No right packing has fewer boxes than the table tells. -/
theorem min_le {room : Int} {l q : List Int} {most n' : Nat} {y : List Int} (h0 : 0 ≤ room) (h12 : l.length ≤ 12) (hm : most ≤ 12) (hp : ∀ i, i < l.length → 1 ≤ pz l i ∧ pz l i ≤ room) (hlen : q.length = l.length) (hP : Part room l most q n' y) : bestR room l ≤ n' := by
  unfold bestR
  by_cases hl : l.length = 0
  · rw [if_pos hl]; omega
  · rw [if_neg hl]
    obtain ⟨h1, h2⟩ := part_loads h0 hlen hP
    have hpos : 0 < 2 ^ l.length := Nat.pow_pos (by decide)
    have hn := hP.few
    have h10 := h1 0 (by omega)
    have h := dp_le (bT_dp room l) hp h0 (n' + (2 ^ l.length - 1) + 1) n' (2 ^ l.length - 1) (fun i => (rd q (i : Int)).toNat) 0 (by omega) (by omega) (by omega) (fun i hi _ => by have := h1 i hi; show (rd q (i : Int)).toNat < n'; omega) (fun b => by
      rw [sl_bs]
      by_cases hb : b < 12
      · exact h2 b hb
      · have : bs (pz l) (fun i => (rd q (i : Int)).toNat) b l.length = 0 := sum_zero _ _ fun i hi => by
          have := h1 i (List.mem_range.1 hi)
          exact if_neg (show ¬ (rd q (i : Int)).toNat = b by omega)
        rw [this]; exact h0)
    omega
/-- What is found first, from a bound by weights on, has as many boxes as the table tells. -/
theorem min_is {room w at_ : Int} {l q : List Int} {m : Nat} (h1 : 1 ≤ room) (h12 : l.length ≤ 12) (hp : ∀ i, i < l.length → 1 ≤ pz l i ∧ pz l i ≤ room) (ha0 : 0 ≤ at_) (ha1 : 2 * at_ ≤ room) (hw : w = wgt room at_ (pz l) l.length) (hml : m ≤ l.length)
    (hq : q ∈ packs room l m l.length [] 0 (List.replicate 12 0)) (hlow : ∀ m' : Nat, w ≤ m' → m' < m → packs room l m' l.length [] 0 (List.replicate 12 0) = []) :
    (m : Int) = bestR room l ∧ q.length = l.length ∧ ∃ y, Part room l m q m y := by
  have hp0 : ∀ i : Nat, i < l.length → 0 ≤ rd l (i : Int) := fun i hi => by have := (hp i hi).1; dsimp only [pz] at this; omega
  obtain ⟨hlen, n', y, hP⟩ := packs_part room l m hp0 (by omega) l.length [] 0 _ (by simp) (Part.none room (by omega) l m) q hq
  have hle := min_le (by omega) h12 (by omega) hp hlen hP
  have hfew := hP.few
  have hge : (m : Int) ≤ bestR room l := by
    apply Classical.byContradiction
    intro hlt
    by_cases hl : l.length = 0
    · unfold bestR at hlt; rw [if_pos hl] at hlt; omega
    · have hpos : 0 < 2 ^ l.length := Nat.pow_pos (by decide)
      obtain ⟨g, c, hc, hg, hld, _⟩ := dp_ge (bT_dp room l) hp (by omega) (2 ^ l.length) (2 ^ l.length - 1) (by omega) (by omega)
      have hb : bestR room l = (c : Int) + 1 := by unfold bestR; rw [if_neg hl, hc]
      have hg' : ∀ i, i < l.length → g i < c + 1 := fun i hi => by have := hg i hi (all_bitsX _ _ hi); omega
      have hld' : ∀ b, bs (pz l) g b l.length ≤ room := fun b => by rw [← sl_bs]; exact hld b
      have hwc := wgt_le h1 ha0 ha1 (pz l) l.length (c + 1) hp g hg' (fun b _ => hld' b)
      have hem := hlow (c + 1) (by rw [hw]; exact hwc) (by omega)
      refine packs_ne room l (c + 1) hp0 (by omega) l.length [] 0 _ (by simp) (Nat.zero_le _) (by simp) (fun b _ => zero12 b) ⟨g, fun i _ hi => hg' i (by simpa using hi), fun b hb => ?_⟩ hem
      show (List.replicate 12 (0 : Int)).getD b 0 + ld (pz l) g b 0 l.length ≤ room
      rw [zero12, Int.zero_add, ld_bs]
      exact hld' b
  have e : n' = m := by omega
  subst e
  exact ⟨by omega, hlen, y, hP⟩

end Go.Proofs.Ytoecbchfdgbliaa.Math

-- Plain lemmas: a further piece and the table of what is filled.
namespace Go.Proofs.Ytoecbchfdgbliaa.Math
open Go.RowKit Go.Proofs.YtoecbchfdgbliaaW.PrintWords Go.Proofs.YtoecbchfdgbliaaW.PrintLast Go.Proofs.YtoecbchfdgbliaaW.PrintMore
set_option linter.unusedVariables false

theorem rd_app (l : List Int) (p : Int) (i : Nat) (h : i < l.length) : rd (l ++ [p]) (i : Int) = rd l (i : Int) := by
  unfold rd
  rw [Int.toNat_natCast, List.getD_eq_getElem?_getD, List.getD_eq_getElem?_getD, List.getElem?_append_left h]
theorem rd_app_last (l : List Int) (p : Int) : rd (l ++ [p]) (l.length : Int) = p := by
  unfold rd
  rw [Int.toNat_natCast, List.getD_eq_getElem?_getD, List.getElem?_append_right (Nat.le_refl _), Nat.sub_self]
  rfl
theorem inner_best (room : Int) (l : List Int) (s : Nat) : ∀ (m i : Nat), i < m → (s / 2 ^ i) % 2 = 1 → ¬ Better (nxt room (fo (B room l (s - 2 ^ i))) (rd l (i : Int))) (fo (inner room l s m))
  | 0, i, hi, _ => by omega
  | m + 1, i, hi, hb => by
    rw [inner_succ]
    unfold tryOne
    by_cases hm : (s / 2 ^ m) % 2 = 1
    · rw [if_pos hm]
      by_cases hbt : Better (nxt room (fo (B room l (s - 2 ^ m))) (rd l (m : Int))) (fo (inner room l s m))
      · rw [if_pos hbt]
        by_cases e : i = m
        · subst e
          unfold Better fo; dsimp only; omega
        · have h := inner_best room l s m i (by omega) hb
          generalize nxt room (fo (B room l (s - 2 ^ i))) (rd l (i : Int)) = x at h ⊢
          generalize nxt room (fo (B room l (s - 2 ^ m))) (rd l (m : Int)) = z at hbt ⊢
          generalize fo (inner room l s m) = c at h hbt
          unfold Better fo at *
          dsimp only at *
          omega
      · rw [if_neg hbt]
        by_cases e : i = m
        · subst e; exact hbt
        · exact inner_best room l s m i (by omega) hb
    · rw [if_neg hm]
      by_cases e : i = m
      · subst e; exact absurd hb hm
      · exact inner_best room l s m i (by omega) hb
theorem B_best (room : Int) (l : List Int) {s i : Nat} (hi : i < l.length) (hb : (s / 2 ^ i) % 2 = 1) : ¬ Better (nxt room (fo (B room l (s - 2 ^ i))) (rd l (i : Int))) (fo (B room l s)) := by
  have h2 := two_le hb
  have hp : 0 < 2 ^ i := Nat.pow_pos (by decide)
  rw [B_eq room l (show 0 < s by omega)]
  exact inner_best room l s _ i hi hb
theorem B_same (room : Int) (l : List Int) (p : Int) : ∀ N s, s < N → s < 2 ^ l.length → B room (l ++ [p]) s = B room l s
  | 0, _, h, _ => by omega
  | N + 1, s, h, hs => by
    by_cases h0 : 0 < s
    · have key : ∀ m, m ≤ l.length → inner room (l ++ [p]) s m = inner room l s m := by
        intro m
        induction m with
        | zero => intro _; rfl
        | succ m ih =>
          intro hm
          rw [inner_succ, inner_succ, ih (by omega)]
          unfold tryOne
          by_cases hb : (s / 2 ^ m) % 2 = 1
          · have h2 := two_le hb
            have hp : 0 < 2 ^ m := Nat.pow_pos (by decide)
            rw [if_pos hb, if_pos hb, B_same room l p N (s - 2 ^ m) (by omega) (by omega), rd_app l p m (by omega)]
          · rw [if_neg hb, if_neg hb]
      rw [B_eq _ _ h0, B_eq _ _ h0, List.length_append, List.length_singleton, inner_succ, key _ (Nat.le_refl _)]
      unfold tryOne
      rw [if_neg (by rw [Nat.div_eq_of_lt hs]; decide)]
    · obtain rfl : s = 0 := by omega
      rfl
theorem bit_hi {n s i : Nat} (hi : i < n) : ((2 ^ n + s) / 2 ^ i) % 2 = (s / 2 ^ i) % 2 := by
  obtain ⟨k, rfl⟩ : ∃ k, n = i + 1 + k := ⟨n - i - 1, by omega⟩
  have e : 2 ^ (i + 1 + k) = 2 ^ i * (2 * 2 ^ k) := by rw [Nat.pow_add, Nat.pow_succ, Nat.mul_assoc]
  rw [e, Nat.mul_add_div (Nat.pow_pos (by decide))]
  omega
theorem B_up {room p : Int} {l : List Int} (hl : ∀ i : Nat, i < l.length → 1 ≤ rd l (i : Int)) (hp1 : 1 ≤ p) (hr : 1 ≤ room) : ∀ N s, s < N → s < 2 ^ l.length → ¬ Better (fo (B room (l ++ [p]) (2 ^ l.length + s))) ((B room l s).1 + 1, (B room l s).2.1)
  | 0, _, h, _ => by omega
  | N + 1, s, h, hs => by
    have hl' : ∀ i : Nat, i < (l ++ [p]).length → 1 ≤ rd (l ++ [p]) (i : Int) := fun i hi => by
      rw [List.length_append, List.length_singleton] at hi
      by_cases e : i = l.length
      · rw [e, rd_app_last]; exact hp1
      · rw [rd_app l p i (by omega)]; exact hl i (by omega)
    have hpp : 2 ^ (l ++ [p]).length = 2 ^ l.length + 2 ^ l.length := by rw [List.length_append, List.length_singleton, Nat.pow_succ]; omega
    have hpos : 0 < 2 ^ l.length := Nat.pow_pos (by decide)
    obtain ⟨i, hi, hb, hB⟩ := (B_last room (l ++ [p]) hl' hr (2 ^ l.length + s + 1) (2 ^ l.length + s) (by omega) (by omega)).2 (by omega)
    have hnn := (B_last room l hl hr (s + 1) s (by omega) hs).1
    rw [List.length_append, List.length_singleton] at hi
    rw [hB]
    by_cases e : i = l.length
    · subst e
      rw [show 2 ^ l.length + s - 2 ^ l.length = s by omega, B_same room l p (s + 1) s (by omega) hs, rd_app_last]
      generalize B room l s = c at hnn
      unfold Better nxt fo
      dsimp only
      split <;> dsimp only <;> omega
    · have hil : i < l.length := by omega
      rw [bit_hi hil] at hb
      have h2 := two_le hb
      have hp : 0 < 2 ^ i := Nat.pow_pos (by decide)
      have ih := B_up hl hp1 hr N (s - 2 ^ i) (by omega) (by omega)
      have hbest := B_best room l hil hb
      have hn1 := (B_last room l hl hr (s - 2 ^ i + 1) (s - 2 ^ i) (by omega) (by omega)).1
      rw [show 2 ^ l.length + s - 2 ^ i = 2 ^ l.length + (s - 2 ^ i) by omega, rd_app l p i hil]
      generalize B room (l ++ [p]) (2 ^ l.length + (s - 2 ^ i)) = a at ih ⊢
      generalize B room l (s - 2 ^ i) = b at ih hbest hn1
      generalize B room l s = c at hbest hnn ⊢
      generalize rd l (i : Int) = q at hbest ⊢
      unfold Better nxt fo at *
      dsimp only at *
      split <;> split at hbest <;> dsimp only at * <;> omega
/-- A further piece fills at most one box more, and never one less. -/
theorem fill_more {room p : Int} {l : List Int} (hl : ∀ i : Nat, i < l.length → 1 ≤ rd l (i : Int)) (hp1 : 1 ≤ p) (hr : 1 ≤ room) :
    (B room l (2 ^ l.length - 1)).1 ≤ (B room (l ++ [p]) (2 ^ (l ++ [p]).length - 1)).1 ∧ (B room (l ++ [p]) (2 ^ (l ++ [p]).length - 1)).1 ≤ (B room l (2 ^ l.length - 1)).1 + 1 := by
  have hpos : 0 < 2 ^ l.length := Nat.pow_pos (by decide)
  have hpp : 2 ^ (l ++ [p]).length - 1 = 2 ^ l.length + (2 ^ l.length - 1) := by rw [List.length_append, List.length_singleton, Nat.pow_succ]; omega
  have hup := B_up hl hp1 hr (2 ^ l.length) (2 ^ l.length - 1) (by omega) (by omega)
  have hlo := B_best room (l ++ [p]) (s := 2 ^ l.length + (2 ^ l.length - 1)) (i := l.length) (by simp) (by
    have : (2 ^ l.length + (2 ^ l.length - 1)) / 2 ^ l.length = 1 := by
      have := Nat.mul_add_div (m := 2 ^ l.length) hpos 1 (2 ^ l.length - 1)
      rw [Nat.mul_one, Nat.div_eq_of_lt (show 2 ^ l.length - 1 < 2 ^ l.length by omega)] at this
      exact this
    rw [this])
  rw [show 2 ^ l.length + (2 ^ l.length - 1) - 2 ^ l.length = 2 ^ l.length - 1 by omega, B_same room l p (2 ^ l.length) (2 ^ l.length - 1) (by omega) (by omega), rd_app_last] at hlo
  rw [hpp]
  generalize B room (l ++ [p]) (2 ^ l.length + (2 ^ l.length - 1)) = a at hup hlo ⊢
  generalize B room l (2 ^ l.length - 1) = b at hup hlo ⊢
  unfold Better nxt fo at *
  dsimp only at *
  split at hlo <;> dsimp only at * <;> omega

end Go.Proofs.Ytoecbchfdgbliaa.Math

-- Plain lemmas: a further piece and the fewest boxes.
namespace Go.Proofs.Ytoecbchfdgbliaa.Math
open Go.RowKit Go.Proofs.YtoecbchfdgbliaaW.PrintWords Go.Proofs.YtoecbchfdgbliaaW.PrintLast Go.Proofs.YtoecbchfdgbliaaW.PrintMore
open Go.Proofs.Ytoecbchfdgbliaa.Hand hiding wrap_in look within_iff
set_option linter.unusedVariables false

theorem bestR_le {room : Int} {l : List Int} (h0 : 0 ≤ room) (hp : ∀ i, i < l.length → 1 ≤ pz l i ∧ pz l i ≤ room) (g : Nat → Nat) (M : Nat) (hg : ∀ i, i < l.length → g i < M) (hl : ∀ b, bs (pz l) g b l.length ≤ room) : bestR room l ≤ M := by
  unfold bestR
  by_cases h : l.length = 0
  · rw [if_pos h]; omega
  · rw [if_neg h]
    have hpos : 0 < 2 ^ l.length := Nat.pow_pos (by decide)
    have hg0 := hg 0 (by omega)
    have h := dp_le (bT_dp room l) hp h0 (M + (2 ^ l.length - 1) + 1) M (2 ^ l.length - 1) g 0 (by omega) (by omega) (by omega) (fun i hi _ => hg i hi) (fun b => by rw [sl_bs]; exact hl b)
    omega
theorem bestR_ex {room : Int} {l : List Int} (h0 : 0 ≤ room) (hp : ∀ i, i < l.length → 1 ≤ pz l i ∧ pz l i ≤ room) : ∃ (g : Nat → Nat) (M : Nat), bestR room l = M ∧ (∀ i, i < l.length → g i < M) ∧ ∀ b, bs (pz l) g b l.length ≤ room := by
  unfold bestR
  by_cases h : l.length = 0
  · rw [if_pos h]
    exact ⟨fun _ => 0, 0, rfl, fun i hi => by omega, fun b => by rw [h]; exact h0⟩
  · rw [if_neg h]
    have hpos : 0 < 2 ^ l.length := Nat.pow_pos (by decide)
    obtain ⟨g, c, hc, hg, hld, _⟩ := dp_ge (bT_dp room l) hp h0 (2 ^ l.length) (2 ^ l.length - 1) (by omega) (by omega)
    exact ⟨g, c + 1, by rw [hc]; push_cast; rfl, fun i hi => by have := hg i hi (all_bitsX _ _ hi); omega, fun b => by rw [← sl_bs]; exact hld b⟩
theorem bs_congr {f f' : Nat → Int} {g g' : Nat → Nat} {b n : Nat} (h : ∀ i, i < n → f i = f' i ∧ g i = g' i) : bs f g b n = bs f' g' b n := by
  unfold bs
  congr 1
  refine List.map_congr_left fun i hi => ?_
  have := h i (List.mem_range.1 hi)
  rw [this.1, this.2]
theorem pz_app {room p : Int} {l : List Int} (hp : ∀ i, i < l.length → 1 ≤ pz l i ∧ pz l i ≤ room) (h1 : 1 ≤ p ∧ p ≤ room) : ∀ i, i < (l ++ [p]).length → 1 ≤ pz (l ++ [p]) i ∧ pz (l ++ [p]) i ≤ room := fun i hi => by
  rw [List.length_append, List.length_singleton] at hi
  dsimp only [pz]
  by_cases e : i = l.length
  · rw [e, rd_app_last]; exact h1
  · rw [rd_app l p i (by omega)]; exact hp i (by omega)
theorem bestR_more {room p : Int} {l : List Int} (h0 : 0 ≤ room) (hp : ∀ i, i < l.length → 1 ≤ pz l i ∧ pz l i ≤ room) (h1 : 1 ≤ p ∧ p ≤ room) : bestR room l ≤ bestR room (l ++ [p]) ∧ bestR room (l ++ [p]) ≤ bestR room l + 1 := by
  have hp' := pz_app hp h1
  have hlen : (l ++ [p]).length = l.length + 1 := by simp
  have hsame : ∀ (g : Nat → Nat) b, bs (pz (l ++ [p])) g b l.length = bs (pz l) g b l.length := fun g b => bs_congr fun i hi => ⟨rd_app l p i hi, rfl⟩
  have hlast : pz (l ++ [p]) l.length = p := rd_app_last l p
  constructor
  · obtain ⟨g, M, hM, hg, hl⟩ := bestR_ex h0 hp'
    rw [hM]
    refine bestR_le h0 hp g M (fun i hi => hg i (by omega)) fun b => ?_
    have h := hl b
    rw [hlen, bs_succ, hsame, hlast] at h
    split at h <;> omega
  · obtain ⟨g, M, hM, hg, hl⟩ := bestR_ex h0 hp
    have h := bestR_le h0 hp' (fun i => if i < l.length then g i else M) (M + 1) (fun i hi => by
      try dsimp only
      split
      · have := hg i (by omega); omega
      · omega) (fun b => by
      have e : bs (pz l) (fun i => if i < l.length then g i else M) b l.length = bs (pz l) g b l.length := bs_congr fun i hi => ⟨rfl, if_pos hi⟩
      rw [hlen, bs_succ, hsame, e, hlast, if_neg (show ¬ l.length < l.length by omega)]
      by_cases hb : M = b
      · rw [if_pos hb]
        have hz : bs (pz l) g b l.length = 0 := sum_zero _ _ fun i hi => by
          have := hg i (List.mem_range.1 hi)
          exact if_neg (by omega)
        rw [hz]; omega
      · rw [if_neg hb, Int.add_zero]; exact hl b)
    rw [hM]
    push_cast at h
    exact h

end Go.Proofs.Ytoecbchfdgbliaa.Math

-- Plain lemmas: the number of right packings, and a further piece.
namespace Go.Proofs.Ytoecbchfdgbliaa.Math
open Go.RowKit Go.Proofs.YtoecbchfdgbliaaW.PrintWords Go.Proofs.YtoecbchfdgbliaaW.PrintLast Go.Proofs.YtoecbchfdgbliaaW.PrintMore
open Go.Proofs.Ytoecbchfdgbliaa.Hand hiding wrap_in look
set_option linter.unusedVariables false

/-- A walk over all parts of a set, from one on down. -/
def gl (f : Nat → Int → Int) (r : Nat) : Nat → Nat → Int → Int
  | 0, _, acc => acc
  | k + 1, t, acc => if t = 0 then f t acc else gl f r k ((t - 1) &&& r) (f t acc)
theorem wloop_gl (fit : Nat → Bool) (Wy : Nat → Int) (low r : Nat) : ∀ (k t : Nat) (acc : Int), wloop fit Wy low r k t acc = gl (fun t acc => if fit (t + low) = true then wrap64 (acc + Wy (r - t)) else acc) r k t acc
  | 0, _, _ => rfl
  | k + 1, t, acc => by
    rw [wloop, gl]
    split
    · rfl
    · exact wloop_gl fit Wy low r k _ _
theorem gl_fuel (f : Nat → Int → Int) (r : Nat) : ∀ (k k' t : Nat) (acc : Int), t < k → t < k' → gl f r k t acc = gl f r k' t acc
  | 0, _, _, _, h, _ => by omega
  | _ + 1, 0, _, _, _, h => by omega
  | k + 1, k' + 1, t, acc, h, h' => by
    rw [gl, gl]
    by_cases e : t = 0
    · rw [if_pos e, if_pos e]
    · have : (t - 1) &&& r ≤ t - 1 := Nat.and_le_left
      rw [if_neg e, if_neg e]
      exact gl_fuel f r k k' _ _ (by omega) (by omega)
theorem part_next (t r : Nat) : ((t - 1) &&& r) &&& r = (t - 1) &&& r := by rw [Nat.and_assoc, Nat.and_self]
theorem part_le {t r : Nat} (h : t &&& r = t) : t ≤ r := by rw [← h]; exact Nat.and_le_right
theorem gl_congr {f g : Nat → Int → Int} {r : Nat} (h : ∀ t acc, t &&& r = t → f t acc = g t acc) : ∀ (k t : Nat) (acc : Int), t &&& r = t → gl f r k t acc = gl g r k t acc
  | 0, _, _, _ => rfl
  | k + 1, t, acc, ht => by
    rw [gl, gl, h t acc ht]
    split
    · rfl
    · exact gl_congr h k _ _ (part_next t r)
theorem gl_id {f : Nat → Int → Int} {r : Nat} (h : ∀ t acc, t &&& r = t → f t acc = acc) : ∀ (k t : Nat) (acc : Int), t &&& r = t → gl f r k t acc = acc
  | 0, _, _, _ => rfl
  | k + 1, t, acc, ht => by
    rw [gl, h t acc ht]
    split
    · rfl
    · exact gl_id h k _ _ (part_next t r)

/-! ### The top bit -/
theorem and_hi {n a b : Nat} (ha : a < 2 ^ n) (hb : b < 2 ^ n) : (2 ^ n + a) &&& (2 ^ n + b) = 2 ^ n + (a &&& b) := by
  apply Nat.eq_of_testBit_eq
  intro i
  rw [Nat.testBit_and]
  rcases Nat.lt_trichotomy i n with h | h | h
  · rw [Nat.testBit_two_pow_add_gt h, Nat.testBit_two_pow_add_gt h, Nat.testBit_two_pow_add_gt h, Nat.testBit_and]
  · subst h
    have hc : a &&& b < 2 ^ i := Nat.lt_of_le_of_lt Nat.and_le_left ha
    rw [Nat.testBit_two_pow_add_eq, Nat.testBit_two_pow_add_eq, Nat.testBit_two_pow_add_eq, Nat.testBit_lt_two_pow ha, Nat.testBit_lt_two_pow hb, Nat.testBit_lt_two_pow hc]
    rfl
  · have hp : 2 ^ (n + 1) ≤ 2 ^ i := Nat.pow_le_pow_right (by decide) h
    have e : 2 ^ (n + 1) = 2 ^ n + 2 ^ n := by rw [Nat.pow_succ]; omega
    have hc : a &&& b < 2 ^ n := Nat.lt_of_le_of_lt Nat.and_le_left ha
    rw [Nat.testBit_lt_two_pow (x := 2 ^ n + a) (by omega), Nat.testBit_lt_two_pow (x := 2 ^ n + (a &&& b)) (by omega), Bool.false_and]
theorem and_lo {n a b : Nat} (ha : a < 2 ^ n) (hb : b < 2 ^ n) : a &&& (2 ^ n + b) = a &&& b := by
  apply Nat.eq_of_testBit_eq
  intro i
  rw [Nat.testBit_and, Nat.testBit_and]
  rcases Nat.lt_trichotomy i n with h | h | h
  · rw [Nat.testBit_two_pow_add_gt h]
  · subst h
    rw [Nat.testBit_lt_two_pow ha, Bool.false_and, Bool.false_and]
  · have hp : 2 ^ n ≤ 2 ^ i := Nat.pow_le_pow_right (by decide) (by omega)
    rw [Nat.testBit_lt_two_pow (x := a) (by omega), Bool.false_and, Bool.false_and]
theorem and_ones {n r : Nat} (h : r < 2 ^ n) : (2 ^ n - 1) &&& r = r := by
  rw [Nat.and_comm, Nat.and_two_pow_sub_one_eq_mod, Nat.mod_eq_of_lt h]
theorem rest_top (n : Nat) : restN (2 ^ n) = 0 := by
  unfold restN
  rw [Nat.and_two_pow_sub_one_eq_mod, Nat.mod_self]
theorem low_top (n : Nat) : lowN (2 ^ n) = 2 ^ n := by
  have := low_add (2 ^ n)
  rw [rest_top] at this
  omega
theorem rest_hi {n s : Nat} (h0 : 0 < s) (hs : s < 2 ^ n) : restN (2 ^ n + s) = 2 ^ n + restN s := by
  unfold restN
  rw [show 2 ^ n + s - 1 = 2 ^ n + (s - 1) by omega, and_hi hs (by omega)]
theorem low_hi {n s : Nat} (h0 : 0 < s) (hs : s < 2 ^ n) : lowN (2 ^ n + s) = lowN s := by
  have h1 := low_add (2 ^ n + s)
  have h2 := low_add s
  rw [rest_hi h0 hs] at h1
  omega
theorem gl_low {n r : Nat} (hr : r < 2 ^ n) (f : Nat → Int → Int) : ∀ (k t : Nat) (acc : Int), t < 2 ^ n → gl f (2 ^ n + r) k t acc = gl f r k t acc
  | 0, _, _, _ => rfl
  | k + 1, t, acc, ht => by
    rw [gl, gl]
    by_cases e : t = 0
    · rw [if_pos e, if_pos e]
    · have : (t - 1) &&& r ≤ t - 1 := Nat.and_le_left
      rw [if_neg e, if_neg e, and_lo (by omega) hr]
      exact gl_low hr f k _ _ (by omega)
/-- First all parts with the top bit, then all without. -/
theorem gl_phase {n r : Nat} (hr : r < 2 ^ n) (f : Nat → Int → Int) : ∀ (N u : Nat) (acc : Int) (K : Nat), u < N → u &&& r = u → 2 ^ n + u < K → gl f (2 ^ n + r) K (2 ^ n + u) acc = gl f r (r + 1) r (gl (fun u acc => f (2 ^ n + u) acc) r (u + 1) u acc)
  | 0, _, _, _, h, _, _ => by omega
  | N + 1, u, acc, K, h, hu, hK => by
    obtain ⟨K, rfl⟩ : ∃ K', K = K' + 1 := ⟨K - 1, by omega⟩
    have hp : 0 < 2 ^ n := Nat.pow_pos (by decide)
    have hur := part_le hu
    have e0 : gl f (2 ^ n + r) (K + 1) (2 ^ n + u) acc = gl f (2 ^ n + r) K ((2 ^ n + u - 1) &&& (2 ^ n + r)) (f (2 ^ n + u) acc) := by rw [gl, if_neg (by omega)]
    have e1 : gl (fun u acc => f (2 ^ n + u) acc) r (u + 1) u acc = if u = 0 then f (2 ^ n + u) acc else gl (fun u acc => f (2 ^ n + u) acc) r u ((u - 1) &&& r) (f (2 ^ n + u) acc) := by rw [gl]
    rw [e0, e1]
    clear e0 e1
    by_cases e : u = 0
    · subst e
      rw [if_pos rfl, Nat.add_zero, show (2 ^ n - 1) &&& (2 ^ n + r) = r by rw [and_lo (by omega) hr, and_ones hr], gl_low hr f _ _ _ hr]
      exact gl_fuel f r _ _ _ _ (by omega) (by omega)
    · have hn : (u - 1) &&& r ≤ u - 1 := Nat.and_le_left
      rw [if_neg e, show 2 ^ n + u - 1 = 2 ^ n + (u - 1) by omega, and_hi (by omega) hr, gl_phase hr f N ((u - 1) &&& r) _ K (by omega) (part_next u r) (by omega)]
      congr 1
      exact gl_fuel _ r _ _ _ _ (by omega) (by omega)

/-! ### A piece that fills a box -/
theorem ways_full {n : Nat} (fit fit' : Nat → Bool) (h1 : ∀ x, x < 2 ^ n → fit' x = fit x) (h2 : fit' (2 ^ n) = true) (h3 : ∀ x, 0 < x → x < 2 ^ n → fit' (2 ^ n + x) = false) : ∀ N s, s < N → s < 2 ^ n → wayN fit' (2 ^ n + s) = wayN fit s
  | 0, _, h, _ => by omega
  | N + 1, s, h, hs => by
    have hp : 0 < 2 ^ n := Nat.pow_pos (by decide)
    by_cases e : s = 0
    · subst e
      rw [Nat.add_zero, wayN_rec fit' hp, low_top, rest_top, wloop, if_pos rfl, Nat.zero_add, if_pos h2, Nat.sub_zero, wayN_zero, wayN_zero]
      unfold wrap64
      decide
    · have hla := low_add s
      have hr := rest_lt (s := s) (by omega)
      have hlp : 0 < lowN s := by omega
      rw [wayN_rec fit' (by omega), wayN_rec fit (by omega), low_hi (by omega) hs, rest_hi (by omega) hs, wloop_gl, wloop_gl, gl_phase (r := restN s) (by omega) _ (restN s + 1) (restN s) 0 _ (by omega) (Nat.and_self _) (by omega)]
      have hz : gl (fun u acc => if fit' (2 ^ n + u + lowN s) = true then wrap64 (acc + wayN fit' (2 ^ n + restN s - (2 ^ n + u))) else acc) (restN s) (restN s + 1) (restN s) 0 = 0 := gl_id (fun t acc ht => by
        have := part_le ht
        try dsimp only
        rw [show 2 ^ n + t + lowN s = 2 ^ n + (t + lowN s) by omega, h3 _ (by omega) (by omega), if_neg (by decide)]) _ _ _ (Nat.and_self _)
      rw [hz]
      refine gl_congr (fun t acc ht => ?_) _ _ _ (Nat.and_self _)
      have := part_le ht
      try dsimp only
      rw [h1 _ (by omega), show 2 ^ n + restN s - t = 2 ^ n + (restN s - t) by omega, ways_full fit fit' h1 h2 h3 N (restN s - t) (by omega) (by omega)]

/-! ### Bounds -/
def gB : Nat → Nat → Int
  | 0, _ => 1
  | n + 1, s => if s < 2 ^ n then gB n s else 6 * gB n (s - 2 ^ n)
def hB : Nat → Nat → Int
  | 0, _ => 1
  | n + 1, s => if s < 2 ^ n then hB n s else 7 * hB n (s - 2 ^ n)
theorem gB_zero : ∀ n, gB n 0 = 1
  | 0 => rfl
  | n + 1 => by rw [gB, if_pos (Nat.pow_pos (by decide)), gB_zero n]
theorem hB_zero : ∀ n, hB n 0 = 1
  | 0 => rfl
  | n + 1 => by rw [hB, if_pos (Nat.pow_pos (by decide)), hB_zero n]
theorem gB_lo {n s : Nat} (h : s < 2 ^ n) : gB (n + 1) s = gB n s := by rw [gB, if_pos h]
theorem gB_hi (n s : Nat) : gB (n + 1) (2 ^ n + s) = 6 * gB n s := by rw [gB, if_neg (by omega), show 2 ^ n + s - 2 ^ n = s by omega]
theorem gB_pos : ∀ n s, 0 < gB n s
  | 0, _ => by rw [gB]; decide
  | n + 1, s => by
    rw [gB]
    split
    · exact gB_pos n s
    · have := gB_pos n (s - 2 ^ n); omega
theorem gl_lin (c : Int) (F : Nat → Int) (r : Nat) : ∀ (k t : Nat) (acc : Int), gl (fun t acc => acc + c * F t) r k t acc = acc + c * gl (fun t acc => acc + F t) r k t 0
  | 0, _, acc => by rw [gl, gl]; omega
  | k + 1, t, acc => by
    rw [gl, gl]
    split
    · rw [Int.zero_add]
    · have h1 := gl_lin c F r k ((t - 1) &&& r) (acc + c * F t)
      have h2 := gl_lin 1 F r k ((t - 1) &&& r) (0 + F t)
      simp only [Int.one_mul] at h2
      rw [h1, h2, Int.zero_add, Int.mul_add]
      omega
theorem sumG : ∀ n r, r < 2 ^ n → gl (fun t acc => acc + gB n (r - t)) r (r + 1) r 0 = hB n r
  | 0, r, h => by
    obtain rfl : r = 0 := by simpa using h
    rfl
  | n + 1, r, h => by
    have e : 2 ^ (n + 1) = 2 ^ n + 2 ^ n := by rw [Nat.pow_succ]; omega
    by_cases hr : r < 2 ^ n
    · rw [hB, if_pos hr, ← sumG n r hr]
      refine gl_congr (fun t acc ht => ?_) _ _ _ (Nat.and_self _)
      try dsimp only
      rw [gB_lo (by omega)]
    · obtain ⟨q, rfl⟩ : ∃ q, r = 2 ^ n + q := ⟨r - 2 ^ n, by omega⟩
      have hq : q < 2 ^ n := by omega
      have ih := sumG n q hq
      rw [hB, if_neg hr, show 2 ^ n + q - 2 ^ n = q by omega, gl_phase hq _ (q + 1) q 0 _ (by omega) (Nat.and_self _) (by omega)]
      have e1 : gl (fun u acc => acc + gB (n + 1) (2 ^ n + q - (2 ^ n + u))) q (q + 1) q 0 = hB n q := by
        rw [← ih]
        refine gl_congr (fun t acc ht => ?_) _ _ _ (Nat.and_self _)
        have := part_le ht
        try dsimp only
        rw [show 2 ^ n + q - (2 ^ n + t) = q - t by omega, gB_lo (by omega)]
      have e2 : ∀ a, gl (fun t acc => acc + gB (n + 1) (2 ^ n + q - t)) q (q + 1) q a = gl (fun t acc => acc + 6 * gB n (q - t)) q (q + 1) q a := fun a => by
        refine gl_congr (fun t acc ht => ?_) _ _ _ (Nat.and_self _)
        have := part_le ht
        try dsimp only
        rw [show 2 ^ n + q - t = 2 ^ n + (q - t) by omega, gB_hi]
      rw [e1, e2, gl_lin 6 (fun t => gB n (q - t)), ih]
      omega
theorem powers : ∀ n s, 0 < s → s < 2 ^ n → ∃ b, b < n ∧ gB n s = 6 ^ (b + 1) ∧ hB n (restN s) = 7 ^ b
  | 0, s, h0, h => by rw [Nat.pow_zero] at h; omega
  | n + 1, s, h0, h => by
    have e : 2 ^ (n + 1) = 2 ^ n + 2 ^ n := by rw [Nat.pow_succ]; omega
    by_cases hs : s < 2 ^ n
    · obtain ⟨b, hb, h1, h2⟩ := powers n s h0 hs
      have hr := rest_lt h0
      exact ⟨b, by omega, by rw [gB_lo hs, h1], by rw [hB, if_pos (by omega), h2]⟩
    · obtain ⟨q, rfl⟩ : ∃ q, s = 2 ^ n + q := ⟨s - 2 ^ n, by omega⟩
      by_cases hq : q = 0
      · subst hq
        exact ⟨0, by omega, by rw [gB_hi, gB_zero]; rfl, by rw [show 2 ^ n + 0 = 2 ^ n from rfl, rest_top, hB_zero]; rfl⟩
      · obtain ⟨b, hb, h1, h2⟩ := powers n q (by omega) (by omega)
        refine ⟨b + 1, by omega, by rw [gB_hi, h1, Int.pow_succ 6 (b + 1)]; omega, ?_⟩
        rw [rest_hi (by omega) (by omega), hB, if_neg (by omega), show 2 ^ n + restN q - 2 ^ n = restN q by omega, h2, Int.pow_succ]
        omega
theorem seven_six : ∀ b : Fin 12, (7 : Int) ^ b.val ≤ 6 ^ (b.val + 1) ∧ (6 : Int) ^ (b.val + 1) ≤ 4611686018427387904 := by decide
theorem h_le_g {n s : Nat} (hn : n ≤ 12) (h0 : 0 < s) (h : s < 2 ^ n) : hB n (restN s) ≤ gB n s ∧ gB n s ≤ 4611686018427387904 := by
  obtain ⟨b, hb, h1, h2⟩ := powers n s h0 h
  have := seven_six ⟨b, by omega⟩
  rw [h1, h2]
  exact this
/-- A step that adds, and the same step as the machine does it. -/
theorem gl_unwrap {r : Nat} {fit : Nat → Bool} {V : Nat → Int} {F : Nat → Int} (hV : ∀ t, t &&& r = t → 0 ≤ V t ∧ V t ≤ F t) : ∀ (k t : Nat) (a b : Int), t &&& r = t → 0 ≤ a → a ≤ b → gl (fun t acc => acc + F t) r k t b ≤ 4611686018427387904 →
    gl (fun t acc => if fit t = true then wrap64 (acc + V t) else acc) r k t a = gl (fun t acc => if fit t = true then acc + V t else acc) r k t a ∧ 0 ≤ gl (fun t acc => if fit t = true then acc + V t else acc) r k t a ∧ gl (fun t acc => if fit t = true then acc + V t else acc) r k t a ≤ gl (fun t acc => acc + F t) r k t b ∧ b ≤ gl (fun t acc => acc + F t) r k t b
  | 0, t, a, b, ht, h0, hab, hB => ⟨rfl, h0, hab, Int.le_refl _⟩
  | k + 1, t, a, b, ht, h0, hab, hB => by
    have hv := hV t ht
    have e1 : gl (fun t acc => acc + F t) r (k + 1) t b = if t = 0 then b + F t else gl (fun t acc => acc + F t) r k ((t - 1) &&& r) (b + F t) := by rw [gl]
    have e2 : gl (fun t acc => if fit t = true then wrap64 (acc + V t) else acc) r (k + 1) t a = if t = 0 then (if fit t = true then wrap64 (a + V t) else a) else gl (fun t acc => if fit t = true then wrap64 (acc + V t) else acc) r k ((t - 1) &&& r) (if fit t = true then wrap64 (a + V t) else a) := by rw [gl]
    have e3 : gl (fun t acc => if fit t = true then acc + V t else acc) r (k + 1) t a = if t = 0 then (if fit t = true then a + V t else a) else gl (fun t acc => if fit t = true then acc + V t else acc) r k ((t - 1) &&& r) (if fit t = true then a + V t else a) := by rw [gl]
    rw [e1] at hB
    rw [e1, e2, e3]
    by_cases e : t = 0
    · rw [if_pos e] at hB
      rw [if_pos e, if_pos e, if_pos e]
      by_cases hf : fit t = true
      · rw [if_pos hf, if_pos hf]
        have : wrap64 (a + V t) = a + V t := by unfold wrap64; omega
        rw [this]
        exact ⟨rfl, by omega, by omega, by omega⟩
      · rw [if_neg hf, if_neg hf]
        exact ⟨rfl, by omega, by omega, by omega⟩
    · rw [if_neg e] at hB
      rw [if_neg e, if_neg e, if_neg e]
      have hmon : b + F t ≤ gl (fun t acc => acc + F t) r k ((t - 1) &&& r) (b + F t) := (gl_unwrap (fit := fit) hV k ((t - 1) &&& r) 0 (b + F t) (part_next t r) (Int.le_refl _) (by omega) hB).2.2.2
      by_cases hf : fit t = true
      · rw [if_pos hf, if_pos hf]
        have hw : wrap64 (a + V t) = a + V t := by unfold wrap64; omega
        rw [hw]
        obtain ⟨h1, h2, h3, h4⟩ := gl_unwrap (fit := fit) hV k ((t - 1) &&& r) (a + V t) (b + F t) (part_next t r) (by omega) (by omega) hB
        exact ⟨h1, h2, h3, by omega⟩
      · rw [if_neg hf, if_neg hf]
        obtain ⟨h1, h2, h3, h4⟩ := gl_unwrap (fit := fit) hV k ((t - 1) &&& r) a (b + F t) (part_next t r) h0 (by omega) hB
        exact ⟨h1, h2, h3, by omega⟩
theorem gl_mono {r : Nat} {f g : Nat → Int → Int} (h : ∀ t a b, t &&& r = t → a ≤ b → f t a ≤ g t b) : ∀ (k t : Nat) (a b : Int), t &&& r = t → a ≤ b → gl f r k t a ≤ gl g r k t b
  | 0, _, _, _, _, hab => hab
  | k + 1, t, a, b, ht, hab => by
    rw [gl, gl]
    split
    · exact h t a b ht hab
    · exact gl_mono h k _ _ _ (part_next t r) (h t a b ht hab)
/-- The numbers of packings are small, so that no sum runs over. -/
theorem way_small (fit : Nat → Bool) {n : Nat} (hn : n ≤ 12) : ∀ N s, s < N → s < 2 ^ n → 0 ≤ wayN fit s ∧ wayN fit s ≤ gB n s ∧
    (0 < s → wayN fit s = gl (fun t acc => if fit (t + lowN s) = true then acc + wayN fit (restN s - t) else acc) (restN s) (restN s + 1) (restN s) 0)
  | 0, _, h, _ => by omega
  | N + 1, s, h, hs => by
    by_cases e : s = 0
    · subst e
      rw [wayN_zero, gB_zero]
      exact ⟨by decide, by decide, fun h => absurd h (by decide)⟩
    · have hr := rest_lt (s := s) (by omega)
      have hb := h_le_g hn (by omega) hs
      have hu := gl_unwrap (r := restN s) (fit := fun t => fit (t + lowN s)) (V := fun t => wayN fit (restN s - t)) (F := fun t => gB n (restN s - t)) (fun t ht => by
        have h1 := way_small fit hn N (restN s - t) (by omega) (by omega)
        exact ⟨h1.1, h1.2.1⟩) (restN s + 1) (restN s) 0 0 (Nat.and_self _) (Int.le_refl _) (Int.le_refl _) (by rw [sumG n (restN s) (by omega)]; omega)
      rw [sumG n (restN s) (by omega)] at hu
      rw [wayN_rec fit (by omega), wloop_gl]
      obtain ⟨u1, u2, u3, _⟩ := hu
      rw [u1]
      exact ⟨u2, by omega, fun _ => rfl⟩
/-- A further piece makes no fewer right packings. -/
theorem ways_more {n : Nat} (hn : n ≤ 11) (fit fit' : Nat → Bool) (h1 : ∀ x, x < 2 ^ n → fit' x = fit x) (h2 : fit' (2 ^ n) = true) : ∀ N s, s < N → s < 2 ^ n → wayN fit s ≤ wayN fit' (2 ^ n + s)
  | 0, _, h, _ => by omega
  | N + 1, s, h, hs => by
    have hp : 0 < 2 ^ n := Nat.pow_pos (by decide)
    have hpp : 2 ^ (n + 1) = 2 ^ n + 2 ^ n := by rw [Nat.pow_succ]; omega
    by_cases e : s = 0
    · subst e
      rw [Nat.add_zero, wayN_rec fit' hp, low_top, rest_top, wloop, if_pos rfl, Nat.zero_add, if_pos h2, Nat.sub_zero, wayN_zero, wayN_zero]
      unfold wrap64
      decide
    · have hla := low_add s
      have hr := rest_lt (s := s) (by omega)
      rw [(way_small fit (n := n) (by omega) (s + 1) s (by omega) hs).2.2 (by omega), (way_small fit' (n := n + 1) (by omega) (2 ^ n + s + 1) (2 ^ n + s) (by omega) (by omega)).2.2 (by omega), low_hi (by omega) hs, rest_hi (by omega) hs,
        gl_phase (r := restN s) (by omega) _ (restN s + 1) (restN s) 0 _ (by omega) (Nat.and_self _) (by omega)]
      refine gl_mono (fun t a b ht hab => ?_) _ _ _ _ (Nat.and_self _) ?_
      · have := part_le ht
        have ih := ways_more hn fit fit' h1 h2 N (restN s - t) (by omega) (by omega)
        try dsimp only
        rw [h1 _ (by omega), show 2 ^ n + restN s - t = 2 ^ n + (restN s - t) by omega]
        split <;> omega
      · have h0 : gl (fun _ acc => acc) (restN s) (restN s + 1) (restN s) (0 : Int) = 0 := gl_id (fun _ _ _ => rfl) _ _ _ (Nat.and_self _)
        rw [← h0]
        refine gl_mono (fun t a b ht hab => ?_) _ _ _ _ (Nat.and_self _) (by rw [h0]; exact Int.le_refl _)
        have := part_le ht
        have hv := (way_small fit' (n := n + 1) (by omega) (2 ^ n + restN s - (2 ^ n + t) + 1) (2 ^ n + restN s - (2 ^ n + t)) (by omega) (by omega)).1
        try dsimp only
        split <;> omega

end Go.Proofs.Ytoecbchfdgbliaa.Math

namespace Go.Proofs.Ytoecbchfdgbliaa.Math
open Go.RowKit Go.Proofs.Ytoecbchfdgbliaa.B Go.Proofs.YtoecbchfdgbliaaW.PrintWords Go.Proofs.YtoecbchfdgbliaaW.PrintLast Go.Proofs.YtoecbchfdgbliaaW.PrintMore
open Go.Proofs.Ytoecbchfdgbliaa.Hand hiding wrap_in look within_iff
set_option linter.unusedVariables false

theorem within_eq (x lo hi : Int) : remnant_within.f x lo hi = some (Hand.within x lo hi) := by
  unfold remnant_within.f Hand.within
  split <;> rfl
theorem within_is (x lo hi : Int) : Hand.within x lo hi = true ↔ lo ≤ x ∧ x ≤ hi := by
  unfold Hand.within
  split
  · simp only [decide_eq_true_eq]; omega
  · constructor
    · intro h; cases h
    · intro h; omega

/-- What pieces are. -/
def Ok (room : Int) (l : List Int) : Prop := 1 ≤ room ∧ room ≤ 100 ∧ l.length ≤ 12 ∧ ∀ x ∈ l, 1 ≤ x ∧ x ≤ room
theorem pie_iff (room : Int) (l : List Int) : Hand.pieF room l = true ↔ Ok room l := by
  unfold Hand.pieF Ok
  simp only [Bool.and_eq_true, within_is, decide_eq_true_eq, List.all_eq_true]
  constructor
  · rintro ⟨⟨h1, h2⟩, h3, h4⟩; exact ⟨h1, h2, by omega, h4⟩
  · rintro ⟨h1, h2, h3, h4⟩; exact ⟨⟨h1, h2⟩, by omega, h4⟩

theorem u64_in {n : Int} (h0 : 0 ≤ n) (h1 : n < 18446744073709551616) : IntKind.u64.wrap n = n := IntWalk.u64_in n ⟨h0, by omega⟩
theorem u64_nonneg (n : Int) : 0 ≤ IntKind.u64.wrap n := by
  have h : IntKind.u64.wrap n = n % 18446744073709551616 := by
    simp [IntKind.wrap, IntKind.bits, IntKind.signed]
  rw [h]; omega
theorem mod_some (x n : Int) (h0 : 1 ≤ n) (h1 : n ≤ 4096) : ∃ r : Nat, (r : Int) < n ∧ galloonlaw09_mod.f x n = some (r : Int) := by
  have hx := u64_nonneg x
  have hr0 := Int.emod_nonneg (IntKind.u64.wrap x) (show n ≠ 0 by omega)
  have hr1 := Int.emod_lt_of_pos (IntKind.u64.wrap x) (show 0 < n by omega)
  obtain ⟨r, hr⟩ := Int.eq_ofNat_of_zero_le hr0
  refine ⟨r, by omega, ?_⟩
  unfold galloonlaw09_mod.f
  rw [u64_in (n := n) (by omega) (by omega), if_neg (by omega), Int.tmod_eq_emod_of_nonneg hx, hr, wrap_in (by omega) (by omega)]

theorem tame_at (room : Int) (l1 : List Int) (h1 : 1 ≤ room) (h100 : room ≤ 100) : ∀ (m j : Nat) (acc : List Int), j + m = 11 → acc.length = j → (∀ x ∈ acc, 1 ≤ x ∧ x ≤ room) →
    ∃ out : List Int, out.length ≤ 11 ∧ (∀ x ∈ out, 1 ≤ x ∧ x ≤ room) ∧ ∀ k, m < k → galloonlaw09_tame.l0 k room l1 11 acc (j : Int) = some (room, out) := by
  intro m
  induction m with
  | zero =>
    intro j acc hj hl ha
    refine ⟨acc, by omega, ha, fun k hk => ?_⟩
    obtain ⟨k, rfl⟩ : ∃ k', k = k' + 1 := ⟨k - 1, by omega⟩
    rw [galloonlaw09_tame.l0]
    split
    · rw [if_neg (by omega)]
    · rfl
  | succ m ih =>
    intro j acc hj hl ha
    by_cases hc : (j : Int) < (l1.length : Int)
    · obtain ⟨r, hr, he⟩ := mod_some (rd l1 (j : Int)) room h1 (by omega)
      have hw : wrap64 (1 + (r : Int)) = 1 + (r : Int) := wrap_in (by omega) (by omega)
      obtain ⟨out, h2, h3, h4⟩ := ih (j + 1) (acc ++ [1 + (r : Int)]) (by omega) (by simp; omega) (fun x hx => by
        rcases List.mem_append.1 hx with hx | hx
        · exact ha x hx
        · rw [List.mem_singleton.1 hx]; omega)
      refine ⟨out, h2, h3, fun k hk => ?_⟩
      obtain ⟨k, rfl⟩ : ∃ k', k = k' + 1 := ⟨k - 1, by omega⟩
      rw [galloonlaw09_tame.l0, if_pos hc, if_pos (by omega), if_pos (by omega), he]
      simp only [Option.bind_some]
      rw [if_pos (by omega), hw, next (by omega), h4 k (by omega)]
    · refine ⟨acc, by omega, ha, fun k hk => ?_⟩
      obtain ⟨k, rfl⟩ : ∃ k', k = k' + 1 := ⟨k - 1, by omega⟩
      rw [galloonlaw09_tame.l0, if_neg hc]
/-- Whatever int and list: tame makes a room and pieces. -/
theorem tame_ok (a0 : Int) (l1 : List Int) : ∃ room l, l.length ≤ 11 ∧ Ok room l ∧ ∀ k, 20 < k → galloonlaw09_tame.f k a0 l1 11 = some (room, l) := by
  obtain ⟨r, hr, he⟩ := mod_some a0 100 (by decide) (by decide)
  have hw : wrap64 (1 + (r : Int)) = 1 + (r : Int) := wrap_in (by omega) (by omega)
  obtain ⟨out, h2, h3, h4⟩ := tame_at (1 + (r : Int)) l1 (by omega) (by omega) 11 0 [] rfl rfl (by simp)
  refine ⟨1 + (r : Int), out, h2, ⟨by omega, by omega, by omega, h3⟩, fun k hk => ?_⟩
  unfold galloonlaw09_tame.f
  rw [he]
  simp only [Option.bind_some]
  rw [hw]
  exact h4 k (by omega)
theorem awake_ev : ∀ k, 60 ≤ k → galloonlaw09_awake.f k = some true := by
  intro k hk
  exact up (fun k => galloonlaw09_awake.mono k) (k := 60) (by decide +kernel) hk

theorem szN_app (l : List Int) (p : Int) (s : Nat) : ∀ m, m ≤ l.length → szN (l ++ [p]) s m = szN l s m
  | 0, _ => rfl
  | m + 1, hm => by rw [szN, szN, szN_app l p s m (by omega), rd_app l p m (by omega)]
theorem szN_hi (l : List Int) {n s : Nat} : ∀ m, m ≤ n → szN l (2 ^ n + s) m = szN l s m
  | 0, _ => rfl
  | m + 1, hm => by rw [szN, szN, szN_hi l m (by omega), bit_hi (by omega)]
theorem szN_none (l : List Int) : ∀ m, szN l 0 m = 0
  | 0 => rfl
  | m + 1 => by rw [szN, szN_none l m, Nat.zero_div]; rfl
theorem szN_pos {l : List Int} (hl : ∀ i : Nat, i < l.length → 1 ≤ rd l (i : Int)) {s : Nat} : ∀ m, m ≤ l.length → 0 ≤ szN l s m ∧ ∀ i, i < m → (s / 2 ^ i) % 2 = 1 → 1 ≤ szN l s m
  | 0, _ => ⟨Int.le_refl _, fun i hi => by omega⟩
  | m + 1, hm => by
    obtain ⟨h1, h2⟩ := szN_pos hl (s := s) m (by omega)
    have h3 := hl m (by omega)
    rw [szN]
    refine ⟨by split <;> omega, fun i hi hb => ?_⟩
    by_cases e : i = m
    · subst e; rw [if_pos hb]; omega
    · have := h2 i (by omega) hb
      split <;> omega
theorem ways_facts {room p : Int} {l : List Int} (hl : ∀ i : Nat, i < l.length → 1 ≤ rd l (i : Int)) (hp : p ≤ room) :
    (∀ x, x < 2 ^ l.length → fitN room (l ++ [p]) x = fitN room l x) ∧ fitN room (l ++ [p]) (2 ^ l.length) = true ∧ (p = room → ∀ x, 0 < x → x < 2 ^ l.length → fitN room (l ++ [p]) (2 ^ l.length + x) = false) := by
  have hlen : (l ++ [p]).length = l.length + 1 := by simp
  have hpos : 0 < 2 ^ l.length := Nat.pow_pos (by decide)
  refine ⟨fun x hx => ?_, ?_, fun e x h0 hx => ?_⟩
  · unfold fitN
    rw [hlen, szN, szN_app l p x _ (Nat.le_refl _), Nat.div_eq_of_lt hx, if_neg (by decide), Int.add_zero]
  · unfold fitN
    have h := szN_hi l (n := l.length) (s := 0) l.length (Nat.le_refl _)
    rw [Nat.add_zero, szN_none] at h
    rw [hlen, szN, szN_app l p _ _ (Nat.le_refl _), h, rd_app_last, Nat.div_self hpos, if_pos (by decide), Int.zero_add]
    exact decide_eq_true hp
  · unfold fitN
    have h := szN_hi l (n := l.length) (s := x) l.length (Nat.le_refl _)
    obtain ⟨i, hi, hb⟩ := has_bit l.length x h0 hx
    have hz := (szN_pos hl (s := x) l.length (Nat.le_refl _)).2 i hi hb
    have hd : (2 ^ l.length + x) / 2 ^ l.length = 1 := by
      have := Nat.mul_add_div (m := 2 ^ l.length) hpos 1 x
      rw [Nat.mul_one, Nat.div_eq_of_lt hx] at this
      exact this
    rw [hlen, szN, szN_app l p _ _ (Nat.le_refl _), h, rd_app_last, hd, if_pos (by decide)]
    exact decide_eq_false (by omega)

end Go.Proofs.Ytoecbchfdgbliaa.Math
namespace Go.Proofs.Ytoecbchfdgbliaa.Pure
open Go.RowKit Go.Proofs.Ytoecbchfdgbliaa.B Go.Proofs.YtoecbchfdgbliaaW.PrintWords Go.Proofs.YtoecbchfdgbliaaW.PrintLast Go.Proofs.YtoecbchfdgbliaaW.PrintMore Go.Proofs.Ytoecbchfdgbliaa.Math
open Go.Proofs.Ytoecbchfdgbliaa.Hand hiding wrap_in look within_iff
set_option linter.unusedVariables false

theorem more_best {room : Int} {l : List Int} (hok : Hand.pieF room l = true) (h1 : 1 ≤ room) (h2 : room ≤ 100) (h12 : l.length ≤ 12) (hp : ∀ i, i < l.length → 1 ≤ pz l i ∧ pz l i ≤ room) : ∃ q, remnant_Best.f 200000 room l = some (q, bestR room l, 0) := by
  obtain ⟨w, at_, m, q, ⟨hA0, hA1, hA2, hA3⟩, hwm, hml, hq, hlow, hk⟩ := best_ok hok h1 h2 h12 hp
  obtain ⟨hmin, _, _⟩ := min_is h1 h12 hp hA0 hA1 hA2 hml hq hlow
  exact ⟨q, by rw [(hk 200000 (by omega)).2, hmin]⟩
theorem more_fill {room : Int} {l : List Int} (hok : Hand.pieF room l = true) (h1 : 1 ≤ room) (h2 : room ≤ 100) (h12 : l.length ≤ 12) (hp : ∀ i, i < l.length → 1 ≤ pz l i ∧ pz l i ≤ room) : ∃ q, remnant_Fill.f 200000 room l = some (q, (Math.B room l (2 ^ l.length - 1)).1, 0) ∧ 0 ≤ (Math.B room l (2 ^ l.length - 1)).1 ∧ (Math.B room l (2 ^ l.length - 1)).1 ≤ 4096 := by
  obtain ⟨o, ho, hob, hfull, hfill⟩ := fill_go hok (fun i hi => by have := hp i hi; dsimp only [pz] at this; omega) h1 h2 h12
  have hpos : 0 < 2 ^ l.length := Nat.pow_pos (by decide)
  have hpw : 2 ^ l.length ≤ 4096 := Nat.le_trans (Nat.pow_le_pow_right (by decide) h12) (by decide)
  have hnn := (B_last room l (fun i hi => (hp i hi).1) h1 (2 ^ l.length - 1 + 1) (2 ^ l.length - 1) (by omega) (by omega)).1.1
  have hsm := (B_small room l (fun i hi => (hp i hi).1) h1 (2 ^ l.length - 1 + 1) (2 ^ l.length - 1) (by omega) (by omega)).1
  exact ⟨_, hfill 200000 (by omega), hnn, by omega⟩

theorem RemnantMore : galloonlaw09_RemnantMore.Pure := by
  intro a0 l1 a2 _ _ _ _ _
  refine ⟨200000, ?_⟩
  obtain ⟨room, l, h11, hOk, ht⟩ := tame_ok a0 l1
  have hok := (pie_iff room l).2 hOk
  obtain ⟨h1, h2, h12, hall⟩ := hOk
  have hp : ∀ i, i < l.length → 1 ≤ pz l i ∧ pz l i ≤ room := fun i hi => hall _ (Math.rd_mem hi)
  have hl1 : ∀ i : Nat, i < l.length → 1 ≤ rd l (i : Int) := fun i hi => (hp i hi).1
  obtain ⟨r, hr, he⟩ := mod_some a2 room h1 (by omega)
  have hw : wrap64 (1 + (r : Int)) = 1 + (r : Int) := Math.wrap_in (by omega) (by omega)
  have okApp : ∀ p, 1 ≤ p → p ≤ room → Hand.pieF room (l ++ [p]) = true := fun p h3 h4 => (pie_iff room (l ++ [p])).2 ⟨h1, h2, by simp; omega, fun x hx => by
    rcases List.mem_append.1 hx with hx | hx
    · exact hall x hx
    · rw [List.mem_singleton.1 hx]; exact ⟨h3, h4⟩⟩
  obtain ⟨p, hpv⟩ : ∃ p, 1 + (r : Int) = p := ⟨_, rfl⟩
  have hp1 : 1 ≤ p ∧ p ≤ room := by omega
  have hok2 := okApp p hp1.1 hp1.2
  have hok3 := okApp room h1 (Int.le_refl _)
  have hlen : (l ++ [p]).length ≤ 12 := by simp; omega
  have hp' := pz_app hp hp1
  obtain ⟨q1, hB1⟩ := more_best hok h1 h2 h12 hp
  obtain ⟨q2, hB2⟩ := more_best hok2 h1 h2 hlen hp'
  obtain ⟨q3, hF1, hn1, hs1⟩ := more_fill hok h1 h2 h12 hp
  obtain ⟨q4, hF2, hn2, hs2⟩ := more_fill hok2 h1 h2 hlen hp'
  obtain ⟨hb1, hb2⟩ := bestR_more (show 0 ≤ room by omega) hp hp1
  obtain ⟨hf1, hf2⟩ := fill_more hl1 hp1.1 h1
  obtain ⟨f1, f2, _⟩ := ways_facts hl1 hp1.2
  obtain ⟨g1, g2, g3⟩ := ways_facts hl1 (Int.le_refl room)
  have hpos : 0 < 2 ^ l.length := Nat.pow_pos (by decide)
  have htop : ∀ p : Int, 2 ^ (l ++ [p]).length - 1 = 2 ^ l.length + (2 ^ l.length - 1) := fun p => by rw [List.length_append, List.length_singleton, Nat.pow_succ]; omega
  have w1 : waysF room l = (wayN (fitN room l) (2 ^ l.length - 1), 0) := by unfold waysF; rw [if_pos hok]
  have w2 : waysF room (l ++ [p]) = (wayN (fitN room (l ++ [p])) (2 ^ l.length + (2 ^ l.length - 1)), 0) := by unfold waysF; rw [if_pos hok2, htop]
  have w3 : waysF room (l ++ [room]) = (wayN (fitN room l) (2 ^ l.length - 1), 0) := by
    unfold waysF
    rw [if_pos hok3, htop, ways_full (fitN room l) (fitN room (l ++ [room])) g1 g2 (g3 rfl) (2 ^ l.length) (2 ^ l.length - 1) (by omega) (by omega)]
  have hm := ways_more h11 (fitN room l) (fitN room (l ++ [p])) f1 f2 (2 ^ l.length) (2 ^ l.length - 1) (by omega) (by omega)
  have hbn : 0 ≤ bestR room l ∧ bestR room l ≤ 13 := by
    obtain ⟨g, M, hM, hg, hgl⟩ := bestR_ex (show 0 ≤ room by omega) hp
    have h3 := bestR_le (show 0 ≤ room by omega) hp (fun i => i) l.length (fun i hi => hi) (fun b => own_box (pz l) l.length (by omega) (fun i hi => (hp i hi).2) b)
    rw [hM] at h3 ⊢
    omega
  have hw5 : wrap64 (bestR room l + 1) = bestR room l + 1 := Math.wrap_in (by omega) (by omega)
  have hw6 : wrap64 ((Math.B room l (2 ^ l.length - 1)).1 + 1) = (Math.B room l (2 ^ l.length - 1)).1 + 1 := Math.wrap_in (by omega) (by omega)
  unfold galloonlaw09_RemnantMore.f galloonlaw09_list.f remnant_Ways.f
  rw [ht 200000 (by omega)]
  simp only [Option.bind_some]
  rw [List.take_of_length_le (show l.length ≤ 13 by omega), he]
  simp only [Option.bind_some]
  rw [if_pos (by omega), hw, hpv, if_pos (by omega), hB1]
  simp only [Option.bind_some]
  rw [hB2]
  simp only [Option.bind_some]
  rw [hF1]
  simp only [Option.bind_some]
  rw [hF2]
  simp only [Option.bind_some, if_true]
  rw [w1, w2, w3]
  simp only [if_true]
  rw [if_pos hb1, hw5, if_pos hb2, if_pos hm, if_pos hf1, hw6, if_pos hf2, awake_ev 200000 (by omega)]
  rfl

end Go.Proofs.Ytoecbchfdgbliaa.Pure

