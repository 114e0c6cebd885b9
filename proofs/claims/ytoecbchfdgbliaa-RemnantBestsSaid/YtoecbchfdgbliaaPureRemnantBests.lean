/- RemnantBests: Best returns a right packing with the smallest number of boxes, which Check accepts, and this number, and Ways the number of right packings, or ErrArg. For every room and list. -/
import Derived.Test.YtoecbchfdgbliaaMathS
import Derived.Test.YtoecbchfdgbliaaBx4
import Derived.Test.YtoecbchfdgbliaaHandK

-- Plain lemmas over the names of the B print: Best.
namespace Go.Proofs.Ytoecbchfdgbliaa.Math
open Go.RowKit Go.Proofs.Ytoecbchfdgbliaa.B Go.Proofs.YtoecbchfdgbliaaW.PrintWords Go.Proofs.YtoecbchfdgbliaaW.PrintLast Go.Proofs.YtoecbchfdgbliaaW.PrintMore
open Go.Proofs.Ytoecbchfdgbliaa.Hand hiding wrap_in look
set_option linter.unusedVariables false

/-- What Weight and Best answer: no smaller number of boxes does. -/
theorem best_ok {room : Int} {l : List Int} (hok : Hand.pieF room l = true) (h1 : 1 ≤ room) (h2 : room ≤ 100) (h12 : l.length ≤ 12) (hp : ∀ i, i < l.length → 1 ≤ pz l i ∧ pz l i ≤ room) :
    ∃ (w at_ : Int) (m : Nat) (q : List Int), (0 ≤ at_ ∧ 2 * at_ ≤ room ∧ w = wgt room at_ (pz l) l.length ∧ ∀ a : Int, 0 ≤ a → 2 * a ≤ room → wgt room a (pz l) l.length ≤ w) ∧ w ≤ m ∧ m ≤ l.length ∧
      q ∈ packs room l m l.length [] 0 (List.replicate 12 0) ∧ (∀ m' : Nat, w ≤ m' → m' < m → packs room l m' l.length [] 0 (List.replicate 12 0) = []) ∧
      ∀ k, 200 ≤ k → remnant_Weight.f k room l = some (w, at_, 0) ∧ remnant_Best.f k room l = some (q, (m : Int), 0) := by
  obtain ⟨t, ht⟩ := Int.eq_ofNat_of_zero_le (show 0 ≤ room / 2 + 1 by omega)
  obtain ⟨w, at_, hP, hk⟩ := weight_go h1 h2 l h12 hp t 0 (-1) 0 (by omega) (.inl ⟨rfl, rfl⟩)
  have hwn : 0 ≤ w := by rw [hP.2.2.1]; exact wgt_nonneg _ _ _ _
  have hwl : w ≤ l.length := by rw [hP.2.2.1]; exact wgt_len h1 hP.1 hP.2.1 (pz l) l.length hp
  obtain ⟨v, rfl⟩ := Int.eq_ofNat_of_zero_le hwn
  have h0 : ∀ b, (List.replicate 12 (0 : Int)).getD b 0 = 0 := fun b => by rw [List.getD_eq_getElem?_getD, List.getElem?_replicate]; split <;> rfl
  have hld : ∀ (d j : Nat), (∀ i, i < j + d → 0 ≤ pz l i ∧ pz l i ≤ room) → ∀ b, 0 ≤ ld (pz l) (fun i => i) b j d ∧ ld (pz l) (fun i => i) b j d ≤ room ∧ (b < j → ld (pz l) (fun i => i) b j d = 0) := by
    intro d
    induction d with
    | zero => intro j _ b; exact ⟨Int.le_refl _, by show (0 : Int) ≤ room; omega, fun _ => rfl⟩
    | succ d ih =>
      intro j hb b
      have h3 := ih (j + 1) (fun i hi => hb i (by omega)) b
      have h4 := hb j (by omega)
      rw [ld]
      by_cases e : j = b
      · have := h3.2.2 (by omega)
        rw [if_pos e, this]
        omega
      · rw [if_neg e, Int.zero_add]
        exact ⟨h3.1, h3.2.1, fun h => h3.2.2 (by omega)⟩
  have hlast : packs room l l.length l.length [] 0 (List.replicate 12 0) ≠ [] := by
    refine packs_ne room l l.length (fun i hi => by have := (hp i hi).1; dsimp only [pz] at this; omega) h12 l.length [] 0 _ (by simp) (Nat.zero_le _) (by simp) (fun b _ => h0 b) ⟨fun i => i, fun i _ hi => by simpa using hi, fun b hb => ?_⟩
    show (List.replicate 12 (0 : Int)).getD b 0 + ld (pz l) (fun i => i) b 0 l.length ≤ room
    rw [h0, Int.zero_add]
    exact (hld l.length 0 (fun i hi => by have := hp i (by omega); omega) b).2.1
  obtain ⟨m, hm1, hm2, hm3, hm4⟩ : ∃ m : Nat, v ≤ m ∧ m ≤ l.length ∧ packs room l m l.length [] 0 (List.replicate 12 0) ≠ [] ∧ ∀ m', v ≤ m' → m' < m → packs room l m' l.length [] 0 (List.replicate 12 0) = [] := by
    have key : ∀ d u : Nat, u + d = l.length → v ≤ u → (∀ m', v ≤ m' → m' < u → packs room l m' l.length [] 0 (List.replicate 12 0) = []) → ∃ m : Nat, v ≤ m ∧ m ≤ l.length ∧ packs room l m l.length [] 0 (List.replicate 12 0) ≠ [] ∧ ∀ m', v ≤ m' → m' < m → packs room l m' l.length [] 0 (List.replicate 12 0) = [] := by
      intro d
      induction d with
      | zero => intro u hu hv hb; exact ⟨u, hv, by omega, by rw [show u = l.length by omega]; exact hlast, hb⟩
      | succ d ih =>
        intro u hu hv hb
        by_cases e : packs room l u l.length [] 0 (List.replicate 12 0) = []
        · exact ih (u + 1) (by omega) (by omega) fun m' h3 h4 => by
            by_cases e2 : m' = u
            · rw [e2]; exact e
            · exact hb m' h3 (by omega)
        · exact ⟨u, hv, by omega, e, hb⟩
    exact key (l.length - v) v (by omega) (Nat.le_refl _) fun m' h3 h4 => by omega
  obtain ⟨q, hq, hbest⟩ := bestL_found room l (l.length + 1 - v) v m hm1 (by omega) hm3 hm4
  refine ⟨v, at_, m, q, hP, by omega, hm2, hq, fun m' h3 h4 => hm4 m' (by omega) h4, fun k hk' => ?_⟩
  have hW : remnant_Weight.f k room l = some ((v : Int), at_, 0) := by
    unfold remnant_Weight.f remnant_arePieces.f
    rw [hok]
    simp only [Option.bind_some, if_true]
    rw [half room h1 h2, wrap_in (by omega) (by omega)]
    exact hk k (by omega)
  refine ⟨hW, ?_⟩
  unfold remnant_Best.f
  rw [if_pos hok, hW, Option.bind_some, if_pos ⟨rfl, by omega, by omega⟩, bestF, if_pos hok, Int.toNat_natCast, hbest]

end Go.Proofs.Ytoecbchfdgbliaa.Math

-- Plain lemmas: the table of the fewest boxes, and what the walk over the packings finds first.
namespace Go.Proofs.Ytoecbchfdgbliaa.Math
open Go.RowKit Go.Proofs.YtoecbchfdgbliaaW.PrintWords Go.Proofs.YtoecbchfdgbliaaW.PrintLast Go.Proofs.YtoecbchfdgbliaaW.PrintMore
open Go.Proofs.Ytoecbchfdgbliaa.Hand hiding wrap_in look within_iff
set_option linter.unusedVariables false

theorem bIn_inv (room : Int) (l : List Int) (s : Nat) : ∀ m, m ≤ l.length →
    (∀ i, i < m → (s / 2 ^ i) % 2 = 1 → ¬ Bet (stp room (bT room l (s - 2 ^ i)) (rd l (i : Int))) (bIn room l s m)) ∧
    (bIn room l s m = ((l.length : Int) + 1, 0) ∨ ∃ i, i < m ∧ (s / 2 ^ i) % 2 = 1 ∧ bIn room l s m = stp room (bT room l (s - 2 ^ i)) (rd l (i : Int)))
  | 0, _ => ⟨fun i hi => by omega, .inl rfl⟩
  | m + 1, hm => by
    obtain ⟨h1, h2⟩ := bIn_inv room l s m (by omega)
    rw [bIn_succ]
    unfold bstep
    by_cases hb : (s / 2 ^ m) % 2 = 1
    · rw [if_pos hb]
      by_cases hbt : Bet (stp room (bT room l (s - 2 ^ m)) (rd l (m : Int))) (bIn room l s m)
      · rw [if_pos hbt]
        refine ⟨fun i hi hbi hB => ?_, .inr ⟨m, by omega, hb, rfl⟩⟩
        by_cases e : i = m
        · subst e
          unfold Bet at hB; omega
        · refine h1 i (by omega) hbi ?_
          unfold Bet at *
          omega
      · rw [if_neg hbt]
        refine ⟨fun i hi hbi => ?_, ?_⟩
        · by_cases e : i = m
          · subst e; exact hbt
          · exact h1 i (by omega) hbi
        · rcases h2 with h2 | ⟨i, hi, hbi, h2⟩
          · exact .inl h2
          · exact .inr ⟨i, by omega, hbi, h2⟩
    · rw [if_neg hb]
      refine ⟨fun i hi hbi => ?_, ?_⟩
      · by_cases e : i = m
        · subst e; exact absurd hbi hb
        · exact h1 i (by omega) hbi
      · rcases h2 with h2 | ⟨i, hi, hbi, h2⟩
        · exact .inl h2
        · exact .inr ⟨i, by omega, hbi, h2⟩
theorem bT_cnt (room : Int) (l : List Int) : ∀ N s, s < N → s < 2 ^ l.length → (bT room l s).1 ≤ sl (fun _ => 1) (fun _ => 0) 0 s l.length
  | 0, s, h, _ => by omega
  | N + 1, s, h, hs => by
    by_cases e : s = 0
    · subst e
      exact sl_nonneg (fun _ _ => by decide) _ _ _
    · obtain ⟨i, hi, hb⟩ := has_bit l.length s (by omega) hs
      have h2 := two_le hb
      have hp : 0 < 2 ^ i := Nat.pow_pos (by decide)
      have ih := bT_cnt room l N (s - 2 ^ i) (by omega) (by omega)
      have hst := sl_step (p := fun _ => 1) (g := fun _ => 0) hi hb 0
      rw [if_pos rfl] at hst
      have hinv := (bIn_inv room l s l.length (Nat.le_refl _)).1 i hi hb
      rw [← bT_rec room l (by omega)] at hinv
      rw [hst]
      generalize bT room l (s - 2 ^ i) = c at ih hinv
      generalize bT room l s = t at hinv ⊢
      obtain ⟨c1, c2⟩ := c
      obtain ⟨t1, t2⟩ := t
      unfold Bet stp at hinv
      dsimp only at *
      split at hinv <;> dsimp only at hinv <;> omega
theorem sl_len (s : Nat) (n : Nat) : sl (fun _ => 1) (fun _ => 0) 0 s n ≤ n := by
  have h := sum_le 1 (List.range n) (fun i => if (s / 2 ^ i) % 2 = 1 ∧ (0 : Nat) = 0 then (1 : Int) else 0) fun b _ => by
    try dsimp only
    split <;> omega
  rw [List.length_range] at h
  have e : sl (fun _ => 1) (fun _ => 0) 0 s n = ((List.range n).map fun i => if (s / 2 ^ i) % 2 = 1 ∧ (0 : Nat) = 0 then (1 : Int) else 0).sum := rfl
  rw [e]; omega
theorem bT_dp (room : Int) (l : List Int) : Dp room (pz l) l.length (bT room l) := by
  refine ⟨rfl, fun s h0 hs => ?_, fun s i hs hi hb => ?_⟩
  · have hc := bT_cnt room l (s + 1) s (Nat.lt_succ_self s) hs
    have hn := sl_len s l.length
    rcases (bIn_inv room l s l.length (Nat.le_refl _)).2 with h | ⟨i, hi, hb, h⟩
    · rw [← bT_rec room l h0] at h
      rw [h] at hc
      dsimp only at hc
      omega
    · exact ⟨i, hi, hb, by rw [bT_rec room l h0]; exact h⟩
  · have h2 := two_le hb
    have hp : 0 < 2 ^ i := Nat.pow_pos (by decide)
    have h := (bIn_inv room l s l.length (Nat.le_refl _)).1 i hi hb
    rw [← bT_rec room l (by omega)] at h
    exact h

theorem all_bitsX (n i : Nat) (h : i < n) : ((2 ^ n - 1) / 2 ^ i) % 2 = 1 := by
  have := Nat.testBit_two_pow_sub_one n i
  rw [Nat.testBit_eq_decide_div_mod_eq] at this
  simpa [h] using this
theorem sl_bs (p : Nat → Int) (g : Nat → Nat) (b n : Nat) : sl p g b (2 ^ n - 1) n = bs p g b n := by
  unfold sl bs
  congr 1
  refine List.map_congr_left fun i hi => ?_
  have h := all_bitsX n i (List.mem_range.1 hi)
  by_cases e : g i = b
  · rw [if_pos ⟨h, e⟩, if_pos e]
  · rw [if_neg fun k => e k.2, if_neg e]
theorem ld_snoc (p : Nat → Int) (g : Nat → Nat) (b : Nat) : ∀ (d j : Nat), ld p g b j (d + 1) = ld p g b j d + (if g (j + d) = b then p (j + d) else 0)
  | 0, j => by rw [ld, ld, ld, Nat.add_zero]; omega
  | d + 1, j => by
    rw [ld, ld_snoc p g b d (j + 1), ld, show j + 1 + d = j + (d + 1) by omega]
    omega
theorem ld_bs (p : Nat → Int) (g : Nat → Nat) (b : Nat) : ∀ n, ld p g b 0 n = bs p g b n
  | 0 => rfl
  | n + 1 => by rw [ld_snoc, bs_succ, ld_bs p g b n, Nat.zero_add]
theorem zero12 (b : Nat) : (List.replicate 12 (0 : Int)).getD b 0 = 0 := by rw [List.getD_eq_getElem?_getD, List.getElem?_replicate]; split <;> rfl

/-- The boxes of a list of boxes hold what they may. -/
theorem part_loads {room : Int} {l q : List Int} {most n' : Nat} {y : List Int} (h0 : 0 ≤ room) (hlen : q.length = l.length) (hP : Part room l most q n' y) :
    (∀ i, i < l.length → 0 ≤ rd q (i : Int) ∧ rd q (i : Int) < (n' : Int)) ∧ ∀ b, b < 12 → bs (pz l) (fun i => (rd q (i : Int)).toNat) b l.length ≤ room := by
  have hb3 := (boxF_true q 0 n' hP.box).2.2
  have hin : ∀ i, i < l.length → 0 ≤ rd q (i : Int) ∧ rd q (i : Int) < (n' : Int) := fun i hi => hb3 _ (rd_memR (by omega))
  refine ⟨hin, fun b hb => ?_⟩
  have h := hP.sum b hb
  have h2 := (hP.load b).2
  rw [h, hlen] at h2
  have e : bs (pz l) (fun i => (rd q (i : Int)).toNat) b l.length = ((List.range l.length).map fun (i : Nat) => if rd q (i : Int) = (b : Int) then rd l (i : Int) else 0).sum := by
    unfold bs
    congr 1
    refine List.map_congr_left fun i hi => ?_
    have hi' := hin i (List.mem_range.1 hi)
    by_cases k : rd q (i : Int) = (b : Int)
    · rw [if_pos k, if_pos (show (rd q (i : Int)).toNat = b by omega)]
    · rw [if_neg k, if_neg (show ¬ (rd q (i : Int)).toNat = b by omega)]
  rw [e]; exact h2
/-- No right packing has fewer boxes than the table tells. -/
theorem min_le {room : Int} {l q : List Int} {most n' : Nat} {y : List Int} (h0 : 0 ≤ room) (h12 : l.length ≤ 12) (hm : most ≤ 12) (hp : ∀ i, i < l.length → 1 ≤ pz l i ∧ pz l i ≤ room) (hlen : q.length = l.length) (hP : Part room l most q n' y) : bestR room l ≤ n' := by
  unfold bestR
  by_cases hl : l.length = 0
  · rw [if_pos hl]; omega
  · rw [if_neg hl]
    obtain ⟨h1, h2⟩ := part_loads h0 hlen hP
    have hpos : 0 < 2 ^ l.length := Nat.pow_pos (by decide)
    have hn := hP.few
    have h10 := h1 0 (by omega)
    have h := dp_le (bT_dp room l) hp h0 (n' + (2 ^ l.length - 1) + 1) n' (2 ^ l.length - 1) (fun i => (rd q (i : Int)).toNat) 0 (by omega) (by omega) (by omega) (fun i hi _ => by have := h1 i hi; show (rd q (i : Int)).toNat < n'; omega) (fun b => by
      rw [sl_bs]
      by_cases hb : b < 12
      · exact h2 b hb
      · have : bs (pz l) (fun i => (rd q (i : Int)).toNat) b l.length = 0 := sum_zero _ _ fun i hi => by
          have := h1 i (List.mem_range.1 hi)
          exact if_neg (show ¬ (rd q (i : Int)).toNat = b by omega)
        rw [this]; exact h0)
    omega
/-- What is found first, from a bound by weights on, has as many boxes as the table tells. -/
theorem min_is {room w at_ : Int} {l q : List Int} {m : Nat} (h1 : 1 ≤ room) (h12 : l.length ≤ 12) (hp : ∀ i, i < l.length → 1 ≤ pz l i ∧ pz l i ≤ room) (ha0 : 0 ≤ at_) (ha1 : 2 * at_ ≤ room) (hw : w = wgt room at_ (pz l) l.length) (hml : m ≤ l.length)
    (hq : q ∈ packs room l m l.length [] 0 (List.replicate 12 0)) (hlow : ∀ m' : Nat, w ≤ m' → m' < m → packs room l m' l.length [] 0 (List.replicate 12 0) = []) :
    (m : Int) = bestR room l ∧ q.length = l.length ∧ ∃ y, Part room l m q m y := by
  have hp0 : ∀ i : Nat, i < l.length → 0 ≤ rd l (i : Int) := fun i hi => by have := (hp i hi).1; dsimp only [pz] at this; omega
  obtain ⟨hlen, n', y, hP⟩ := packs_part room l m hp0 (by omega) l.length [] 0 _ (by simp) (Part.none room (by omega) l m) q hq
  have hle := min_le (by omega) h12 (by omega) hp hlen hP
  have hfew := hP.few
  have hge : (m : Int) ≤ bestR room l := by
    apply Classical.byContradiction
    intro hlt
    by_cases hl : l.length = 0
    · unfold bestR at hlt; rw [if_pos hl] at hlt; omega
    · have hpos : 0 < 2 ^ l.length := Nat.pow_pos (by decide)
      obtain ⟨g, c, hc, hg, hld, _⟩ := dp_ge (bT_dp room l) hp (by omega) (2 ^ l.length) (2 ^ l.length - 1) (by omega) (by omega)
      have hb : bestR room l = (c : Int) + 1 := by unfold bestR; rw [if_neg hl, hc]
      have hg' : ∀ i, i < l.length → g i < c + 1 := fun i hi => by have := hg i hi (all_bitsX _ _ hi); omega
      have hld' : ∀ b, bs (pz l) g b l.length ≤ room := fun b => by rw [← sl_bs]; exact hld b
      have hwc := wgt_le h1 ha0 ha1 (pz l) l.length (c + 1) hp g hg' (fun b _ => hld' b)
      have hem := hlow (c + 1) (by rw [hw]; exact hwc) (by omega)
      refine packs_ne room l (c + 1) hp0 (by omega) l.length [] 0 _ (by simp) (Nat.zero_le _) (by simp) (fun b _ => zero12 b) ⟨g, fun i _ hi => hg' i (by simpa using hi), fun b hb => ?_⟩ hem
      show (List.replicate 12 (0 : Int)).getD b 0 + ld (pz l) g b 0 l.length ≤ room
      rw [zero12, Int.zero_add, ld_bs]
      exact hld' b
  have e : n' = m := by omega
  subst e
  exact ⟨by omega, hlen, y, hP⟩

end Go.Proofs.Ytoecbchfdgbliaa.Math

-- Plain lemmas over the names of the B print: pieces, numbers of boxes, loads, awake.
namespace Go.Proofs.Ytoecbchfdgbliaa.Math
open Go.RowKit Go.Proofs.Ytoecbchfdgbliaa.B Go.Proofs.YtoecbchfdgbliaaW.PrintWords Go.Proofs.YtoecbchfdgbliaaW.PrintLast Go.Proofs.YtoecbchfdgbliaaW.PrintMore
open Go.Proofs.Ytoecbchfdgbliaa.Hand hiding wrap_in look within_iff
set_option linter.unusedVariables false

theorem within_eq (x lo hi : Int) : remnant_within.f x lo hi = some (Hand.within x lo hi) := by
  unfold remnant_within.f Hand.within
  split <;> rfl
theorem within_is (x lo hi : Int) : Hand.within x lo hi = true ↔ lo ≤ x ∧ x ≤ hi := by
  unfold Hand.within
  split
  · simp only [decide_eq_true_eq]; omega
  · constructor
    · intro h; cases h
    · intro h; omega

/-- What pieces are. -/
def Ok (room : Int) (l : List Int) : Prop := 1 ≤ room ∧ room ≤ 100 ∧ l.length ≤ 12 ∧ ∀ x ∈ l, 1 ≤ x ∧ x ≤ room
theorem pie_iff (room : Int) (l : List Int) : Hand.pieF room l = true ↔ Ok room l := by
  unfold Hand.pieF Ok
  simp only [Bool.and_eq_true, within_is, decide_eq_true_eq, List.all_eq_true]
  constructor
  · rintro ⟨⟨h1, h2⟩, h3, h4⟩; exact ⟨h1, h2, by omega, h4⟩
  · rintro ⟨h1, h2, h3, h4⟩; exact ⟨⟨h1, h2⟩, by omega, h4⟩

theorem pieces_at (room : Int) (l : List Int) (hl : l.length ≤ 100000) : ∀ (m j : Nat), j + m = l.length → ∀ k, m < k →
    galloonref09_Pieces.l0 k room l (j : Int) = some (((l.drop j).all fun x => decide (1 ≤ x ∧ x ≤ room)) && decide (1 ≤ room ∧ room ≤ 100 ∧ l.length ≤ 12)) := by
  intro m
  induction m with
  | zero =>
    intro j h k hk
    obtain ⟨k, rfl⟩ : ∃ k', k = k' + 1 := ⟨k - 1, by omega⟩
    rw [galloonref09_Pieces.l0, if_neg (by omega), List.drop_of_length_le (by omega)]
    simp only [List.all_nil, Bool.true_and]
    by_cases h1 : room ≥ 1
    · rw [if_pos h1]
      by_cases h2 : room ≤ 100
      · rw [if_pos h2]
        congr 1
        apply decide_eq_decide.mpr
        omega
      · rw [if_neg h2]; congr 1; symm; apply decide_eq_false; omega
    · rw [if_neg h1]; congr 1; symm; apply decide_eq_false; omega
  | succ m ih =>
    intro j h k hk
    obtain ⟨k, rfl⟩ : ∃ k', k = k' + 1 := ⟨k - 1, by omega⟩
    have hj : j < l.length := by omega
    have hd : l.drop j = rd l (j : Int) :: l.drop (j + 1) := by rw [List.drop_eq_getElem_cons hj]; simp [rd, hj]
    rw [galloonref09_Pieces.l0, if_pos (by omega), if_pos (by omega), hd, List.all_cons]
    by_cases h1 : rd l (j : Int) < 1
    · rw [if_pos h1, decide_eq_false (by omega)]; rfl
    · rw [if_neg h1]
      by_cases h2 : rd l (j : Int) > room
      · rw [if_pos h2, decide_eq_false (by omega)]; rfl
      · rw [if_neg h2, next (by omega), ih (j + 1) (by omega) k (by omega), decide_eq_true (p := 1 ≤ rd l (j : Int) ∧ rd l (j : Int) ≤ room) (by omega), Bool.true_and]
theorem pieces_eq (room : Int) (l : List Int) (hl : l.length ≤ 100000) (k : Nat) (hk : l.length < k) : galloonref09_Pieces.f k room l = some (Hand.pieF room l) := by
  have h := pieces_at room l hl l.length 0 (by omega) k hk
  rw [show galloonref09_Pieces.f k room l = galloonref09_Pieces.l0 k room l ((0 : Nat) : Int) from rfl, h, List.drop_zero]
  congr 1
  rw [Bool.eq_iff_iff, pie_iff, Bool.and_eq_true, List.all_eq_true, decide_eq_true_eq]
  simp only [decide_eq_true_eq]
  unfold Ok
  constructor
  · rintro ⟨h1, h2, h3, h4⟩; exact ⟨h2, h3, h4, h1⟩
  · rintro ⟨h2, h3, h4, h1⟩; exact ⟨h1, h2, h3, h4⟩
theorem awake_ev : ∀ k, 60 ≤ k → galloonlaw09_awake.f k = some true := by
  intro k hk
  exact up (fun k => galloonlaw09_awake.mono k) (k := 60) (by decide +kernel) hk

theorem num_at (least : Int) (hle : -1 ≤ least) (l : List Int) (hl : l.length ≤ 1000) : ∀ (m j : Nat) (n : Int), j + m = l.length → 0 ≤ n → n ≤ j → ∀ k, 2 * m < k → galloonref09_numbered.l0 k l least n (j : Int) = some (boxF least n (l.drop j)) := by
  intro m
  induction m with
  | zero =>
    intro j n h h0 h1 k hk
    obtain ⟨k, rfl⟩ : ∃ k', k = k' + 1 := ⟨k - 1, by omega⟩
    rw [galloonref09_numbered.l0, if_neg (by omega), List.drop_of_length_le (by omega)]
    rfl
  | succ m ih =>
    intro j n h h0 h1 k hk
    obtain ⟨k, rfl⟩ : ∃ k', k = k' + 1 + 1 := ⟨k - 2, by omega⟩
    have hj : j < l.length := by omega
    have hd : l.drop j = rd l (j : Int) :: l.drop (j + 1) := rd_dropR l j hj
    rw [galloonref09_numbered.l0, if_pos (by omega), if_pos (by omega), hd, boxF]
    by_cases hlt : rd l (j : Int) < least
    · rw [if_pos hlt, galloonref09_numbered.j1, if_pos rfl, if_neg (by omega)]
    · rw [if_neg hlt, galloonref09_numbered.j1]
      by_cases hgt : rd l (j : Int) > n
      · rw [decide_eq_true hgt, if_pos rfl, if_neg (by omega)]
      · rw [decide_eq_false hgt, if_neg (by decide), if_pos (by omega), if_pos (by omega), if_pos (show least ≤ rd l (j : Int) ∧ rd l (j : Int) ≤ n by omega), next (by omega)]
        by_cases he : rd l (j : Int) = n
        · have hm : mx n (rd l (j : Int) + 1) = n + 1 := by unfold mx; split <;> omega
          rw [if_pos he, hm, wrap_in (n := n + 1) (by omega) (by omega), ih (j + 1) (n + 1) (by omega) (by omega) (by push_cast; omega) k (by omega)]
        · have hm : mx n (rd l (j : Int) + 1) = n := by unfold mx; split <;> omega
          rw [if_neg he, hm, ih (j + 1) n (by omega) h0 (by push_cast; omega) k (by omega)]
theorem num_eq (least : Int) (hle : -1 ≤ least) (l : List Int) (hl : l.length ≤ 1000) (k : Nat) (hk : 2 * l.length < k) : galloonref09_numbered.f k l least = some (boxF least 0 l) :=
  num_at least hle l hl l.length 0 0 (by omega) (Int.le_refl _) (Int.le_refl _) k hk
/-! ### Loads -/
theorem refL_at (ps l : List Int) (hl : l.length ≤ 1000) (hlen : l.length = ps.length) : ∀ (m j : Nat) (x : List Int), j + m = l.length → (∀ b ∈ l, b < (x.length : Int)) → ∀ k, m < k → galloonref09_Loads.l0 k ps l x (j : Int) = some (((List.range l.length).drop j).foldl (loadStep ps l) x) := by
  intro m
  induction m with
  | zero =>
    intro j x h hb k hk
    obtain ⟨k, rfl⟩ : ∃ k', k = k' + 1 := ⟨k - 1, by omega⟩
    rw [galloonref09_Loads.l0, if_neg (by omega), List.drop_of_length_le (by simp; omega)]
    rfl
  | succ m ih =>
    intro j x h hb k hk
    obtain ⟨k, rfl⟩ : ∃ k', k = k' + 1 := ⟨k - 1, by omega⟩
    have hj : j < l.length := by omega
    have hbj := hb _ (rd_memR hj)
    rw [galloonref09_Loads.l0, if_pos (by omega), if_pos (by omega), range_drop _ _ hj, List.foldl_cons]
    by_cases hneg : rd l (j : Int) ≥ 0
    · have e : loadStep ps l x j = x.set (rd l (j : Int)).toNat (wrap64 (rd x (rd l (j : Int)) + rd ps (j : Int))) := if_pos hneg
      rw [if_pos hneg, if_pos hneg, if_pos hbj, if_pos (by omega), next (by omega), ← e]
      exact ih (j + 1) _ (by omega) (fun b hb' => by rw [loadStep_length]; exact hb b hb') k (by omega)
    · have e : loadStep ps l x j = x := if_neg hneg
      rw [if_neg hneg, next (by omega), e]
      exact ih (j + 1) _ (by omega) hb k (by omega)
theorem step_take (ps l : List Int) (n : Nat) (x : List Int) (i : Nat) (hb : rd l (i : Int) < (n : Int)) : (loadStep ps l x i).take n = loadStep ps l (x.take n) i ∧ (loadStep ps l x i).drop n = x.drop n := by
  unfold loadStep
  by_cases h0 : 0 ≤ rd l (i : Int)
  · rw [if_pos h0, if_pos h0]
    have hlt : (rd l (i : Int)).toNat < n := by omega
    refine ⟨?_, List.drop_set_of_lt hlt⟩
    rw [List.take_set]
    congr 2
    rw [List.getD_eq_getElem?_getD, List.getD_eq_getElem?_getD, List.getElem?_take_of_lt hlt]
  · rw [if_neg h0, if_neg h0]
    exact ⟨rfl, rfl⟩
theorem fold_take (ps l : List Int) (n : Nat) : ∀ (r : List Nat) (x : List Int), (∀ i ∈ r, rd l (i : Int) < (n : Int)) → (r.foldl (loadStep ps l) x).take n = r.foldl (loadStep ps l) (x.take n) ∧ (r.foldl (loadStep ps l) x).drop n = x.drop n
  | [], x, _ => ⟨rfl, rfl⟩
  | i :: r, x, h => by
    have h1 := step_take ps l n x i (h i List.mem_cons_self)
    have h2 := fold_take ps l n r (loadStep ps l x i) (fun j hj => h j (List.mem_cons_of_mem _ hj))
    rw [List.foldl_cons, List.foldl_cons]
    exact ⟨by rw [h2.1, h1.1], by rw [h2.2, h1.2]⟩
/-- The loads of n boxes, of both. -/
theorem loads_ref (ps l : List Int) (hlen : l.length = ps.length) (hl : l.length ≤ 12) (least : Int) (hle : -1 ≤ least) {n : Nat} (h : boxF (-1) 0 l = ((n : Int), true)) (k : Nat) (hk : 100 < k) :
    galloonref09_Loads.f k ps l = some ((loadF ps l).take n) ∧ (loadF ps l).drop n = List.replicate (12 - n) 0 ∧ n ≤ 12 := by
  obtain ⟨h1, h2, h3⟩ := boxF_true l 0 n h
  have hn : n ≤ 12 := by omega
  have hr : ∀ i ∈ List.range l.length, rd l (i : Int) < (n : Int) := fun i hi => (h3 _ (rd_memR (by simpa using hi))).2
  have hf := fold_take ps l n (List.range l.length) (List.replicate 12 0) hr
  refine ⟨?_, ?_, hn⟩
  · unfold galloonref09_Loads.f
    rw [num_eq (-1) (by decide) l (by omega) k (by omega), h]
    simp only [Option.bind_some]
    rw [if_pos h1, Int.toNat_natCast, if_pos (by omega), show (0 : Int) = ((0 : Nat) : Int) from rfl, refL_at ps l (by omega) hlen l.length 0 _ (by omega) (fun b hb => by rw [List.length_replicate]; exact (h3 b hb).2) k (by omega)]
    congr 1
    rw [loadF, hf.1, List.take_replicate, Nat.min_eq_left hn]
    rfl
  · rw [loadF, hf.2, List.drop_replicate]


theorem boxF_lower : ∀ (l : List Int) (n r : Int), boxF 0 n l = (r, true) → boxF (-1) n l = (r, true)
  | [], n, r, h => by rw [boxF] at h ⊢; exact h
  | b :: t, n, r, h => by
    rw [boxF] at h ⊢
    by_cases hb : 0 ≤ b ∧ b ≤ n
    · rw [if_pos hb] at h
      rw [if_pos (by omega)]
      exact boxF_lower t _ r h
    · rw [if_neg hb] at h; cases h

theorem fold_mx (r : Int) : ∀ (t : List Int) (m : Int), t.foldl mx m > r ↔ (m > r ∨ ∃ v ∈ t, v > r)
  | [], m => by simp
  | v :: t, m => by
    rw [List.foldl_cons, fold_mx r t (mx m v)]
    have hm : mx m v > r ↔ (m > r ∨ v > r) := by unfold mx; split <;> omega
    rw [hm]
    constructor
    · rintro ((h | h) | ⟨u, hu, h⟩)
      · exact .inl h
      · exact .inr ⟨v, List.mem_cons_self, h⟩
      · exact .inr ⟨u, List.mem_cons_of_mem _ hu, h⟩
    · rintro (h | ⟨u, hu, h⟩)
      · exact .inl (.inl h)
      · rcases List.mem_cons.1 hu with rfl | hu
        · exact .inl (.inr h)
        · exact .inr ⟨u, hu, h⟩
theorem max_gt (r : Int) (x : List Int) (hx : 0 < x.length) : maxF x > r ↔ ∃ v ∈ x, v > r := by
  rw [maxF, fold_mx]
  cases x with
  | nil => simp at hx
  | cons a t =>
    rw [show rd (a :: t) 0 = a from rfl, List.drop_one, List.tail_cons]
    simp only [List.mem_cons, exists_eq_or_imp]
theorem right_at (room : Int) (x : List Int) (hl : x.length ≤ 1000) : ∀ (m j : Nat), j + m = x.length → ∀ k, m < k → galloonref09_Right.l0 k room x (j : Int) = some ((x.drop j).all fun v => decide (v ≤ room)) := by
  intro m
  induction m with
  | zero =>
    intro j h k hk
    obtain ⟨k, rfl⟩ : ∃ k', k = k' + 1 := ⟨k - 1, by omega⟩
    rw [galloonref09_Right.l0, if_neg (by omega), List.drop_of_length_le (by omega)]
    rfl
  | succ m ih =>
    intro j h k hk
    obtain ⟨k, rfl⟩ : ∃ k', k = k' + 1 := ⟨k - 1, by omega⟩
    have hj : j < x.length := by omega
    rw [galloonref09_Right.l0, if_pos (by omega), if_pos (by omega), rd_dropR x j hj, List.all_cons]
    by_cases h1 : rd x (j : Int) > room
    · rw [if_pos h1, decide_eq_false (by omega), Bool.false_and]
    · rw [if_neg h1, next (by omega), ih (j + 1) (by omega) k (by omega), decide_eq_true (show rd x (j : Int) ≤ room by omega), Bool.true_and]
theorem right_eq (room : Int) (x : List Int) (hl : x.length ≤ 1000) (k : Nat) (hk : x.length < k) : galloonref09_Right.f k room x = some (x.all fun v => decide (v ≤ room)) := by
  have h := right_at room x hl x.length 0 (by omega) k hk
  rw [List.drop_zero] at h
  exact h

end Go.Proofs.Ytoecbchfdgbliaa.Math

namespace Go.Proofs.Ytoecbchfdgbliaa.Pure
open Go.RowKit Go.Proofs.Ytoecbchfdgbliaa.B Go.Proofs.YtoecbchfdgbliaaW.PrintWords Go.Proofs.YtoecbchfdgbliaaW.PrintLast Go.Proofs.YtoecbchfdgbliaaW.PrintMore Go.Proofs.Ytoecbchfdgbliaa.Math
open Go.Proofs.Ytoecbchfdgbliaa.Hand hiding wrap_in look within_iff
set_option linter.unusedVariables false

theorem RemnantBests : galloonlaw09_RemnantBests.Pure := by
  intro a0 l1 _ _ _ _
  refine ⟨400, ?_⟩
  unfold galloonlaw09_RemnantBests.f galloonlaw09_list.f remnant_Ways.f
  simp only [Option.bind_some]
  generalize hl : l1.take 13 = l
  have hl13 : l.length ≤ 13 := by rw [← hl, List.length_take]; omega
  have hpe := pieces_eq a0 l (by omega) 400 (by omega)
  by_cases hp : pieF a0 l = true
  · obtain ⟨h1, h2, h12, hall⟩ := (pie_iff a0 l).mp hp
    have hp' : ∀ i, i < l.length → 1 ≤ pz l i ∧ pz l i ≤ a0 := fun i hi => hall _ (Math.rd_mem hi)
    obtain ⟨w, at_, m, q, ⟨hA0, hA1, hA2, hA3⟩, hwm, hml, hq, hlow, hk⟩ := best_ok hp h1 h2 h12 hp'
    obtain ⟨hmin, hlen, y, hP⟩ := min_is h1 h12 hp' hA0 hA1 hA2 hml hq hlow
    have hbx := hP.box
    have hB := (hk 400 (by omega)).2
    have hps : ∀ i : Nat, 0 ≤ rd l (i : Int) ∧ rd l (i : Int) ≤ 100 := fun i => by
      by_cases hi : i < l.length
      · have := hp' i hi; dsimp only [pz] at this; omega
      · have e : rd l (i : Int) = 0 := by unfold rd; rw [Int.toNat_natCast, List.getD_eq_getElem?_getD, List.getElem?_eq_none (by omega)]; rfl
        omega
    have hload : ∀ v, v < 12 → (loadF l q).getD v 0 ≤ a0 := fun v hv => by
      have e1 := load_at l q hps (by omega) hv
      have e2 := hP.sum v hv
      have e3 := (hP.load v).2
      rw [e2] at e3
      rw [e1]
      exact e3
    have hx12 := loadF_length l q
    have hmem : ∀ x ∈ loadF l q, x ≤ a0 := fun x hx => by
      obtain ⟨v, hv, rfl⟩ := List.getElem_of_mem hx
      have := hload v (by omega)
      rwa [List.getD_eq_getElem?_getD, List.getElem?_eq_getElem hv, Option.getD_some] at this
    have hpack : galloonref09_Packing.f 400 l q = some true := by
      unfold galloonref09_Packing.f
      rw [num_eq 0 (by decide) q (by omega) 400 (by omega), Option.bind_some, hbx, if_pos rfl]
      congr 1
      exact beq_iff_eq.mpr (by omega)
    have href : galloonref09_Best.f a0 l = some (m : Int) := by
      unfold galloonref09_Best.f
      rw [if_pos hp, ← hmin]
    have hways : galloonref09_Ways.f a0 l = some (waysF a0 l).1 := by
      unfold galloonref09_Ways.f
      rw [if_pos hp]
    have hw2 : (waysF a0 l).2 = 0 := by unfold waysF; rw [if_pos hp]
    obtain ⟨hL, hD, hn⟩ := loads_ref l q hlen (by omega) 0 (by decide) (boxF_lower q 0 m hbx) 399 (by omega)
    have htl : ((loadF l q).take m).length = m := by rw [List.length_take]; omega
    have hall2 : ((loadF l q).take m).all (fun v => decide (v ≤ a0)) = true := by
      rw [List.all_eq_true]
      intro x hx
      exact decide_eq_true (hmem x (List.mem_of_mem_take hx))
    have hmax : ¬ maxF (loadF l q) > a0 := by
      rw [max_gt a0 _ (by omega)]
      rintro ⟨v, hv, hgt⟩
      have := hmem v hv
      omega
    have e1 : checkF a0 l q = ((m : Int), 0) := by
      unfold checkF
      rw [if_pos ⟨hp, hlen⟩, hbx, if_pos rfl, if_neg hmax]
    have er := right_eq a0 ((loadF l q).take m) (by omega) 399 (by omega)
    have ea := awake_ev 399 (by omega)
    rw [hB]
    simp only [Option.bind_some]
    rw [hpe]
    simp only [Option.bind_some]
    rw [if_pos hp]
    simp only [if_true]
    rw [hpack]
    simp only [Option.bind_some, if_true]
    rw [href]
    simp only [Option.bind_some]
    rw [bne_self_eq_false, show (400 : Nat) = 399 + 1 from rfl, galloonlaw09_RemnantBests.j0, if_neg (by decide), hL]
    simp only [Option.bind_some]
    unfold remnant_Check.f
    simp only [Option.bind_some]
    rw [e1, if_pos (by rw [htl]), er]
    simp only [Option.bind_some]
    rw [if_pos hall2]
    simp only [if_true]
    rw [hways]
    simp only [Option.bind_some, if_true]
    rw [if_pos hw2, ea]
    rfl
  · have hB : remnant_Best.f 400 a0 l = some ([], 0, 2) := by unfold remnant_Best.f; rw [if_neg hp]
    have hw : waysF a0 l = (0, 2) := by unfold waysF; rw [if_neg hp]
    rw [hB]
    simp only [Option.bind_some]
    rw [hpe]
    simp only [Option.bind_some]
    rw [if_neg hp, if_pos (show (([] : List Int).length : Int) = 0 from rfl)]
    simp only [if_true]
    rw [hw]
    simp only [if_true]
    rw [awake_ev 400 (by omega)]
    rfl

end Go.Proofs.Ytoecbchfdgbliaa.Pure

