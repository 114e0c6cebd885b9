-- Plain lemmas: the greatest number of full boxes; boxes in another order.
import Derived.Test.YtoecbchfdgbliaaMathV
import Derived.Test.YtoecbchfdgbliaaMathPM
namespace Go.Proofs.Ytoecbchfdgbliaa.Math
open Go.RowKit Go.Proofs.YtoecbchfdgbliaaW.PrintWords Go.Proofs.YtoecbchfdgbliaaW.PrintLast Go.Proofs.YtoecbchfdgbliaaW.PrintMore
open Go.Proofs.Ytoecbchfdgbliaa.Hand hiding wrap_in look
set_option linter.unusedVariables false


theorem inner_most (room : Int) (l : List Int) (s : Nat) : ∀ (m i : Nat), i < m → (s / 2 ^ i) % 2 = 1 → ¬ Better (nxt room (fo (B room l (s - 2 ^ i))) (rd l (i : Int))) (fo (inner room l s m))
  | 0, i, hi, _ => by omega
  | m + 1, i, hi, hb => by
    rw [inner_succ]
    unfold tryOne
    by_cases hm : (s / 2 ^ m) % 2 = 1
    · rw [if_pos hm]
      by_cases hbt : Better (nxt room (fo (B room l (s - 2 ^ m))) (rd l (m : Int))) (fo (inner room l s m))
      · rw [if_pos hbt]
        by_cases e : i = m
        · subst e
          unfold Better fo; dsimp only; omega
        · have h := inner_most room l s m i (by omega) hb
          generalize nxt room (fo (B room l (s - 2 ^ i))) (rd l (i : Int)) = x at h ⊢
          generalize nxt room (fo (B room l (s - 2 ^ m))) (rd l (m : Int)) = z at hbt ⊢
          generalize fo (inner room l s m) = c at h hbt
          unfold Better fo at *
          dsimp only at *
          omega
      · rw [if_neg hbt]
        by_cases e : i = m
        · subst e; exact hbt
        · exact inner_most room l s m i (by omega) hb
    · rw [if_neg hm]
      by_cases e : i = m
      · subst e; exact absurd hb hm
      · exact inner_most room l s m i (by omega) hb
theorem B_most (room : Int) (l : List Int) {s i : Nat} (hi : i < l.length) (hb : (s / 2 ^ i) % 2 = 1) : ¬ Better (nxt room (fo (B room l (s - 2 ^ i))) (rd l (i : Int))) (fo (B room l s)) := by
  have h2 := two_le hb
  have hp : 0 < 2 ^ i := Nat.pow_pos (by decide)
  rw [B_eq room l (show 0 < s by omega)]
  exact inner_most room l s _ i hi hb
/-- No boxes that are full are more than the table tells. -/
theorem fill_max {room : Int} {l : List Int} (hl : ∀ i : Nat, i < l.length → 1 ≤ rd l (i : Int)) (hr : 1 ≤ room) (g : Nat → Nat) : ∀ N s k, s < N → s < 2 ^ l.length → (∀ b, b < k → room ≤ sl (fun i => rd l (i : Int)) g b s l.length) →
    (k : Int) < (B room l s).1 ∨ ((k : Int) = (B room l s).1 ∧ sl (fun i => rd l (i : Int)) g k s l.length ≤ (B room l s).2.1)
  | 0, _, _, h, _, _ => by omega
  | N + 1, s, k, h, hs, hf => by
    have hB := (B_last room l hl hr (s + 1) s (by omega) hs).1
    by_cases hk : ∃ i, i < l.length ∧ (s / 2 ^ i) % 2 = 1 ∧ g i = k
    · obtain ⟨i, hi, hb, hg⟩ := hk
      have h2 := two_le hb
      have hp : 0 < 2 ^ i := Nat.pow_pos (by decide)
      have ih := fill_max hl hr g N (s - 2 ^ i) k (by omega) (by omega) fun b hbk => by
        have := hf b hbk
        rw [sl_step hi hb b, if_neg (by omega), Int.add_zero] at this
        exact this
      have hm := B_most room l hi hb
      rw [sl_step hi hb k, if_pos hg]
      have hpi := hl i hi
      generalize sl (fun i => rd l (i : Int)) g k (s - 2 ^ i) l.length = z at ih ⊢
      generalize B room l (s - 2 ^ i) = b at ih hm
      generalize B room l s = c at hm hB ⊢
      try dsimp only
      generalize rd l (i : Int) = q at hm hpi ⊢
      unfold Better nxt fo at hm
      dsimp only at hm
      split at hm <;> dsimp only at hm <;> omega
    · have hz : ∀ k, (¬ ∃ i, i < l.length ∧ (s / 2 ^ i) % 2 = 1 ∧ g i = k) → sl (fun i => rd l (i : Int)) g k s l.length = 0 := fun k hk => sl_none fun i hi hb hg => hk ⟨i, hi, hb, hg⟩
      rw [hz k hk]
      cases k with
      | zero => omega
      | succ k =>
        by_cases hk2 : ∃ i, i < l.length ∧ (s / 2 ^ i) % 2 = 1 ∧ g i = k
        · obtain ⟨i, hi, hb, hg⟩ := hk2
          have h2 := two_le hb
          have hp : 0 < 2 ^ i := Nat.pow_pos (by decide)
          have ih := fill_max hl hr g N (s - 2 ^ i) k (by omega) (by omega) fun b hbk => by
            have := hf b (by omega)
            rw [sl_step hi hb b, if_neg (by omega), Int.add_zero] at this
            exact this
          have hm := B_most room l hi hb
          have hfk := hf k (by omega)
          rw [sl_step hi hb k, if_pos hg] at hfk
          have hpi := hl i hi
          have hn1 := (B_last room l hl hr (s - 2 ^ i + 1) (s - 2 ^ i) (by omega) (by omega)).1
          generalize sl (fun i => rd l (i : Int)) g k (s - 2 ^ i) l.length = z at ih hfk
          generalize B room l (s - 2 ^ i) = b at ih hm hn1
          generalize B room l s = c at hm hB ⊢
          try dsimp only at hfk
          generalize rd l (i : Int) = q at hm hpi hfk
          unfold Better nxt fo at hm
          dsimp only at hm
          split at hm <;> dsimp only at hm <;> omega
        · have := hf k (by omega)
          rw [hz k hk2] at this
          omega
/-- So many boxes can be filled. -/
def FullB (room : Int) (l : List Int) (k : Nat) : Prop := ∃ g : Nat → Nat, ∀ b, b < k → room ≤ bs (fun i => rd l (i : Int)) g b l.length
theorem sl_all (p : Nat → Int) (g : Nat → Nat) (b n : Nat) : sl p g b (2 ^ n - 1) n = bs p g b n := by
  unfold sl bs
  congr 1
  refine List.map_congr_left fun i hi => ?_
  have hb : ((2 ^ n - 1) / 2 ^ i) % 2 = 1 := by
    have := Nat.testBit_two_pow_sub_one n i
    rw [Nat.testBit_eq_decide_div_mod_eq] at this
    simpa [List.mem_range.1 hi] using this
  by_cases h : g i = b
  · rw [if_pos ⟨hb, h⟩, if_pos h]
  · rw [if_neg fun k => h k.2, if_neg h]
theorem full_max {room : Int} {l : List Int} (hl : ∀ i : Nat, i < l.length → 1 ≤ rd l (i : Int)) (hr : 1 ≤ room) {k : Nat} (h : FullB room l k) : (k : Int) ≤ (B room l (2 ^ l.length - 1)).1 := by
  obtain ⟨g, hg⟩ := h
  have hp : 0 < 2 ^ l.length := Nat.pow_pos (by decide)
  have := fill_max hl hr g (2 ^ l.length) (2 ^ l.length - 1) k (by omega) (by omega) fun b hb => by rw [sl_all]; exact hg b hb
  omega

/-! ### In another order -/
theorem bs_pos {l : List Int} {P : List Nat} (hP : P.Perm (List.range l.length)) (g : Nat → Nat) (b : Nat) : bs (fun i => rd (P.map fun i => l.getD i 0) (i : Int)) (fun i => g (P.getD i 0)) b l.length = bs (fun i => rd l (i : Int)) g b l.length := by
  have hl : P.length = l.length := by rw [hP.length_eq, List.length_range]
  unfold bs
  rw [← sum_pos hP (fun i => if g i = b then rd l (i : Int) else 0)]
  congr 1
  refine List.map_congr_left fun i hi => ?_
  have hi' : i < P.length := by rw [hl]; exact List.mem_range.1 hi
  have e : rd (P.map fun i => l.getD i 0) (i : Int) = rd l ((P.getD i 0 : Nat) : Int) := by
    simp [rd, List.getD_eq_getElem?_getD, List.getElem?_map, List.getElem?_eq_getElem hi']
  show (if g (P.getD i 0) = b then rd (P.map fun i => l.getD i 0) (i : Int) else 0) = _
  rw [e]
theorem full_perm {room : Int} {l o : List Int} (hp : l.Perm o) {k : Nat} (h : FullB room l k) : FullB room o k := by
  obtain ⟨P, hP, rfl⟩ := perm_pos hp
  obtain ⟨g, hg⟩ := h
  refine ⟨fun i => g (P.getD i 0), fun b hb => ?_⟩
  rw [← hp.length_eq, bs_pos hP]
  exact hg b hb
theorem tot_sum (f : Int → Int) (l : List Int) : tot (fun i => f (rd l (i : Int))) l.length = (l.map f).sum := by
  unfold tot
  congr 1
  apply List.ext_getElem
  · simp
  · intro i h1 h2
    have hi : i < l.length := by simpa using h1
    simp [rd, List.getD_eq_getElem?_getD, List.getElem?_eq_getElem hi]
theorem wgt_perm {l o : List Int} (hp : l.Perm o) (room a : Int) : wgt room a (fun i => rd l (i : Int)) l.length = wgt room a (fun i => rd o (i : Int)) o.length := by
  unfold wgt
  rw [tot_sum (bigW room a) l, tot_sum (bigW room a) o, tot_sum (gW room a) l, tot_sum (gW room a) o, perm_sum (hp.map (bigW room a)), perm_sum (hp.map (gW room a))]

end Go.Proofs.Ytoecbchfdgbliaa.Math
