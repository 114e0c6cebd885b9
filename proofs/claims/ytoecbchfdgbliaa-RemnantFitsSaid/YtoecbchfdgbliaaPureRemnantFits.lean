/- RemnantFits: First, Tight and Falling return the packings of first fit, of best fit, and of falling, or ErrArg. For every room and list. -/
import Derived.Test.YtoecbchfdgbliaaMathFR
namespace Go.Proofs.Ytoecbchfdgbliaa.Math
open Go.RowKit Go.Proofs.Ytoecbchfdgbliaa.B Go.Proofs.YtoecbchfdgbliaaW.PrintWords Go.Proofs.YtoecbchfdgbliaaW.PrintLast Go.Proofs.YtoecbchfdgbliaaW.PrintMore
open Go.Proofs.Ytoecbchfdgbliaa.Hand hiding wrap_in look rd_mem
set_option linter.unusedVariables false

theorem rd_mem {l : List Int} {j : Nat} (h : j < l.length) : rd l (j : Int) ∈ l := by
  simp only [rd, Int.toNat_natCast, List.getD_eq_getElem?_getD, List.getElem?_eq_getElem h, Option.getD_some]
  exact List.getElem_mem h

/-- Once a round is enough, more are. -/
theorem up {α : Type} {g : Nat → Option α} (h : ∀ k, LeO (g k) (g (k + 1))) {k : Nat} {r : α} (hr : g k = some r) {k' : Nat} (hk : k ≤ k') : g k' = some r := at_rounds h hk hr

theorem within_eq (x lo hi : Int) : remnant_within.f x lo hi = some (Hand.within x lo hi) := by
  unfold remnant_within.f Hand.within
  split <;> rfl
theorem within_is (x lo hi : Int) : Hand.within x lo hi = true ↔ lo ≤ x ∧ x ≤ hi := by
  unfold Hand.within
  split
  · simp only [decide_eq_true_eq]; omega
  · constructor
    · intro h; cases h
    · intro h; omega

/-- What pieces are. -/
def Ok (room : Int) (l : List Int) : Prop := 1 ≤ room ∧ room ≤ 100 ∧ l.length ≤ 12 ∧ ∀ x ∈ l, 1 ≤ x ∧ x ≤ room
theorem pie_iff (room : Int) (l : List Int) : Hand.pieF room l = true ↔ Ok room l := by
  unfold Hand.pieF Ok
  simp only [Bool.and_eq_true, within_is, decide_eq_true_eq, List.all_eq_true]
  constructor
  · rintro ⟨⟨h1, h2⟩, h3, h4⟩; exact ⟨h1, h2, by omega, h4⟩
  · rintro ⟨h1, h2, h3, h4⟩; exact ⟨⟨h1, h2⟩, by omega, h4⟩

theorem pieces_at (room : Int) (l : List Int) (hl : l.length ≤ 100000) : ∀ (m j : Nat), j + m = l.length → ∀ k, m < k →
    galloonref09_Pieces.l0 k room l (j : Int) = some (((l.drop j).all fun x => decide (1 ≤ x ∧ x ≤ room)) && decide (1 ≤ room ∧ room ≤ 100 ∧ l.length ≤ 12)) := by
  intro m
  induction m with
  | zero =>
    intro j h k hk
    obtain ⟨k, rfl⟩ : ∃ k', k = k' + 1 := ⟨k - 1, by omega⟩
    rw [galloonref09_Pieces.l0, if_neg (by omega), List.drop_of_length_le (by omega)]
    simp only [List.all_nil, Bool.true_and]
    by_cases h1 : room ≥ 1
    · rw [if_pos h1]
      by_cases h2 : room ≤ 100
      · rw [if_pos h2]
        congr 1
        apply decide_eq_decide.mpr
        omega
      · rw [if_neg h2]; congr 1; symm; apply decide_eq_false; omega
    · rw [if_neg h1]; congr 1; symm; apply decide_eq_false; omega
  | succ m ih =>
    intro j h k hk
    obtain ⟨k, rfl⟩ : ∃ k', k = k' + 1 := ⟨k - 1, by omega⟩
    have hj : j < l.length := by omega
    have hd : l.drop j = rd l (j : Int) :: l.drop (j + 1) := by rw [List.drop_eq_getElem_cons hj]; simp [rd, hj]
    rw [galloonref09_Pieces.l0, if_pos (by omega), if_pos (by omega), hd, List.all_cons]
    by_cases h1 : rd l (j : Int) < 1
    · rw [if_pos h1, decide_eq_false (by omega)]; rfl
    · rw [if_neg h1]
      by_cases h2 : rd l (j : Int) > room
      · rw [if_pos h2, decide_eq_false (by omega)]; rfl
      · rw [if_neg h2, next (by omega), ih (j + 1) (by omega) k (by omega), decide_eq_true (p := 1 ≤ rd l (j : Int) ∧ rd l (j : Int) ≤ room) (by omega), Bool.true_and]
theorem pieces_eq (room : Int) (l : List Int) (hl : l.length ≤ 100000) (k : Nat) (hk : l.length < k) : galloonref09_Pieces.f k room l = some (Hand.pieF room l) := by
  have h := pieces_at room l hl l.length 0 (by omega) k hk
  rw [show galloonref09_Pieces.f k room l = galloonref09_Pieces.l0 k room l ((0 : Nat) : Int) from rfl, h, List.drop_zero]
  congr 1
  rw [Bool.eq_iff_iff, pie_iff, Bool.and_eq_true, List.all_eq_true, decide_eq_true_eq]
  simp only [decide_eq_true_eq]
  unfold Ok
  constructor
  · rintro ⟨h1, h2, h3, h4⟩; exact ⟨h2, h3, h4, h1⟩
  · rintro ⟨h2, h3, h4, h1⟩; exact ⟨h1, h2, h3, h4⟩
theorem awake_ev : ∀ k, 60 ≤ k → galloonlaw09_awake.f k = some true := by
  intro k hk
  exact up (fun k => galloonlaw09_awake.mono k) (k := 60) (by decide +kernel) hk

theorem ints_at' (a : List Int) (hl : a.length ≤ 100000) : ∀ (d j : Nat), j + d = a.length → ∀ k, d < k → galloonlaw09_ints.l0 k a a (j : Int) = some true := by
  intro d
  induction d with
  | zero =>
    intro j hj k hk
    obtain ⟨k, rfl⟩ : ∃ k', k = k' + 1 := ⟨k - 1, by omega⟩
    rw [galloonlaw09_ints.l0, if_neg (by omega)]
  | succ d ih =>
    intro j hj k hk
    obtain ⟨k, rfl⟩ : ∃ k', k = k' + 1 := ⟨k - 1, by omega⟩
    rw [galloonlaw09_ints.l0, if_pos (by omega), if_pos (by omega), if_pos (by omega), if_pos rfl, next (by omega), ih (j + 1) (by omega) k (by omega)]
theorem ints_same (a : List Int) (hl : a.length ≤ 100000) (k : Nat) (hk : a.length < k) : galloonlaw09_ints.f k a a = some true := by
  unfold galloonlaw09_ints.f
  rw [if_pos rfl]
  exact ints_at' a hl a.length 0 (by omega) k hk


theorem ord_at (l : List Int) (hl : l.length ≤ 1000) : ∀ (m j : Nat), j + m = l.length → ∀ k, m < k → remnant_inOrder.l0 k (places j) (l.length : Int) (j : Int) = some (places l.length) := by
  intro m
  induction m with
  | zero =>
    intro j hj k hk
    obtain ⟨k, rfl⟩ : ∃ k', k = k' + 1 := ⟨k - 1, by omega⟩
    rw [remnant_inOrder.l0, if_neg (by omega), show j = l.length by omega]
  | succ m ih =>
    intro j hj k hk
    obtain ⟨k, rfl⟩ : ∃ k', k = k' + 1 := ⟨k - 1, by omega⟩
    rw [remnant_inOrder.l0, if_pos (by omega), if_pos (by rw [places_length]; omega), next (by omega), show places j ++ [(j : Int)] = places (j + 1) by simp [places, List.range_succ]]
    exact ih (j + 1) (by omega) k (by omega)
theorem same_at (n : Nat) (hn : n ≤ 1000) : ∀ (m j : Nat), j + m = n → ∀ k, m < k → galloonref09_Same.l0 k (n : Int) (places j) (j : Int) = some (places n) := by
  intro m
  induction m with
  | zero =>
    intro j hj k hk
    obtain ⟨k, rfl⟩ : ∃ k', k = k' + 1 := ⟨k - 1, by omega⟩
    rw [galloonref09_Same.l0, if_neg (by omega), show j = n by omega]
  | succ m ih =>
    intro j hj k hk
    obtain ⟨k, rfl⟩ : ∃ k', k = k' + 1 := ⟨k - 1, by omega⟩
    rw [galloonref09_Same.l0, if_pos (by omega), if_pos (by rw [places_length]; omega), next (by omega), show places j ++ [(j : Int)] = places (j + 1) by simp [places, List.range_succ]]
    exact ih (j + 1) (by omega) k (by omega)
theorem renamed_length (F : List Int) : (renamedF F).length = F.length := by
  unfold renamedF
  rw [show ([] : List (Int × Int)) = namesFrom 0 [] from rfl, nmL_rn]
  exact rn_length F []

end Go.Proofs.Ytoecbchfdgbliaa.Math
namespace Go.Proofs.Ytoecbchfdgbliaa.Pure
open Go.RowKit Go.Proofs.Ytoecbchfdgbliaa.B Go.Proofs.YtoecbchfdgbliaaW.PrintWords Go.Proofs.YtoecbchfdgbliaaW.PrintLast Go.Proofs.YtoecbchfdgbliaaW.PrintMore Go.Proofs.Ytoecbchfdgbliaa.Math
open Go.Proofs.Ytoecbchfdgbliaa.Hand hiding wrap_in look rd_mem
set_option linter.unusedVariables false

theorem RemnantFits : galloonlaw09_RemnantFits.Pure := by
  intro a0 l1 _ _ _ _
  refine ⟨6000, ?_⟩
  unfold galloonlaw09_RemnantFits.f galloonlaw09_list.f remnant_First.f remnant_Tight.f remnant_Falling.f remnant_arePieces.f
  simp only [Option.bind_some]
  generalize hl : l1.take 13 = l
  have hl13 : l.length ≤ 13 := by rw [← hl, List.length_take]; omega
  have hpe := pieces_eq a0 l (by omega) 6000 (by omega)
  by_cases hp : pieF a0 l = true
  · obtain ⟨h1, h2, h12, hall⟩ := (pie_iff a0 l).mp hp
    have hp' : ∀ i : Nat, i < l.length → 1 ≤ rd l (i : Int) ∧ rd l (i : Int) ≤ a0 := fun i hi => hall _ (Math.rd_mem hi)
    have hord : remnant_inOrder.f 6000 l = some (places l.length) := ord_at l (by omega) l.length 0 (by omega) 6000 (by omega)
    have hsame : galloonref09_Same.f 6000 (l.length : Int) = some (places l.length) := same_at l.length (by omega) l.length 0 (by omega) 6000 (by omega)
    have hF := first_eq ⟨h1, h2⟩ hp' (places_in (n := l.length)) (by rw [places_length]; exact h12) h12 6000 (by omega)
    have hT := tight_eq ⟨h1, h2⟩ hp' h12 6000 (by omega)
    have hR := fall_eq hp h1 h2 h12 hp' 6000 (by omega)
    have hN : fitNever.f a0 l (places l.length) = some (fitF a0 l (fun _ _ => false) (places l.length)) := by
      unfold fitNever.f
      rw [if_pos ⟨by omega, h2, h12, by rw [places_length]; exact h12, hall, places_in⟩]
    have hM : fitMore.f a0 l (places l.length) = some (fitF a0 l gtB (places l.length)) := by
      unfold fitMore.f
      rw [if_pos ⟨by omega, h2, h12, by rw [places_length]; exact h12, hall, places_in⟩]
      rfl
    have l1' : (fitF a0 l (fun _ _ => false) (places l.length)).length = l.length := fitF_length _ _ _ _
    have l2' : (fitF a0 l gtB (places l.length)).length = l.length := fitF_length _ _ _ _
    have l3' : (fallF a0 l).1.length = l.length := by
      unfold fallF
      rw [if_pos hp, renamed_length, fitF_length]
    have i1 := ints_same (fitF a0 l (fun _ _ => false) (places l.length)) (by omega) 6000 (by omega)
    have i2 := ints_same (fitF a0 l gtB (places l.length)) (by omega) 6000 (by omega)
    have i3 := ints_same (fallF a0 l).1 (by omega) 6000 (by omega)
    have hf2 : (fallF a0 l).2 = 0 := by unfold fallF; rw [if_pos hp]
    rw [if_pos hp, if_pos hp, hord]
    simp only [Option.bind_some]
    rw [hN, hM]
    simp only [Option.bind_some]
    rw [hpe]
    simp only [Option.bind_some]
    rw [if_pos hp, hsame]
    simp only [Option.bind_some]
    rw [hF]
    simp only [Option.bind_some]
    rw [i1]
    simp only [Option.bind_some, if_true]
    rw [hT]
    simp only [Option.bind_some]
    rw [i2]
    simp only [Option.bind_some, if_true]
    rw [hR]
    simp only [Option.bind_some]
    rw [i3]
    simp only [Option.bind_some, if_true]
    rw [if_pos hf2, awake_ev 6000 (by omega)]
    rfl
  · have hf : fallF a0 l = ([], 2) := by unfold fallF; rw [if_neg hp]
    rw [if_neg hp, if_neg hp]
    simp only [Option.bind_some]
    rw [hpe]
    simp only [Option.bind_some]
    rw [if_neg hp, hf, if_pos (show (([] : List Int).length : Int) = 0 from rfl)]
    simp only [if_true]
    rw [if_pos (show (([] : List Int).length : Int) = 0 from rfl), if_pos (show (([] : List Int).length : Int) = 0 from rfl), awake_ev 6000 (by omega)]
    rfl

end Go.Proofs.Ytoecbchfdgbliaa.Pure
