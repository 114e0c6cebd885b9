import Derived.Test.YtoecbchfdgbliaaMathA
namespace Go.Proofs.Ytoecbchfdgbliaa.Pure
open Go.RowKit Go.Proofs.Ytoecbchfdgbliaa.P Go.Proofs.YtoecbchfdgbliaaW.PrintWords Go.Proofs.YtoecbchfdgbliaaW.PrintLast Go.Proofs.Ytoecbchfdgbliaa.Math

theorem RemnantWeighs : galloonlaw09_RemnantWeighs.Pure := by
  intro a0 l1 a2 _ _ _ _ _
  refine ⟨300, ?_⟩
  unfold galloonlaw09_RemnantWeighs.f galloonlaw09_list.f
  simp only [Option.bind_some]
  generalize hl : l1.take 13 = l
  have hl13 : l.length ≤ 13 := by rw [← hl, List.length_take]; omega
  have hpc := pieces_eq a0 l (by omega) 300 (by omega)
  by_cases hok : Ok a0 l
  · have hp := (pie_iff a0 l).mpr hok
    obtain ⟨v, hv⟩ := weight_both a0 l hok
    obtain ⟨hv1, hv2⟩ := hv 300 (by omega)
    obtain ⟨u, hu⟩ := weigh_both a0 a2 l (by have := hok.1; omega) (fun x hx => (hok.2.2.2 x hx).1) (by omega)
    have hh := half a0 hok.1 hok.2.1
    rw [hpc, hv1, hv2, hp]
    by_cases hin : Hand.within a2 0 (a0 / 2) = true
    · have hi := (within_is _ _ _).mp hin
      have e : remnant_Weigh.f 300 a0 l a2 = some (u, 0) := by
        unfold remnant_Weigh.f remnant_arePieces.f
        simp only [Option.bind_some, hp, if_true, hh, within_eq, hin, (hu 300 (by omega)).2]
      rw [e]
      simp only [Option.bind_some, if_true, bne_self_eq_false]
      rw [galloonlaw09_RemnantWeighs.j0, if_neg (by decide), if_neg (by omega), hh, galloonlaw09_RemnantWeighs.j1, decide_eq_false (by omega), if_neg (by decide), (hu 298 (by omega)).1]
      simp only [Option.bind_some, if_true, awake_ev 298 (by omega)]
    · have hi : ¬ (0 ≤ a2 ∧ a2 ≤ a0 / 2) := fun h => hin ((within_is _ _ _).mpr h)
      have e : remnant_Weigh.f 300 a0 l a2 = some (0, 2) := by
        unfold remnant_Weigh.f remnant_arePieces.f
        simp only [Option.bind_some, hp, if_true, hh, within_eq, hin]
        rfl
      rw [e]
      simp only [Option.bind_some, if_true, bne_self_eq_false]
      rw [galloonlaw09_RemnantWeighs.j0, if_neg (by decide), hh]
      by_cases hneg : a2 < 0
      · rw [if_pos hneg, galloonlaw09_RemnantWeighs.j1]
        simp only [if_true, Option.bind_some, awake_ev 298 (by omega)]
      · rw [if_neg hneg, galloonlaw09_RemnantWeighs.j1, decide_eq_true (by omega)]
        simp only [if_true, Option.bind_some, awake_ev 298 (by omega)]
  · have hp : Hand.pieF a0 l = false := by
      rw [Bool.eq_false_iff]
      exact fun h => hok ((pie_iff a0 l).mp h)
    have e1 : remnant_Weigh.f 300 a0 l a2 = some (0, 2) := by
      unfold remnant_Weigh.f remnant_arePieces.f
      simp only [Option.bind_some, hp]
      rfl
    have e2 : remnant_Weight.f 300 a0 l = some (0, 0, 2) := by
      unfold remnant_Weight.f remnant_arePieces.f
      simp only [Option.bind_some, hp]
      rfl
    rw [hpc, e1, e2, hp]
    simp only [Option.bind_some, if_true, awake_ev 300 (by omega)]
    rfl

end Go.Proofs.Ytoecbchfdgbliaa.Pure
