import Derived.Test.YtoecbchfdgbliaaMathE
import Derived.Test.YtoecbchfdgbliaaPx4
namespace Go.Proofs.Ytoecbchfdgbliaa.Pure
open Go.RowKit Go.Proofs.Ytoecbchfdgbliaa.P Go.Proofs.YtoecbchfdgbliaaW.PrintWords Go.Proofs.YtoecbchfdgbliaaW.PrintLast Go.Proofs.Ytoecbchfdgbliaa.Math
open Go.Proofs.Ytoecbchfdgbliaa.Hand hiding wrap_in

theorem split_tail (a0 : Int) (l : List Int) (hl : l.length ≤ 13) (k : Nat) (hk : 6000 ≤ k) : galloonlaw09_RemnantSplits.j0 k a0 l (restF a0 l).1 (restF a0 l).2.1 (restF a0 l).2.2 = some true := by
  obtain ⟨k, rfl⟩ : ∃ k', k = k' + 1 := ⟨k - 1, by omega⟩
  rw [galloonlaw09_RemnantSplits.j0, pieces_eq a0 l (by omega) k (by omega)]
  simp only [Option.bind_some]
  by_cases hok : Ok a0 l
  · have hp := (pie_iff a0 l).mpr hok
    have hlen : ((setsF l.length).foldl (restStep a0 l) ([], a0)).1.length ≤ 12 := by
      obtain ⟨x, hx, hb⟩ := rest_go hok
      rw [hx]
      have h1 := (in_sets hb.1.1).2.1
      have h2 := hok.2.2.1
      show x.length ≤ 12
      omega
    rw [hp, restF, if_pos hp]
    simp only [if_true]
    rw [rest_ref hok k (by omega)]
    simp only [Option.bind_some]
    rw [ints_eq _ (by omega) k (by omega)]
    simp only [Option.bind_some, if_true, awake_ev k (by omega)]
  · have hp : Hand.pieF a0 l = false := by
      rw [Bool.eq_false_iff]
      exact fun h => hok ((pie_iff a0 l).mp h)
    rw [restF, hp, if_neg (by decide)]
    simp only [awake_ev k (by omega)]
    rfl

theorem RemnantSplits : galloonlaw09_RemnantSplits.Pure := by
  intro a0 l1 _ _ _ _
  refine ⟨7000, ?_⟩
  unfold galloonlaw09_RemnantSplits.f galloonlaw09_list.f remnant_Split.f remnant_Rest.f
  simp only [Option.bind_some]
  generalize hl : l1.take 13 = l
  have hl13 : l.length ≤ 13 := by rw [← hl, List.length_take]; omega
  have hpc := pieces_eq 100 l (by omega) 7000 (by omega)
  have htail := split_tail a0 l hl13 7000 (by omega)
  rw [hpc]
  simp only [Option.bind_some]
  by_cases hok : Ok 100 l
  · have hp := (pie_iff 100 l).mpr hok
    have hs := small_of hok
    have hlen : ((setsF l.length).foldl (splitStep l (sumF l (places l.length))) ([], -1)).1.length ≤ 12 := by
      obtain ⟨x, hx, hb⟩ := split_go hs
      rw [hx]
      have h1 := (in_sets hb.1.1).2.1
      have h2 := hs.1
      show x.length ≤ 12
      omega
    rw [hp, splitF, if_pos hp]
    simp only [if_true]
    rw [split_ref hs 7000 (by omega)]
    simp only [Option.bind_some]
    rw [ints_eq _ (by omega) 7000 (by omega)]
    simp only [Option.bind_some, if_true, htail]
  · have hp : Hand.pieF 100 l = false := by
      rw [Bool.eq_false_iff]
      exact fun h => hok ((pie_iff 100 l).mp h)
    rw [splitF, hp, if_neg (by decide)]
    simp only [htail]
    rfl

end Go.Proofs.Ytoecbchfdgbliaa.Pure
