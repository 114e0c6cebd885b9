/- RemnantBounds: Weight is at most the number of boxes of Best, and at least the sum of the sizes divided by the room, rounded up, and any weighing; the number of boxes of Best is at least that of Fill. For every room, list and number. -/
import Derived.Test.YtoecbchfdgbliaaMathW
import Derived.Test.YtoecbchfdgbliaaBx3
namespace Go.Proofs.Ytoecbchfdgbliaa.Pure
open Go.RowKit Go.Proofs.Ytoecbchfdgbliaa.B Go.Proofs.YtoecbchfdgbliaaW.PrintWords Go.Proofs.YtoecbchfdgbliaaW.PrintLast Go.Proofs.YtoecbchfdgbliaaW.PrintMore Go.Proofs.Ytoecbchfdgbliaa.Math
set_option linter.unusedVariables false

theorem RemnantBounds : galloonlaw09_RemnantBounds.Pure := by
  intro a0 l1 a2 _ _ _ _ _
  refine ⟨200000, ?_⟩
  obtain ⟨room, l, hOk, ht⟩ := tame_ok a0 l1
  have hok := (pie_iff room l).2 hOk
  obtain ⟨h1, h2, h12, hall⟩ := hOk
  have hp : ∀ i, i < l.length → 1 ≤ pz l i ∧ pz l i ≤ room := fun i hi => hall _ (rd_mem hi)
  have hp0 : ∀ i, i < l.length → 0 ≤ pz l i ∧ pz l i ≤ 100 := fun i hi => by have := hp i hi; omega
  obtain ⟨w, at_, m, q, ⟨hA0, hA1, hA2, hA3⟩, hwm, hml, hq, hlow, hk⟩ := best_ok hok h1 h2 h12 hp
  obtain ⟨r, hr, he⟩ := mod_some a2 (room / 2 + 1) (by omega) (by omega)
  obtain ⟨o, ho, hob, hfull, hfill⟩ := fill_go hok (fun i hi => by have := hp i hi; dsimp only [pz] at this; omega) h1 h2 h12
  have hpos : 0 < 2 ^ l.length := Nat.pow_pos (by decide)
  have hnn := (B_last room l (fun i hi => (hp i hi).1) h1 (2 ^ l.length - 1 + 1) (2 ^ l.length - 1) (by omega) (by omega)).1.1
  have hf := hfill 200000 (by omega)
  generalize (Math.B room l (2 ^ l.length - 1)).1 = cnt at hob hfull hf hnn
  have hsum := fill_sum h1 (fun i hi => (hp0 i hi).1) ho hnn hob hfull
  have hT := tot_bound (pz l) 100 l.length hp0
  have hz := wgt_zero (pz l) l.length hp
  have hw0 := hA3 0 (by omega) (by omega)
  have hwr := hA3 (r : Int) (by omega) (by omega)
  obtain ⟨hW, hB⟩ := hk 200000 (by omega)
  have hcnt : cnt ≤ w := by
    refine Int.le_trans ?_ (Int.le_trans hz hw0)
    refine Int.le_trans ?_ (Int.ediv_le_ediv (by omega) (show cnt * room ≤ tot (pz l) l.length + room - 1 by omega))
    rw [Int.mul_ediv_cancel _ (by omega)]
    exact Int.le_refl _
  have hcr : 0 ≤ cnt * room := Int.mul_nonneg hnn (by omega)
  have e1 : Int.tdiv (tot (pz l) l.length + room - 1) room = (tot (pz l) l.length + room - 1) / room := Int.tdiv_eq_ediv_of_nonneg (by omega)
  have e2 : 0 ≤ (tot (pz l) l.length + room - 1) / room := Int.ediv_nonneg (by omega) (by omega)
  have e3 : (tot (pz l) l.length + room - 1) / room ≤ tot (pz l) l.length + room - 1 := Int.ediv_le_self _ (by omega)
  unfold galloonlaw09_RemnantBounds.f
  rw [ht 200000 (by omega)]
  simp only [Option.bind_some]
  rw [hB]
  simp only [Option.bind_some]
  rw [hW]
  simp only [Option.bind_some]
  rw [half room h1 h2, Math.wrap_in (n := room / 2 + 1) (by omega) (by omega), he]
  simp only [Option.bind_some]
  rw [weighE hok h1 h2 (by omega) (by omega) h12 hp 200000 (by omega)]
  simp only [Option.bind_some]
  rw [weighE hok h1 h2 hA0 hA1 h12 hp 200000 (by omega)]
  simp only [Option.bind_some]
  rw [hf]
  simp only [Option.bind_some, if_true]
  rw [if_pos hwm, sum_val h12 hp0 200000 (by omega)]
  simp only [Option.bind_some]
  rw [if_neg (by omega), Math.wrap_in (n := tot (pz l) l.length + room) (by omega) (by omega), Math.wrap_in (n := tot (pz l) l.length + room - 1) (by omega) (by omega), e1, Math.wrap_in (by omega) (by omega), if_pos (by omega), if_pos (by omega), if_pos (by omega), if_pos (by omega), if_pos (by omega),
    Math.wrap_in (n := cnt * room) (by omega) (by omega), if_pos hsum, awake_ev 200000 (by omega)]
  rfl

end Go.Proofs.Ytoecbchfdgbliaa.Pure
