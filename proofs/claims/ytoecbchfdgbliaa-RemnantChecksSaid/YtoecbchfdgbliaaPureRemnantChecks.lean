import Derived.Test.YtoecbchfdgbliaaMathG
namespace Go.Proofs.Ytoecbchfdgbliaa.Pure
open Go.RowKit Go.Proofs.Ytoecbchfdgbliaa.P Go.Proofs.YtoecbchfdgbliaaW.PrintWords Go.Proofs.YtoecbchfdgbliaaW.PrintLast Go.Proofs.YtoecbchfdgbliaaW.PrintMore Go.Proofs.Ytoecbchfdgbliaa.Math
open Go.Proofs.Ytoecbchfdgbliaa.Hand hiding wrap_in

theorem checks_bad (a0 : Int) (l p : List Int) (k : Nat) (hk : 100 < k) : galloonlaw09_RemnantChecks.j0 k a0 l p 0 2 [] 2 true = some true := by
  obtain ⟨k, rfl⟩ : ∃ k', k = k' + 1 := ⟨k - 1, by omega⟩
  rw [galloonlaw09_RemnantChecks.j0, if_pos rfl, if_pos rfl, if_pos rfl, if_pos (show (([] : List Int).length : Int) = 0 from rfl), if_pos rfl, awake_ev k (by omega)]
  rfl

theorem RemnantChecks : galloonlaw09_RemnantChecks.Pure := by
  intro a0 l1 l2 _ _ _ _ _ _ _
  refine ⟨400, ?_⟩
  unfold galloonlaw09_RemnantChecks.f galloonlaw09_list.f remnant_Check.f remnant_Loads.f
  simp only [Option.bind_some]
  generalize hl : l1.take 13 = l
  generalize hpk : l2.take 13 = p
  have hl13 : l.length ≤ 13 := by rw [← hl, List.length_take]; omega
  have hp13 : p.length ≤ 13 := by rw [← hpk, List.length_take]; omega
  rw [pieces_eq a0 l (by omega) 400 (by omega)]
  simp only [Option.bind_some]
  by_cases hp : pieF a0 l = true
  · have hok := (pie_iff a0 l).mp hp
    have h12 := hok.2.2.1
    have hr1 := hok.1
    rw [hp, if_pos rfl]
    unfold galloonref09_Packing.f
    rw [num_eq 0 (by decide) p (by omega) 400 (by omega)]
    simp only [Option.bind_some]
    by_cases hbox : (boxF 0 0 p).2 = true
    · rw [if_pos hbox, Option.bind_some]
      by_cases hlen : p.length = l.length
      · generalize hbx : boxF 0 0 p = bx at hbox
        obtain ⟨n, ok⟩ := bx
        obtain rfl : ok = true := hbox
        obtain ⟨n, rfl⟩ := Int.eq_ofNat_of_zero_le (boxF_true p 0 n hbx).1
        obtain ⟨hL, hD, hn⟩ := loads_ref l p hlen (by omega) 0 (by decide) (boxF_lower p 0 n hbx) 399 (by omega)
        have hx12 := loadF_length l p
        have htl : ((loadF l p).take n).length = n := by rw [List.length_take]; omega
        have hmax : maxF (loadF l p) > a0 ↔ ((loadF l p).take n).all (fun v => decide (v ≤ a0)) = false := by
          rw [max_gt a0 _ (by omega), ← Bool.not_eq_true, List.all_eq_true]
          constructor
          · rintro ⟨v, hv, hgt⟩ hall
            rw [← List.take_append_drop n (loadF l p)] at hv
            rcases List.mem_append.1 hv with hv | hv
            · have := of_decide_eq_true (hall v hv); omega
            · rw [hD] at hv
              have := List.eq_of_mem_replicate hv
              omega
          · intro hnot
            apply Classical.byContradiction
            intro hno
            apply hnot
            intro v hv
            apply decide_eq_true
            apply Classical.byContradiction
            intro hgt
            exact hno ⟨v, List.mem_of_mem_take hv, by omega⟩
        have e1 : checkF a0 l p = if maxF (loadF l p) > a0 then (0, 10) else ((n : Int), 0) := by
          unfold checkF
          rw [if_pos ⟨hp, hlen⟩, hbx, if_pos rfl]
        have e2 : loadsF a0 l p = ((loadF l p).take n, 0) := by
          unfold loadsF
          rw [if_pos ⟨hp, hlen⟩, hbx, if_pos rfl, Int.toNat_natCast]
        have eb : ((p.length : Int) == (l.length : Int)) = true := beq_iff_eq.mpr (by omega)
        have ei := ints_same ((loadF l p).take n) (by omega) 399 (by omega)
        have er := right_eq a0 ((loadF l p).take n) (by omega) 398 (by omega)
        have ea := awake_ev 398 (by omega)
        by_cases hR : ((loadF l p).take n).all (fun v => decide (v ≤ a0)) = true
        · have hm : ¬ maxF (loadF l p) > a0 := fun h => by rw [hmax, hR] at h; cases h
          rw [if_neg hm] at e1
          rw [eb, Bool.not_true, e1, e2, galloonlaw09_RemnantChecks.j0, if_neg (by decide), hL, Option.bind_some, ei, Option.bind_some, if_pos rfl, galloonlaw09_RemnantChecks.j1, bne_self_eq_false, if_neg (by decide), er, Option.bind_some, if_pos hR, if_pos (by rw [htl]), if_pos rfl, ea]
          rfl
        · have hm : maxF (loadF l p) > a0 := hmax.mpr (by simpa using hR)
          rw [if_pos hm] at e1
          rw [eb, Bool.not_true, e1, e2, galloonlaw09_RemnantChecks.j0, if_neg (by decide), hL, Option.bind_some, ei, Option.bind_some, if_pos rfl, galloonlaw09_RemnantChecks.j1, bne_self_eq_false, if_neg (by decide), er, Option.bind_some, if_neg hR, if_pos rfl, if_pos rfl, ea]
          rfl
      · have e1 : checkF a0 l p = (0, 2) := if_neg (fun h => hlen h.2)
        have e2 : loadsF a0 l p = ([], 2) := if_neg (fun h => hlen h.2)
        have eb : ((p.length : Int) == (l.length : Int)) = false := beq_eq_false_iff_ne.mpr (by omega)
        rw [eb, e1, e2]
        exact checks_bad a0 l p 400 (by omega)
    · have e1 : checkF a0 l p = (0, 2) := by
        unfold checkF
        rw [if_neg hbox]
        split <;> rfl
      have e2 : loadsF a0 l p = ([], 2) := by
        unfold loadsF
        rw [if_neg hbox]
        split <;> rfl
      rw [if_neg hbox, Option.bind_some, e1, e2]
      exact checks_bad a0 l p 400 (by omega)
  · have e1 : checkF a0 l p = (0, 2) := if_neg (fun h => hp h.1)
    have e2 : loadsF a0 l p = ([], 2) := if_neg (fun h => hp h.1)
    rw [if_neg hp, e1, e2]
    exact checks_bad a0 l p 400 (by omega)

end Go.Proofs.Ytoecbchfdgbliaa.Pure
