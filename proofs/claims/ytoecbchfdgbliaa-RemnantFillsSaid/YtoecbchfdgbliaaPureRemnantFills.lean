import Derived.Test.YtoecbchfdgbliaaMathL
namespace Go.Proofs.Ytoecbchfdgbliaa.Pure
open Go.RowKit Go.Proofs.Ytoecbchfdgbliaa.F Go.Proofs.YtoecbchfdgbliaaW.PrintWords Go.Proofs.YtoecbchfdgbliaaW.PrintLast Go.Proofs.YtoecbchfdgbliaaW.PrintMore Go.Proofs.Ytoecbchfdgbliaa.Math
open Go.Proofs.Ytoecbchfdgbliaa.Hand hiding wrap_in look

theorem fills_bad (a0 : Int) (l p : List Int) (k : Nat) (hk : 1001 < k) (hp : p.length ≤ 100) (h : (if (boxF (-1) 0 p).2 = true then ((p.length : Int) == (l.length : Int)) else false) = false) : galloonlaw09_RemnantFills.j1 k a0 l p 0 2 false = some true := by
  obtain ⟨k, rfl⟩ : ∃ k', k = k' + 1 := ⟨k - 1, by omega⟩
  rw [galloonlaw09_RemnantFills.j1, if_neg (by decide), listed_eq l p hp k (by omega), h, Option.bind_some, if_neg (by decide), if_pos rfl, if_pos rfl, awake_ev k (by omega)]
  rfl

/-- The second half: a list of boxes that is given. -/
theorem fills_given (a0 : Int) (l p : List Int) (hok : Hand.pieF a0 l = true) (h12 : l.length ≤ 12) (hp : p.length ≤ 13) (k : Nat) (hk : 1010 < k) : galloonlaw09_RemnantFills.j1 k a0 l p (fillF a0 l p).1 (fillF a0 l p).2 false = some true := by
  by_cases hbox : (boxF (-1) 0 p).2 = true
  · by_cases hlen : p.length = l.length
    · generalize hbx : boxF (-1) 0 p = bx at hbox
      obtain ⟨n, ok⟩ := bx
      obtain rfl : ok = true := hbox
      obtain ⟨n, rfl⟩ := Int.eq_ofNat_of_zero_le (boxF_true p 0 n hbx).1
      obtain ⟨k, rfl⟩ : ∃ k', k = k' + 1 := ⟨k - 1, by omega⟩
      obtain ⟨hL, hD, hn⟩ := loads_ref l p hlen (by omega) (-1) (by decide) hbx k (by omega)
      have hx12 := loadF_length l p
      have htl : ((loadF l p).take n).length = n := by rw [List.length_take]; omega
      have hlist : galloonref09_Listed.f k l p = some true := by
        rw [listed_eq l p (by omega) k (by omega), hbx, if_pos rfl]
        congr 1
        exact beq_iff_eq.mpr (by omega)
      have e1 : fillF a0 l p = if ((loadF l p).take n).all (fun x => decide (a0 ≤ x)) = true then ((n : Int), 0) else (0, 10) := by
        unfold fillF
        rw [if_pos ⟨hok, hlen⟩, hbx, if_pos rfl, Int.toNat_natCast]
      have ef := filled_eq a0 ((loadF l p).take n) (by omega) k (by omega)
      have ea := awake_ev k (by omega)
      by_cases hR : ((loadF l p).take n).all (fun x => decide (a0 ≤ x)) = true
      · rw [if_pos hR] at e1
        rw [e1, galloonlaw09_RemnantFills.j1, if_neg (by decide), hlist, Option.bind_some, if_pos rfl, hL, Option.bind_some, ef, Option.bind_some, if_pos hR, if_pos (by rw [htl]), if_pos rfl, ea]
        rfl
      · rw [if_neg hR] at e1
        rw [e1, galloonlaw09_RemnantFills.j1, if_neg (by decide), hlist, Option.bind_some, if_pos rfl, hL, Option.bind_some, ef, Option.bind_some, if_neg hR, if_pos rfl, if_pos rfl, ea]
        rfl
    · have e1 : fillF a0 l p = (0, 2) := if_neg (fun h => hlen h.2)
      rw [e1]
      refine fills_bad a0 l p k (by omega) (by omega) ?_
      rw [if_pos hbox]
      exact beq_eq_false_iff_ne.mpr (by omega)
  · have e1 : fillF a0 l p = (0, 2) := by
      unfold fillF
      rw [if_neg hbox]
      split <;> rfl
    rw [e1]
    exact fills_bad a0 l p k (by omega) (by omega) (if_neg hbox)

theorem RemnantFills : galloonlaw09_RemnantFills.Pure := by
  intro a0 l1 l2 _ _ _ _ _ _ _
  refine ⟨200000, ?_⟩
  unfold galloonlaw09_RemnantFills.f galloonlaw09_list.f remnant_IsFilling.f
  simp only [Option.bind_some]
  generalize hl : l1.take 13 = l
  generalize hpk : l2.take 13 = p
  have hl13 : l.length ≤ 13 := by rw [← hl, List.length_take]; omega
  have hp13 : p.length ≤ 13 := by rw [← hpk, List.length_take]; omega
  have hpe := pieces_eq a0 l (by omega) 200000 (by omega)
  by_cases hp : pieF a0 l = true
  · obtain ⟨hr1, hr2, h12, hall⟩ := (pie_iff a0 l).mp hp
    have hl' : ∀ i : Nat, i < l.length → 1 ≤ rd l (i : Int) ∧ rd l (i : Int) ≤ 100 := fun i hi => by
      have := hall _ (Math.rd_mem hi); omega
    have hl1 : ∀ i : Nat, i < l.length → 1 ≤ rd l (i : Int) := fun i hi => (hl' i hi).1
    have hpos : 0 < 2 ^ l.length := Nat.pow_pos (by decide)
    obtain ⟨o, ho, hob, hfull, hfill⟩ := fill_go hp hl' hr1 hr2 h12
    obtain ⟨K, hn, hm, hcov, hsub, hu, hbox⟩ := used_map o
    have hnn := (B_last a0 l hl1 hr1 (2 ^ l.length - 1 + 1) (2 ^ l.length - 1) (by omega) (by omega)).1.1
    have href := fill_ref hl' hr1 hr2 h12 200000 (by omega)
    have hf := hfill 200000 (by omega)
    generalize (B a0 l (2 ^ l.length - 1)).1 = cnt at hob hfull hf hnn href
    obtain ⟨hK, hKl⟩ := names_count (ps := l) hr1 ho hnn hn hm hcov hsub hob hfull
    have hul : (usedF o).length = l.length := by rw [hu, List.length_map, ho]
    have hbu : boxF (-1) 0 (usedF o) = ((K.length : Int), true) := by rw [hu]; exact hbox
    obtain ⟨hL, _, hK12⟩ := loads_ref l (usedF o) hul (by omega) (-1) (by decide) hbu 199999 (by omega)
    have hx12 := loadF_length l (usedF o)
    have htl : ((loadF l (usedF o)).take K.length).length = K.length := by rw [List.length_take]; omega
    have hps : ∀ i : Nat, 0 ≤ rd l (i : Int) ∧ rd l (i : Int) ≤ 100 := fun i => by
      by_cases hi : i < l.length
      · have := hl' i hi; omega
      · have e : rd l (i : Int) = 0 := by unfold rd; rw [Int.toNat_natCast, List.getD_eq_getElem?_getD, List.getElem?_eq_none (by omega)]; rfl
        omega
    have hall2 : ((loadF l (usedF o)).take K.length).all (fun v => decide (a0 ≤ v)) = true := by
      rw [List.all_eq_true]
      intro x hx
      apply decide_eq_true
      obtain ⟨v, hv, rfl⟩ := List.getElem_of_mem hx
      have hvK : v < K.length := by omega
      have e := load_at l (usedF o) hps (by omega) (v := v) (by omega)
      rw [hul] at e
      have e2 := inBox_code l o K hn hm hcov hvK (List.range l.length) (fun i hi => by rw [ho]; exact List.mem_range.1 hi)
      rw [← hu] at e2
      rw [e2] at e
      have hk := hK _ (List.getElem_mem hvK)
      have := hfull _ hk.1 hk.2
      rw [← e] at this
      have hv12 : v < (loadF l (usedF o)).length := by omega
      rw [List.getElem_take, ← show (loadF l (usedF o)).getD v 0 = (loadF l (usedF o))[v] by simp [List.getD_eq_getElem?_getD, hv12]]
      exact this
    have hlist : galloonref09_Listed.f 200000 l (usedF o) = some true := by
      rw [listed_eq l (usedF o) (by omega) 200000 (by omega), hbu, if_pos rfl]
      congr 1
      exact beq_iff_eq.mpr (by omega)
    have ef := filled_eq a0 ((loadF l (usedF o)).take K.length) (by omega) 199999 (by omega)
    have hg := fills_given a0 l p hp h12 hp13 199999 (by omega)
    rw [hf, Option.bind_some, hpe, Option.bind_some, if_pos hp, if_pos rfl, hlist, Option.bind_some, if_pos rfl, href, Option.bind_some]
    rw [bne_self_eq_false, show (200000 : Nat) = 199999 + 1 from rfl, galloonlaw09_RemnantFills.j0, if_neg (by decide), hL, Option.bind_some, if_pos (by rw [htl]; exact hKl), ef, Option.bind_some, hall2]
    exact hg
  · have hf : remnant_Fill.f 200000 a0 l = some ([], 0, 2) := by
      unfold remnant_Fill.f remnant_arePieces.f
      rw [Option.bind_some, if_neg hp]
    have e1 : fillF a0 l p = (0, 2) := if_neg (fun h => hp h.1)
    rw [hf, Option.bind_some, hpe, Option.bind_some, if_neg hp, if_pos (show (([] : List Int).length : Int) = 0 from rfl), if_pos rfl, if_pos rfl, e1, if_pos rfl, if_pos rfl, awake_ev 200000 (by omega)]
    rfl

end Go.Proofs.Ytoecbchfdgbliaa.Pure
