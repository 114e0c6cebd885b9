-- Plain lemmas: what the walks compute, in closed form (pieces, weights, awake).
import Derived.Test.YtoecbchfdgbliaaPx3
namespace Go.Proofs.Ytoecbchfdgbliaa.Math
open Go.RowKit Go.Proofs.Ytoecbchfdgbliaa.P Go.Proofs.YtoecbchfdgbliaaW.PrintWords Go.Proofs.YtoecbchfdgbliaaW.PrintLast

theorem wrap_in {n : Int} (h0 : -9223372036854775808 ≤ n) (h1 : n ≤ 9223372036854775807) : wrap64 n = n := by
  unfold wrap64
  omega
theorem next {j : Nat} (h : j ≤ 1000000) : wrap64 ((j : Int) + 1) = ((j + 1 : Nat) : Int) := by
  rw [wrap_in (by omega) (by omega)]; push_cast; rfl
theorem rd_mem {l : List Int} {j : Nat} (h : j < l.length) : rd l (j : Int) ∈ l := by
  simp only [rd, Int.toNat_natCast, List.getD_eq_getElem?_getD, List.getElem?_eq_getElem h, Option.getD_some]
  exact List.getElem_mem h

/-- Once a round is enough, more are. -/
theorem up {α : Type} {g : Nat → Option α} (h : ∀ k, LeO (g k) (g (k + 1))) {k : Nat} {r : α} (hr : g k = some r) {k' : Nat} (hk : k ≤ k') : g k' = some r := at_rounds h hk hr

theorem within_eq (x lo hi : Int) : remnant_within.f x lo hi = some (Hand.within x lo hi) := by
  unfold remnant_within.f Hand.within
  split <;> rfl
theorem within_is (x lo hi : Int) : Hand.within x lo hi = true ↔ lo ≤ x ∧ x ≤ hi := by
  unfold Hand.within
  split
  · simp only [decide_eq_true_eq]; omega
  · constructor
    · intro h; cases h
    · intro h; omega

/-- What pieces are. -/
def Ok (room : Int) (l : List Int) : Prop := 1 ≤ room ∧ room ≤ 100 ∧ l.length ≤ 12 ∧ ∀ x ∈ l, 1 ≤ x ∧ x ≤ room
theorem pie_iff (room : Int) (l : List Int) : Hand.pieF room l = true ↔ Ok room l := by
  unfold Hand.pieF Ok
  simp only [Bool.and_eq_true, within_is, decide_eq_true_eq, List.all_eq_true]
  constructor
  · rintro ⟨⟨h1, h2⟩, h3, h4⟩; exact ⟨h1, h2, by omega, h4⟩
  · rintro ⟨h1, h2, h3, h4⟩; exact ⟨⟨h1, h2⟩, by omega, h4⟩

theorem pieces_at (room : Int) (l : List Int) (hl : l.length ≤ 100000) : ∀ (m j : Nat), j + m = l.length → ∀ k, m < k →
    galloonref09_Pieces.l0 k room l (j : Int) = some (((l.drop j).all fun x => decide (1 ≤ x ∧ x ≤ room)) && decide (1 ≤ room ∧ room ≤ 100 ∧ l.length ≤ 12)) := by
  intro m
  induction m with
  | zero =>
    intro j h k hk
    obtain ⟨k, rfl⟩ : ∃ k', k = k' + 1 := ⟨k - 1, by omega⟩
    rw [galloonref09_Pieces.l0, if_neg (by omega), List.drop_of_length_le (by omega)]
    simp only [List.all_nil, Bool.true_and]
    by_cases h1 : room ≥ 1
    · rw [if_pos h1]
      by_cases h2 : room ≤ 100
      · rw [if_pos h2]
        congr 1
        apply decide_eq_decide.mpr
        omega
      · rw [if_neg h2]; congr 1; symm; apply decide_eq_false; omega
    · rw [if_neg h1]; congr 1; symm; apply decide_eq_false; omega
  | succ m ih =>
    intro j h k hk
    obtain ⟨k, rfl⟩ : ∃ k', k = k' + 1 := ⟨k - 1, by omega⟩
    have hj : j < l.length := by omega
    have hd : l.drop j = rd l (j : Int) :: l.drop (j + 1) := by rw [List.drop_eq_getElem_cons hj]; simp [rd, hj]
    rw [galloonref09_Pieces.l0, if_pos (by omega), if_pos (by omega), hd, List.all_cons]
    by_cases h1 : rd l (j : Int) < 1
    · rw [if_pos h1, decide_eq_false (by omega)]; rfl
    · rw [if_neg h1]
      by_cases h2 : rd l (j : Int) > room
      · rw [if_pos h2, decide_eq_false (by omega)]; rfl
      · rw [if_neg h2, next (by omega), ih (j + 1) (by omega) k (by omega), decide_eq_true (p := 1 ≤ rd l (j : Int) ∧ rd l (j : Int) ≤ room) (by omega), Bool.true_and]
theorem pieces_eq (room : Int) (l : List Int) (hl : l.length ≤ 100000) (k : Nat) (hk : l.length < k) : galloonref09_Pieces.f k room l = some (Hand.pieF room l) := by
  have h := pieces_at room l hl l.length 0 (by omega) k hk
  rw [show galloonref09_Pieces.f k room l = galloonref09_Pieces.l0 k room l ((0 : Nat) : Int) from rfl, h, List.drop_zero]
  congr 1
  rw [Bool.eq_iff_iff, pie_iff, Bool.and_eq_true, List.all_eq_true, decide_eq_true_eq]
  simp only [decide_eq_true_eq]
  unfold Ok
  constructor
  · rintro ⟨h1, h2, h3, h4⟩; exact ⟨h2, h3, h4, h1⟩
  · rintro ⟨h2, h3, h4, h1⟩; exact ⟨h1, h2, h3, h4⟩

/-! ### Weights -/
theorem weigh_eq (room a : Int) (l : List Int) (hp : ∀ x ∈ l, 1 ≤ x) (hl : l.length ≤ 100000) : ∀ (k j : Nat) (x7 x8 x9 x10 : Int), j ≤ l.length →
    remnant_weigh.l0 k room a x7 x8 x9 x10 l (l.length : Int) (j : Int) = galloonref09_Weigh.l0 k room l a x7 x8 x9 x10 (j : Int) := by
  intro k
  induction k with
  | zero => intro j x7 x8 x9 x10 _; rfl
  | succ k ih =>
    intro j x7 x8 x9 x10 hj
    rw [remnant_weigh.l0, galloonref09_Weigh.l0]
    by_cases h : (j : Int) < (l.length : Int)
    · have h0 : (0 : Int) ≤ (j : Int) := by omega
      have hm := hp _ (rd_mem (l := l) (j := j) (by omega))
      have hx : rd l (j : Int) ≥ mx a 1 ↔ rd l (j : Int) ≥ a := by unfold mx; split <;> omega
      have hw : wrap64 (x9 + wrap64 (room - rd l (j : Int))) = wrap64 (wrap64 (x9 + room) - rd l (j : Int)) := by unfold wrap64; omega
      simp only [if_pos h, if_pos h0, hx, hw, next (show j ≤ 1000000 by omega), ih (j + 1) _ _ _ _ (by omega)]
    · simp only [if_neg h]
theorem refW_some (room a : Int) (l : List Int) (hr : room ≠ 0) (hl : l.length ≤ 100000) : ∀ (m j : Nat) (x7 x8 x9 x10 : Int), j + m = l.length → ∃ v, ∀ k, m < k → galloonref09_Weigh.l0 k room l a x7 x8 x9 x10 (j : Int) = some v := by
  intro m
  induction m with
  | zero =>
    intro j x7 x8 x9 x10 h
    refine ⟨wrap64 ((wrap64 (x7 + x8)) + (wrap64 (Int.tdiv (wrap64 ((wrap64 ((mx 0 (wrap64 (x10 - x9))) + room)) - 1)) room))), fun k hk => ?_⟩
    obtain ⟨k, rfl⟩ : ∃ k', k = k' + 1 := ⟨k - 1, by omega⟩
    rw [galloonref09_Weigh.l0, if_neg (by omega), if_neg hr]
  | succ m ih =>
    intro j x7 x8 x9 x10 h
    have step : ∀ (y7 y8 y9 y10 : Int), (∀ k, galloonref09_Weigh.l0 (k + 1) room l a x7 x8 x9 x10 (j : Int) = galloonref09_Weigh.l0 k room l a y7 y8 y9 y10 ((j + 1 : Nat) : Int)) → ∃ v, ∀ k, m + 1 < k → galloonref09_Weigh.l0 k room l a x7 x8 x9 x10 (j : Int) = some v := by
      intro y7 y8 y9 y10 hs
      obtain ⟨v, hv⟩ := ih (j + 1) y7 y8 y9 y10 (by omega)
      refine ⟨v, fun k hk => ?_⟩
      obtain ⟨k, rfl⟩ : ∃ k', k = k' + 1 := ⟨k - 1, by omega⟩
      rw [hs, hv k (by omega)]
    by_cases h1 : rd l (j : Int) > wrap64 (room - a)
    · exact step _ _ _ _ (fun k => by rw [galloonref09_Weigh.l0, if_pos (by omega), if_pos (by omega), if_pos h1, next (by omega)])
    · by_cases h2 : wrap64 (2 * rd l (j : Int)) > room
      · exact step _ _ _ _ (fun k => by rw [galloonref09_Weigh.l0, if_pos (by omega), if_pos (by omega), if_neg h1, if_pos h2, next (by omega)])
      · by_cases h3 : rd l (j : Int) ≥ a
        · exact step _ _ _ _ (fun k => by rw [galloonref09_Weigh.l0, if_pos (by omega), if_pos (by omega), if_neg h1, if_neg h2, if_pos h3, next (by omega)])
        · exact step _ _ _ _ (fun k => by rw [galloonref09_Weigh.l0, if_pos (by omega), if_pos (by omega), if_neg h1, if_neg h2, if_neg h3, next (by omega)])
/-- Both weighings tell the same. -/
theorem weigh_both (room a : Int) (l : List Int) (hr : room ≠ 0) (hp : ∀ x ∈ l, 1 ≤ x) (hl : l.length ≤ 100000) : ∃ v, ∀ k, l.length < k → galloonref09_Weigh.f k room l a = some v ∧ remnant_weigh.f k room l a = some v := by
  obtain ⟨v, hv⟩ := refW_some room a l hr hl l.length 0 0 0 0 0 (by omega)
  refine ⟨v, fun k hk => ⟨hv k hk, ?_⟩⟩
  rw [show remnant_weigh.f k room l a = remnant_weigh.l0 k room a 0 0 0 0 l (l.length : Int) ((0 : Nat) : Int) from rfl, weigh_eq room a l hp hl k 0 0 0 0 0 (by omega)]
  exact hv k hk
theorem weight_at (room : Int) (l : List Int) (h1 : 1 ≤ room) (h100 : room ≤ 100) (hp : ∀ x ∈ l, 1 ≤ x) (hl : l.length ≤ 100000) : ∀ (m j : Nat) (x6 x7 : Int), (j : Int) + m = room / 2 + 1 →
    ∃ v : Int × Int, ∀ k, l.length + 1 + m < k → galloonref09_Weight.l0 k room l x6 x7 (j : Int) = some v ∧ remnant_Weight.l0 k room l x6 x7 (room / 2 + 1) (j : Int) = some (v.1, v.2, 0) := by
  intro m
  induction m with
  | zero =>
    intro j x6 x7 h
    refine ⟨(x6, x7), fun k hk => ?_⟩
    obtain ⟨k, rfl⟩ : ∃ k', k = k' + 1 := ⟨k - 1, by omega⟩
    rw [galloonref09_Weight.l0, remnant_Weight.l0, wrap_in (by omega) (by omega), if_neg (by omega), if_neg (by omega)]
    exact ⟨rfl, rfl⟩
  | succ m ih =>
    intro j x6 x7 h
    obtain ⟨w, hw⟩ := weigh_both room (j : Int) l (by omega) hp hl
    obtain ⟨v, hv⟩ := ih (j + 1) (if w > x6 then w else x6) (if w > x6 then (j : Int) else x7) (by push_cast; omega)
    refine ⟨v, fun k hk => ?_⟩
    obtain ⟨k, rfl⟩ : ∃ k', k = k' + 1 := ⟨k - 1, by omega⟩
    have hk' := hv k (by omega)
    have hw' := hw k (by omega)
    rw [galloonref09_Weight.l0, remnant_Weight.l0, wrap_in (n := 2 * (j : Int)) (by omega) (by omega), if_pos (by omega), if_pos (by omega), hw'.1, hw'.2, next (by omega)]
    simp only [Option.bind_some]
    by_cases hc : w > x6
    · simp only [if_pos hc] at hk' ⊢; exact hk'
    · simp only [if_neg hc] at hk' ⊢; exact hk'
theorem half (room : Int) (h1 : 1 ≤ room) (h100 : room ≤ 100) : wrap64 (Int.tdiv room 2) = room / 2 := by
  rw [Int.tdiv_eq_ediv_of_nonneg (by omega), wrap_in (by omega) (by omega)]
/-- Both greatest weights are the same. -/
theorem weight_both (room : Int) (l : List Int) (h : Ok room l) : ∃ v : Int × Int, ∀ k, 100 < k → galloonref09_Weight.f k room l = some v ∧ remnant_Weight.f k room l = some (v.1, v.2, 0) := by
  have hok := (pie_iff room l).mpr h
  obtain ⟨h1, h100, h12, hp⟩ := h
  obtain ⟨m, hm⟩ := Int.eq_ofNat_of_zero_le (show 0 ≤ room / 2 + 1 by omega)
  obtain ⟨v, hv⟩ := weight_at room l h1 h100 (fun x hx => (hp x hx).1) (by omega) m 0 (-1) 0 (by omega)
  refine ⟨v, fun k hk => ?_⟩
  have hk' := hv k (by omega)
  refine ⟨hk'.1, ?_⟩
  unfold remnant_Weight.f remnant_arePieces.f
  rw [hok]
  simp only [Option.bind_some, if_true]
  rw [half room h1 h100, wrap_in (by omega) (by omega)]
  exact hk'.2

theorem awake_ev : ∀ k, 60 ≤ k → galloonlaw09_awake.f k = some true := by
  intro k hk
  exact up (fun k => galloonlaw09_awake.mono k) (k := 60) (by decide +kernel) hk

end Go.Proofs.Ytoecbchfdgbliaa.Math
