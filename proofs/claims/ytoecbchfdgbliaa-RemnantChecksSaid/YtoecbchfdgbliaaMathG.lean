-- Plain lemmas: numbers of boxes and loads, of the program and of the reference.
import Derived.Test.YtoecbchfdgbliaaMathA
import Derived.Test.YtoecbchfdgbliaaHandO
import Derived.Test.YtoecbchfdgbliaaPx4
namespace Go.Proofs.Ytoecbchfdgbliaa.Math
open Go.RowKit Go.Proofs.Ytoecbchfdgbliaa.P Go.Proofs.YtoecbchfdgbliaaW.PrintWords Go.Proofs.YtoecbchfdgbliaaW.PrintLast Go.Proofs.YtoecbchfdgbliaaW.PrintMore
open Go.Proofs.Ytoecbchfdgbliaa.Hand hiding wrap_in
set_option linter.unusedVariables false

theorem num_at (least : Int) (hle : -1 ≤ least) (l : List Int) (hl : l.length ≤ 1000) : ∀ (m j : Nat) (n : Int), j + m = l.length → 0 ≤ n → n ≤ j → ∀ k, 2 * m < k → galloonref09_numbered.l0 k l least n (j : Int) = some (boxF least n (l.drop j)) := by
  intro m
  induction m with
  | zero =>
    intro j n h h0 h1 k hk
    obtain ⟨k, rfl⟩ : ∃ k', k = k' + 1 := ⟨k - 1, by omega⟩
    rw [galloonref09_numbered.l0, if_neg (by omega), List.drop_of_length_le (by omega)]
    rfl
  | succ m ih =>
    intro j n h h0 h1 k hk
    obtain ⟨k, rfl⟩ : ∃ k', k = k' + 1 + 1 := ⟨k - 2, by omega⟩
    have hj : j < l.length := by omega
    have hd : l.drop j = rd l (j : Int) :: l.drop (j + 1) := rd_dropR l j hj
    rw [galloonref09_numbered.l0, if_pos (by omega), if_pos (by omega), hd, boxF]
    by_cases hlt : rd l (j : Int) < least
    · rw [if_pos hlt, galloonref09_numbered.j1, if_pos rfl, if_neg (by omega)]
    · rw [if_neg hlt, galloonref09_numbered.j1]
      by_cases hgt : rd l (j : Int) > n
      · rw [decide_eq_true hgt, if_pos rfl, if_neg (by omega)]
      · rw [decide_eq_false hgt, if_neg (by decide), if_pos (by omega), if_pos (by omega), if_pos (show least ≤ rd l (j : Int) ∧ rd l (j : Int) ≤ n by omega), next (by omega)]
        by_cases he : rd l (j : Int) = n
        · have hm : mx n (rd l (j : Int) + 1) = n + 1 := by unfold mx; split <;> omega
          rw [if_pos he, hm, wrap_in (n := n + 1) (by omega) (by omega), ih (j + 1) (n + 1) (by omega) (by omega) (by push_cast; omega) k (by omega)]
        · have hm : mx n (rd l (j : Int) + 1) = n := by unfold mx; split <;> omega
          rw [if_neg he, hm, ih (j + 1) n (by omega) h0 (by push_cast; omega) k (by omega)]
theorem num_eq (least : Int) (hle : -1 ≤ least) (l : List Int) (hl : l.length ≤ 1000) (k : Nat) (hk : 2 * l.length < k) : galloonref09_numbered.f k l least = some (boxF least 0 l) :=
  num_at least hle l hl l.length 0 0 (by omega) (Int.le_refl _) (Int.le_refl _) k hk
theorem boxF_lower : ∀ (l : List Int) (n r : Int), boxF 0 n l = (r, true) → boxF (-1) n l = (r, true)
  | [], n, r, h => by rw [boxF] at h ⊢; exact h
  | b :: t, n, r, h => by
    rw [boxF] at h ⊢
    by_cases hb : 0 ≤ b ∧ b ≤ n
    · rw [if_pos hb] at h
      rw [if_pos (by omega)]
      exact boxF_lower t _ r h
    · rw [if_neg hb] at h; cases h

/-! ### Loads -/
theorem refL_at (ps l : List Int) (hl : l.length ≤ 1000) (hlen : l.length = ps.length) : ∀ (m j : Nat) (x : List Int), j + m = l.length → (∀ b ∈ l, b < (x.length : Int)) → ∀ k, m < k → galloonref09_Loads.l0 k ps l x (j : Int) = some (((List.range l.length).drop j).foldl (loadStep ps l) x) := by
  intro m
  induction m with
  | zero =>
    intro j x h hb k hk
    obtain ⟨k, rfl⟩ : ∃ k', k = k' + 1 := ⟨k - 1, by omega⟩
    rw [galloonref09_Loads.l0, if_neg (by omega), List.drop_of_length_le (by simp; omega)]
    rfl
  | succ m ih =>
    intro j x h hb k hk
    obtain ⟨k, rfl⟩ : ∃ k', k = k' + 1 := ⟨k - 1, by omega⟩
    have hj : j < l.length := by omega
    have hbj := hb _ (rd_memR hj)
    rw [galloonref09_Loads.l0, if_pos (by omega), if_pos (by omega), range_drop _ _ hj, List.foldl_cons]
    by_cases hneg : rd l (j : Int) ≥ 0
    · have e : loadStep ps l x j = x.set (rd l (j : Int)).toNat (wrap64 (rd x (rd l (j : Int)) + rd ps (j : Int))) := if_pos hneg
      rw [if_pos hneg, if_pos hneg, if_pos hbj, if_pos (by omega), next (by omega), ← e]
      exact ih (j + 1) _ (by omega) (fun b hb' => by rw [loadStep_length]; exact hb b hb') k (by omega)
    · have e : loadStep ps l x j = x := if_neg hneg
      rw [if_neg hneg, next (by omega), e]
      exact ih (j + 1) _ (by omega) hb k (by omega)
theorem step_take (ps l : List Int) (n : Nat) (x : List Int) (i : Nat) (hb : rd l (i : Int) < (n : Int)) : (loadStep ps l x i).take n = loadStep ps l (x.take n) i ∧ (loadStep ps l x i).drop n = x.drop n := by
  unfold loadStep
  by_cases h0 : 0 ≤ rd l (i : Int)
  · rw [if_pos h0, if_pos h0]
    have hlt : (rd l (i : Int)).toNat < n := by omega
    refine ⟨?_, List.drop_set_of_lt hlt⟩
    rw [List.take_set]
    congr 2
    rw [List.getD_eq_getElem?_getD, List.getD_eq_getElem?_getD, List.getElem?_take_of_lt hlt]
  · rw [if_neg h0, if_neg h0]
    exact ⟨rfl, rfl⟩
theorem fold_take (ps l : List Int) (n : Nat) : ∀ (r : List Nat) (x : List Int), (∀ i ∈ r, rd l (i : Int) < (n : Int)) → (r.foldl (loadStep ps l) x).take n = r.foldl (loadStep ps l) (x.take n) ∧ (r.foldl (loadStep ps l) x).drop n = x.drop n
  | [], x, _ => ⟨rfl, rfl⟩
  | i :: r, x, h => by
    have h1 := step_take ps l n x i (h i List.mem_cons_self)
    have h2 := fold_take ps l n r (loadStep ps l x i) (fun j hj => h j (List.mem_cons_of_mem _ hj))
    rw [List.foldl_cons, List.foldl_cons]
    exact ⟨by rw [h2.1, h1.1], by rw [h2.2, h1.2]⟩
/-- The loads of n boxes, of both. -/
theorem loads_ref (ps l : List Int) (hlen : l.length = ps.length) (hl : l.length ≤ 12) (least : Int) (hle : -1 ≤ least) {n : Nat} (h : boxF (-1) 0 l = ((n : Int), true)) (k : Nat) (hk : 100 < k) :
    galloonref09_Loads.f k ps l = some ((loadF ps l).take n) ∧ (loadF ps l).drop n = List.replicate (12 - n) 0 ∧ n ≤ 12 := by
  obtain ⟨h1, h2, h3⟩ := boxF_true l 0 n h
  have hn : n ≤ 12 := by omega
  have hr : ∀ i ∈ List.range l.length, rd l (i : Int) < (n : Int) := fun i hi => (h3 _ (rd_memR (by simpa using hi))).2
  have hf := fold_take ps l n (List.range l.length) (List.replicate 12 0) hr
  refine ⟨?_, ?_, hn⟩
  · unfold galloonref09_Loads.f
    rw [num_eq (-1) (by decide) l (by omega) k (by omega), h]
    simp only [Option.bind_some]
    rw [if_pos h1, Int.toNat_natCast, if_pos (by omega), show (0 : Int) = ((0 : Nat) : Int) from rfl, refL_at ps l (by omega) hlen l.length 0 _ (by omega) (fun b hb => by rw [List.length_replicate]; exact (h3 b hb).2) k (by omega)]
    congr 1
    rw [loadF, hf.1, List.take_replicate, Nat.min_eq_left hn]
    rfl
  · rw [loadF, hf.2, List.drop_replicate]

theorem fold_mx (r : Int) : ∀ (t : List Int) (m : Int), t.foldl mx m > r ↔ (m > r ∨ ∃ v ∈ t, v > r)
  | [], m => by simp
  | v :: t, m => by
    rw [List.foldl_cons, fold_mx r t (mx m v)]
    have hm : mx m v > r ↔ (m > r ∨ v > r) := by unfold mx; split <;> omega
    rw [hm]
    constructor
    · rintro ((h | h) | ⟨u, hu, h⟩)
      · exact .inl h
      · exact .inr ⟨v, List.mem_cons_self, h⟩
      · exact .inr ⟨u, List.mem_cons_of_mem _ hu, h⟩
    · rintro (h | ⟨u, hu, h⟩)
      · exact .inl (.inl h)
      · rcases List.mem_cons.1 hu with rfl | hu
        · exact .inl (.inr h)
        · exact .inr ⟨u, hu, h⟩
theorem max_gt (r : Int) (x : List Int) (hx : 0 < x.length) : maxF x > r ↔ ∃ v ∈ x, v > r := by
  rw [maxF, fold_mx]
  cases x with
  | nil => simp at hx
  | cons a t =>
    rw [show rd (a :: t) 0 = a from rfl, List.drop_one, List.tail_cons]
    simp only [List.mem_cons, exists_eq_or_imp]
theorem right_at (room : Int) (x : List Int) (hl : x.length ≤ 1000) : ∀ (m j : Nat), j + m = x.length → ∀ k, m < k → galloonref09_Right.l0 k room x (j : Int) = some ((x.drop j).all fun v => decide (v ≤ room)) := by
  intro m
  induction m with
  | zero =>
    intro j h k hk
    obtain ⟨k, rfl⟩ : ∃ k', k = k' + 1 := ⟨k - 1, by omega⟩
    rw [galloonref09_Right.l0, if_neg (by omega), List.drop_of_length_le (by omega)]
    rfl
  | succ m ih =>
    intro j h k hk
    obtain ⟨k, rfl⟩ : ∃ k', k = k' + 1 := ⟨k - 1, by omega⟩
    have hj : j < x.length := by omega
    rw [galloonref09_Right.l0, if_pos (by omega), if_pos (by omega), rd_dropR x j hj, List.all_cons]
    by_cases h1 : rd x (j : Int) > room
    · rw [if_pos h1, decide_eq_false (by omega), Bool.false_and]
    · rw [if_neg h1, next (by omega), ih (j + 1) (by omega) k (by omega), decide_eq_true (show rd x (j : Int) ≤ room by omega), Bool.true_and]
theorem right_eq (room : Int) (x : List Int) (hl : x.length ≤ 1000) (k : Nat) (hk : x.length < k) : galloonref09_Right.f k room x = some (x.all fun v => decide (v ≤ room)) := by
  have h := right_at room x hl x.length 0 (by omega) k hk
  rw [List.drop_zero] at h
  exact h
theorem ints_at' (a : List Int) (hl : a.length ≤ 100000) : ∀ (d j : Nat), j + d = a.length → ∀ k, d < k → galloonlaw09_ints.l0 k a a (j : Int) = some true := by
  intro d
  induction d with
  | zero =>
    intro j hj k hk
    obtain ⟨k, rfl⟩ : ∃ k', k = k' + 1 := ⟨k - 1, by omega⟩
    rw [galloonlaw09_ints.l0, if_neg (by omega)]
  | succ d ih =>
    intro j hj k hk
    obtain ⟨k, rfl⟩ : ∃ k', k = k' + 1 := ⟨k - 1, by omega⟩
    rw [galloonlaw09_ints.l0, if_pos (by omega), if_pos (by omega), if_pos (by omega), if_pos rfl, next (by omega), ih (j + 1) (by omega) k (by omega)]
theorem ints_same (a : List Int) (hl : a.length ≤ 100000) (k : Nat) (hk : a.length < k) : galloonlaw09_ints.f k a a = some true := by
  unfold galloonlaw09_ints.f
  rw [if_pos rfl]
  exact ints_at' a hl a.length 0 (by omega) k hk

end Go.Proofs.Ytoecbchfdgbliaa.Math
