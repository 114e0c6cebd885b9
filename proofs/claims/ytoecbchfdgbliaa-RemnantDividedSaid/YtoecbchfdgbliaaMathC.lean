-- Plain lemmas: what the reference reckons with sets given as numbers, in closed form.
import Derived.Test.YtoecbchfdgbliaaMathA
import Derived.Test.YtoecbchfdgbliaaMathB
import Derived.Test.YtoecbchfdgbliaaPx4
namespace Go.Proofs.Ytoecbchfdgbliaa.Math
open Go.RowKit Go.Proofs.Ytoecbchfdgbliaa.P Go.Proofs.YtoecbchfdgbliaaW.PrintWords Go.Proofs.YtoecbchfdgbliaaW.PrintLast Go.Proofs.YtoecbchfdgbliaaW.PrintMore Hand

theorem shr_nat (m j : Nat) (hj : j ≤ 60) : shr .i64 (m : Int) (j : Int) = ((m / 2 ^ j : Nat) : Int) := by
  unfold shr
  rw [Int.toNat_natCast, Nat.min_eq_left (show j ≤ IntKind.i64.bits from Nat.le_trans hj (by decide))]
  push_cast
  rfl
theorem tmod_nat (m : Nat) : Int.tmod (m : Int) 2 = ((m % 2 : Nat) : Int) := by
  rw [Int.tmod_eq_emod_of_nonneg (by omega)]; push_cast; rfl
theorem div_pow (m j : Nat) : m / 2 ^ j / 2 = m / 2 ^ (j + 1) := by rw [Nat.div_div_eq_div_mul, Nat.pow_succ]
theorem shl_nat (n : Nat) (hn : n ≤ 12) : shl .i64 1 (n : Int) = ((2 ^ n : Nat) : Int) := by
  have h : ∀ n : Fin 13, shl .i64 1 ((n.val : Nat) : Int) = ((2 ^ n.val : Nat) : Int) := by decide +kernel
  exact h ⟨n, by omega⟩

/-! ### list -/
theorem list_at (m : Nat) : ∀ (d j : Nat) (acc : List Int), j + d ≤ 50 → m / 2 ^ j < 2 ^ d → acc.length ≤ j → ∀ k, d < k → galloonref09_list.l0 k (m : Int) acc (j : Int) = some (acc ++ bitsL d j (m / 2 ^ j)) := by
  intro d
  induction d with
  | zero =>
    intro j acc hjd hm ha k hk
    obtain ⟨k, rfl⟩ : ∃ k', k = k' + 1 := ⟨k - 1, by omega⟩
    rw [galloonref09_list.l0, if_pos (by omega), shr_nat m j (by omega)]
    generalize m / 2 ^ j = q at hm ⊢
    rw [if_neg (by omega), bitsL, List.append_nil]
  | succ d ih =>
    intro j acc hjd hm ha k hk
    obtain ⟨k, rfl⟩ : ∃ k', k = k' + 1 := ⟨k - 1, by omega⟩
    have hp : 2 ^ (d + 1) = 2 * 2 ^ d := by rw [Nat.pow_succ]; omega
    have ih1 := ih (j + 1)
    rw [← div_pow] at ih1
    rw [galloonref09_list.l0, if_pos (by omega), shr_nat m j (by omega), tmod_nat]
    generalize m / 2 ^ j = q at hm ih1 ⊢
    by_cases h0 : q = 0
    · rw [if_neg (by omega), h0, bitsL_zero, List.append_nil]
    · rw [if_pos (by omega)]
      have hn : q / 2 < 2 ^ d := by omega
      by_cases h1 : q % 2 = 1
      · rw [if_pos (by omega), if_pos (by omega), next (by omega), ih1 _ (by omega) hn (by simp; omega) k (by omega), bitsL, if_pos h1, List.append_assoc]
        rfl
      · rw [if_neg (by omega), next (by omega), ih1 _ (by omega) hn (by omega) k (by omega), bitsL, if_neg h1]
theorem list_eq (n m : Nat) (hn : n ≤ 40) (hm : m < 2 ^ n) (k : Nat) (hk : n < k) : galloonref09_list.f k (m : Int) = some (bitsL n 0 m) := by
  have h := list_at m n 0 [] (by omega) (by simpa using hm) (Nat.le_refl _) k hk
  show galloonref09_list.l0 k (m : Int) [] 0 = _
  simpa using h

/-! ### sums -/
def sumL (l L : List Int) : Int := (L.map (rd l)).sum
theorem sumL_cons (l : List Int) (i : Int) (L : List Int) : sumL l (i :: L) = rd l i + sumL l L := by simp [sumL]
/-- The pieces of a list are not too great. -/
def Small (l : List Int) : Prop := l.length ≤ 12 ∧ ∀ x ∈ l, 1 ≤ x ∧ x ≤ 100
theorem small_rd {l : List Int} (h : Small l) (i : Int) (h0 : 0 ≤ i) (h1 : i < (l.length : Int)) : 1 ≤ rd l i ∧ rd l i ≤ 100 := by
  obtain ⟨j, rfl⟩ := Int.eq_ofNat_of_zero_le h0
  exact h.2 _ (rd_mem (by omega))
theorem sumL_in {l : List Int} (h : Small l) : ∀ (L : List Int), (∀ i ∈ L, 0 ≤ i ∧ i < (l.length : Int)) → (L.length : Int) ≤ sumL l L ∧ sumL l L ≤ 100 * (L.length : Int)
  | [], _ => by simp [sumL]
  | i :: L, hi => by
    have ih := sumL_in h L (fun j hj => hi j (List.mem_cons_of_mem _ hj))
    have h1 := hi i List.mem_cons_self
    have h2 := small_rd h i h1.1 h1.2
    rw [sumL_cons, List.length_cons]
    push_cast
    omega
theorem fold_sum {l : List Int} (h : Small l) : ∀ (L : List Int) (s : Int), (∀ i ∈ L, 0 ≤ i ∧ i < (l.length : Int)) → 0 ≤ s → s + 100 * (L.length : Int) ≤ 1000000 → L.foldl (fun s i => wrap64 (s + rd l i)) s = s + sumL l L
  | [], s, _, _, _ => by simp [sumL]
  | i :: L, s, hi, h0, h1 => by
    have hi1 := hi i List.mem_cons_self
    have h2 := small_rd h i hi1.1 hi1.2
    rw [List.length_cons] at h1
    push_cast at h1
    rw [List.foldl_cons, wrap_in (by omega) (by omega), fold_sum h L _ (fun j hj => hi j (List.mem_cons_of_mem _ hj)) (by omega) (by omega), sumL_cons]
    omega
theorem sumF_eq {l : List Int} (h : Small l) (L : List Int) (hi : ∀ i ∈ L, 0 ≤ i ∧ i < (l.length : Int)) (hL : L.length ≤ 12) : sumF l L = sumL l L := by
  rw [sumF, fold_sum h L 0 hi (Int.le_refl _) (by omega)]; omega

theorem size_at {l : List Int} (h : Small l) (m : Nat) : ∀ (d j : Nat) (s : Int), j + d = l.length → 0 ≤ s → s ≤ 100 * j → ∀ k, d < k → galloonref09_size.l0 k l (m : Int) s (j : Int) = some (s + sumL l (bitsL d j (m / 2 ^ j))) := by
  intro d
  have h12 := h.1
  induction d with
  | zero =>
    intro j s hj h0 h1 k hk
    obtain ⟨k, rfl⟩ : ∃ k', k = k' + 1 := ⟨k - 1, by omega⟩
    rw [galloonref09_size.l0, if_neg (by omega), bitsL, sumL, List.map_nil, List.sum_nil, Int.add_zero]
  | succ d ih =>
    intro j s hj h0 h1 k hk
    obtain ⟨k, rfl⟩ : ∃ k', k = k' + 1 := ⟨k - 1, by omega⟩
    have hr := small_rd h (j : Int) (by omega) (by omega)
    rw [galloonref09_size.l0, if_pos (by omega), if_pos (by omega), shr_nat m j (by omega), tmod_nat, next (by omega)]
    by_cases hb : (m / 2 ^ j) % 2 = 1
    · rw [hb, Int.natCast_one, Int.mul_one, wrap_in (n := rd l (j : Int)) (by omega) (by omega), wrap_in (by omega) (by omega), ih (j + 1) _ (by omega) (by omega) (by push_cast; omega) k (by omega), bitsL, if_pos hb, div_pow, sumL_cons]
      congr 1; omega
    · have hb0 : (m / 2 ^ j) % 2 = 0 := by omega
      rw [hb0, Int.natCast_zero, Int.mul_zero, wrap_in (n := 0) (by decide) (by decide), Int.add_zero, wrap_in (by omega) (by omega), ih (j + 1) _ (by omega) (by omega) (by push_cast; omega) k (by omega), bitsL, if_neg hb, div_pow]
theorem size_eq {l : List Int} (h : Small l) (m : Nat) (k : Nat) (hk : l.length < k) : galloonref09_size.f k l (m : Int) = some (sumL l (bitsL l.length 0 m)) := by
  have e := size_at h m l.length 0 0 (by omega) (Int.le_refl _) (by omega) k hk
  show galloonref09_size.l0 k l (m : Int) 0 0 = _
  simpa using e

/-! ### before -/
theorem before_at (a b : List Int) (ha : a.length ≤ 100000) : ∀ (d j : Nat), j + d = a.length → ∀ k, 2 * d + 1 < k → galloonref09_before.l0 k a b (j : Int) = some (if j ≤ b.length then lexB (a.drop j) (b.drop j) else decide ((a.length : Int) < (b.length : Int))) := by
  intro d
  induction d with
  | zero =>
    intro j hj k hk
    obtain ⟨k, rfl⟩ : ∃ k', k = k' + 1 + 1 := ⟨k - 2, by omega⟩
    rw [galloonref09_before.l0, if_neg (by omega), galloonref09_before.j1, if_neg (by decide)]
    congr 1
    split
    · rw [List.drop_of_length_le (show a.length ≤ j by omega)]
      by_cases hb : b.length = j
      · rw [List.drop_of_length_le (show b.length ≤ j by omega), lexB]
        exact decide_eq_false (by omega)
      · rw [List.drop_eq_getElem_cons (show j < b.length by omega), lexB]
        exact decide_eq_true (by omega)
    · rfl
  | succ d ih =>
    intro j hj k hk
    obtain ⟨k, rfl⟩ : ∃ k', k = k' + 1 + 1 := ⟨k - 2, by omega⟩
    have hja : j < a.length := by omega
    have hda : a.drop j = rd a (j : Int) :: a.drop (j + 1) := by rw [List.drop_eq_getElem_cons hja]; simp [rd, hja]
    rw [galloonref09_before.l0, if_pos (by omega), galloonref09_before.j1]
    by_cases hb : j < b.length
    · have hdb : b.drop j = rd b (j : Int) :: b.drop (j + 1) := by rw [List.drop_eq_getElem_cons hb]; simp [rd, hb]
      rw [decide_eq_true (show (j : Int) < (b.length : Int) by omega), if_pos rfl, if_pos (by omega), if_pos (by omega), if_pos (by omega), if_pos (show j ≤ b.length by omega), hda, hdb, lexB, next (by omega), ih (j + 1) (by omega) k (by omega), if_pos (show j + 1 ≤ b.length by omega)]
      split <;> rfl
    · rw [decide_eq_false (show ¬ (j : Int) < (b.length : Int) by omega), if_neg (by decide)]
      congr 1
      split
      · rw [List.drop_of_length_le (show b.length ≤ j by omega), hda, lexB]
        exact decide_eq_false (by omega)
      · rfl
theorem before_eq (a b : List Int) (ha : a.length ≤ 100000) (k : Nat) (hk : 2 * a.length + 1 < k) : galloonref09_before.f k a b = some (lexB a b) := by
  have h := before_at a b ha a.length 0 (by omega) k hk
  show galloonref09_before.l0 k a b 0 = _
  simpa using h

end Go.Proofs.Ytoecbchfdgbliaa.Math
