-- Plain lemmas: tame rooms and pieces; what the law on Split and Rest reckons.
import Derived.Test.YtoecbchfdgbliaaMathE
namespace Go.Proofs.Ytoecbchfdgbliaa.Math
open Go.RowKit Go.Proofs.Ytoecbchfdgbliaa.P Go.Proofs.YtoecbchfdgbliaaW.PrintWords Go.Proofs.YtoecbchfdgbliaaW.PrintLast Go.Proofs.YtoecbchfdgbliaaW.PrintMore Hand

theorem u64_in {n : Int} (h0 : 0 ≤ n) (h1 : n < 18446744073709551616) : IntKind.u64.wrap n = n := IntWalk.u64_in n ⟨h0, by omega⟩
theorem u64_nonneg (n : Int) : 0 ≤ IntKind.u64.wrap n := by
  have h : IntKind.u64.wrap n = n % 18446744073709551616 := by
    simp [IntKind.wrap, IntKind.bits, IntKind.signed]
  rw [h]; omega
theorem mod_some (x n : Int) (h0 : 1 ≤ n) (h1 : n ≤ 4096) : ∃ r : Nat, (r : Int) < n ∧ galloonlaw09_mod.f x n = some (r : Int) := by
  have hx := u64_nonneg x
  have hr0 := Int.emod_nonneg (IntKind.u64.wrap x) (show n ≠ 0 by omega)
  have hr1 := Int.emod_lt_of_pos (IntKind.u64.wrap x) (show 0 < n by omega)
  obtain ⟨r, hr⟩ := Int.eq_ofNat_of_zero_le hr0
  refine ⟨r, by omega, ?_⟩
  unfold galloonlaw09_mod.f
  rw [u64_in (n := n) (by omega) (by omega), if_neg (by omega), Int.tmod_eq_emod_of_nonneg hx, hr, wrap_in (by omega) (by omega)]

theorem tame_at (room : Int) (l1 : List Int) (h1 : 1 ≤ room) (h100 : room ≤ 100) : ∀ (m j : Nat) (acc : List Int), j + m = 12 → acc.length = j → (∀ x ∈ acc, 1 ≤ x ∧ x ≤ room) →
    ∃ out : List Int, out.length ≤ 12 ∧ (∀ x ∈ out, 1 ≤ x ∧ x ≤ room) ∧ ∀ k, m < k → galloonlaw09_tame.l0 k room l1 12 acc (j : Int) = some (room, out) := by
  intro m
  induction m with
  | zero =>
    intro j acc hj hl ha
    refine ⟨acc, by omega, ha, fun k hk => ?_⟩
    obtain ⟨k, rfl⟩ : ∃ k', k = k' + 1 := ⟨k - 1, by omega⟩
    rw [galloonlaw09_tame.l0]
    split
    · rw [if_neg (by omega)]
    · rfl
  | succ m ih =>
    intro j acc hj hl ha
    by_cases hc : (j : Int) < (l1.length : Int)
    · obtain ⟨r, hr, he⟩ := mod_some (rd l1 (j : Int)) room h1 (by omega)
      have hw : wrap64 (1 + (r : Int)) = 1 + (r : Int) := wrap_in (by omega) (by omega)
      obtain ⟨out, h2, h3, h4⟩ := ih (j + 1) (acc ++ [1 + (r : Int)]) (by omega) (by simp; omega) (fun x hx => by
        rcases List.mem_append.1 hx with hx | hx
        · exact ha x hx
        · rw [List.mem_singleton.1 hx]; omega)
      refine ⟨out, h2, h3, fun k hk => ?_⟩
      obtain ⟨k, rfl⟩ : ∃ k', k = k' + 1 := ⟨k - 1, by omega⟩
      rw [galloonlaw09_tame.l0, if_pos hc, if_pos (by omega), if_pos (by omega), he]
      simp only [Option.bind_some]
      rw [if_pos (by omega), hw, next (by omega), h4 k (by omega)]
    · refine ⟨acc, by omega, ha, fun k hk => ?_⟩
      obtain ⟨k, rfl⟩ : ∃ k', k = k' + 1 := ⟨k - 1, by omega⟩
      rw [galloonlaw09_tame.l0, if_neg hc]
/-- Whatever int and list: tame makes a room and pieces. -/
theorem tame_ok (a0 : Int) (l1 : List Int) : ∃ room l, Ok room l ∧ ∀ k, 20 < k → galloonlaw09_tame.f k a0 l1 12 = some (room, l) := by
  obtain ⟨r, hr, he⟩ := mod_some a0 100 (by decide) (by decide)
  have hw : wrap64 (1 + (r : Int)) = 1 + (r : Int) := wrap_in (by omega) (by omega)
  obtain ⟨out, h2, h3, h4⟩ := tame_at (1 + (r : Int)) l1 (by omega) (by omega) 12 0 [] rfl rfl (by simp)
  refine ⟨1 + (r : Int), out, ⟨by omega, by omega, h2, h3⟩, fun k hk => ?_⟩
  unfold galloonlaw09_tame.f
  rw [he]
  simp only [Option.bind_some]
  rw [hw]
  exact h4 k (by omega)

theorem bitsL_sorted : ∀ (d f m : Nat), List.Pairwise (fun a b : Int => a < b) (bitsL d f m)
  | 0, _, _ => List.Pairwise.nil
  | d + 1, f, m => by
    have ih := bitsL_sorted d (f + 1) (m / 2)
    rw [bitsL]
    split
    · refine List.pairwise_cons.2 ⟨fun x hx => ?_, ih⟩
      have := (bitsL_in d (f + 1) (m / 2) x hx).1
      push_cast at this
      omega
    · exact ih
theorem rd_get {l : List Int} {j : Nat} (h : j < l.length) : rd l (j : Int) = l[j] := by simp [rd, h]
theorem places_at (l L : List Int) (hl : l.length ≤ 12) (hL : L ∈ setsF l.length) (hne : l.length = 0 ∨ L ≠ []) : ∀ (d j : Nat), j + d = L.length → ∀ k, d < k → galloonlaw09_places.l0 k l L (j : Int) = some true := by
  obtain ⟨hi, hlen, m, hm, hbits⟩ := in_sets hL
  have hs : List.Pairwise (fun a b : Int => a < b) L := by rw [hbits]; exact bitsL_sorted _ _ _
  intro d
  induction d with
  | zero =>
    intro j hj k hk
    obtain ⟨k, rfl⟩ : ∃ k', k = k' + 1 := ⟨k - 1, by omega⟩
    rw [galloonlaw09_places.l0, if_neg (by omega)]
    by_cases h0 : (l.length : Int) = 0
    · rw [if_pos h0]
    · rw [if_neg h0]
      congr 1
      apply decide_eq_true
      rcases hne with h | h
      · omega
      · have := List.length_pos_iff.2 h; omega
  | succ d ih =>
    intro j hj k hk
    obtain ⟨k, rfl⟩ : ∃ k', k = k' + 1 := ⟨k - 1, by omega⟩
    have hr := hi _ (rd_mem (l := L) (j := j) (by omega))
    rw [galloonlaw09_places.l0, if_pos (by omega), if_pos (by omega), if_neg (by omega), if_neg (by omega)]
    by_cases h0 : (j : Int) > 0
    · obtain ⟨i, rfl⟩ : ∃ i, j = i + 1 := ⟨j - 1, by omega⟩
      have hw : wrap64 (((i + 1 : Nat) : Int) - 1) = (i : Int) := by rw [wrap_in (by omega) (by omega)]; push_cast; omega
      have hlt := List.pairwise_iff_getElem.1 hs i (i + 1) (by omega) (by omega) (by omega)
      rw [← rd_get, ← rd_get] at hlt
      rw [if_pos h0, hw, if_pos (by omega), if_pos (by omega), if_neg (by omega), next (by omega), ih (i + 1 + 1) (by omega) k (by omega)]
    · rw [if_neg h0, next (by omega), ih (j + 1) (by omega) k (by omega)]
theorem places_ok (l L : List Int) (hl : l.length ≤ 12) (hL : L ∈ setsF l.length) (hne : l.length = 0 ∨ L ≠ []) (k : Nat) (hk : 20 < k) : galloonlaw09_places.f k l L = some true :=
  places_at l L hl hL hne L.length 0 (by omega) k (by have := (in_sets hL).2.1; omega)

theorem sum_at {l : List Int} (h : Small l) : ∀ (d j : Nat) (s : Int), j + d = l.length → 0 ≤ s → s ≤ 100 * j → ∀ k, d < k → galloonlaw09_sum.l0 k l s (j : Int) = some (s + sumL l (bitsL d j (2 ^ d - 1))) := by
  intro d
  have h12 := h.1
  induction d with
  | zero =>
    intro j s hj h0 h1 k hk
    obtain ⟨k, rfl⟩ : ∃ k', k = k' + 1 := ⟨k - 1, by omega⟩
    rw [galloonlaw09_sum.l0, if_neg (by omega), bitsL, sumL, List.map_nil, List.sum_nil, Int.add_zero]
  | succ d ih =>
    intro j s hj h0 h1 k hk
    obtain ⟨k, rfl⟩ : ∃ k', k = k' + 1 := ⟨k - 1, by omega⟩
    have hr := small_rd h (j : Int) (by omega) (by omega)
    have hp : 2 ^ (d + 1) = 2 * 2 ^ d := by rw [Nat.pow_succ]; omega
    have h1p : 0 < 2 ^ d := Nat.pow_pos (by decide)
    rw [galloonlaw09_sum.l0, if_pos (by omega), if_pos (by omega), wrap_in (by omega) (by omega), next (by omega), ih (j + 1) _ (by omega) (by omega) (by push_cast; omega) k (by omega), bitsL, if_pos (by omega), show (2 ^ (d + 1) - 1) / 2 = 2 ^ d - 1 by omega, sumL_cons]
    congr 1; omega
theorem sum_ok {l : List Int} (h : Small l) (k : Nat) (hk : 20 < k) : galloonlaw09_sum.f k l = some (sumL l (places l.length)) := by
  have e := sum_at h l.length 0 0 (by omega) (Int.le_refl _) (by omega) k (by have := h.1; omega)
  rw [full_places] at e
  show galloonlaw09_sum.l0 k l 0 0 = _
  simpa using e

/-- What a set leaves. -/
theorem sum_compl (l : List Int) : ∀ (d f m : Nat), m < 2 ^ d → sumL l (bitsL d f (2 ^ d - 1 - m)) + sumL l (bitsL d f m) = sumL l (bitsL d f (2 ^ d - 1))
  | 0, _, _, _ => rfl
  | d + 1, f, m, hm => by
    have hp : 2 ^ (d + 1) = 2 * 2 ^ d := by rw [Nat.pow_succ]; omega
    have h1p : 0 < 2 ^ d := Nat.pow_pos (by decide)
    have ih := sum_compl l d (f + 1) (m / 2) (by omega)
    rw [bitsL, bitsL, bitsL, show (2 ^ (d + 1) - 1 - m) / 2 = 2 ^ d - 1 - m / 2 by omega, show (2 ^ (d + 1) - 1) / 2 = 2 ^ d - 1 by omega, if_pos (show (2 ^ (d + 1) - 1) % 2 = 1 by omega), sumL_cons]
    by_cases ho : m % 2 = 1
    · rw [if_neg (by omega), if_pos ho, sumL_cons]; omega
    · rw [if_pos (by omega), if_neg ho, sumL_cons]; omega
theorem bitsL_mod : ∀ (d f m : Nat), bitsL d f m = bitsL d f (m % 2 ^ d)
  | 0, _, _ => rfl
  | d + 1, f, m => by
    have hp : 2 ^ (d + 1) = 2 * 2 ^ d := by rw [Nat.pow_succ]; omega
    have h2 : m % 2 ^ (d + 1) / 2 = m / 2 % 2 ^ d := by rw [hp, Nat.mod_mul_right_div_self]
    have h1 : m % 2 ^ (d + 1) % 2 = m % 2 := by rw [hp]; exact Nat.mod_mul_right_mod m 2 (2 ^ d)
    rw [bitsL, bitsL, h1, h2, ← bitsL_mod d (f + 1) (m / 2)]
theorem bits_any (n m : Nat) : bitsL n 0 m ∈ setsF n := by
  rw [bitsL_mod]; exact bits_mem (Nat.mod_lt _ (Nat.pow_pos (by decide)))
/-- No set's difference is less than that of the best one. -/
theorem least_all {l : List Int} (h : Small l) {x : List Int} (hb : Best (CS l.length) (dS l) x) (m : Nat) : dS l x ≤ dS l (bitsL l.length 0 m) := by
  have go : ∀ y, CS l.length y → dS l x ≤ dS l y := fun y hy => by rcases hb.2 y hy with k | ⟨k, _⟩ <;> omega
  rw [bitsL_mod]
  have hm : m % 2 ^ l.length < 2 ^ l.length := Nat.mod_lt _ (Nat.pow_pos (by decide))
  generalize m % 2 ^ l.length = m at hm
  by_cases hn : 0 < l.length
  · by_cases ho : m % 2 = 1
    · exact go _ ((CS_odd hn hm).2 ho)
    · obtain ⟨n, hnn⟩ : ∃ n, l.length = n + 1 := ⟨l.length - 1, by omega⟩
      have hp : 2 ^ l.length = 2 * 2 ^ n := by rw [hnn, Nat.pow_succ]; omega
      have hc := go _ ((CS_odd hn (show 2 ^ l.length - 1 - m < 2 ^ l.length by omega)).2 (by omega))
      have e := sum_compl l l.length 0 m hm
      rw [full_places] at e
      have e1 := (dS_eq h (bits_mem hm)).2
      have e2 := (dS_eq h (bits_mem (show 2 ^ l.length - 1 - m < 2 ^ l.length by omega))).2
      rw [e1]; rw [e2] at hc
      split at hc <;> split <;> omega
  · have e : bitsL l.length 0 m = [] := by rw [show l.length = 0 by omega]; rfl
    refine go _ ⟨bits_mem hm, fun k => hn k.1⟩

end Go.Proofs.Ytoecbchfdgbliaa.Math
