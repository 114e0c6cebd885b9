/- Rivest's theorem: polynomials that are permutations modulo a power of 2. Plain mathematics. -/
import Derived.Test.YtkjjnfbgcdanmaaMathA
namespace Go.Proofs.Ytkjjnfbgcdanmaa.MathG
open Go.Proofs.Ytkjjnfbgcdanmaa.MathA

/-- The quotient of the difference of two values by that of the arguments. -/
def quo : List Int → Int → Int → Int
  | [], _, _ => 0
  | _ :: l, x, y => quo l x y * x + horn l y

theorem horn_sub (l : List Int) (x y : Int) : horn l x - horn l y = (x - y) * quo l x y := by
  induction l with
  | nil => simp [horn, quo]
  | cons c l ih =>
    have e : horn l x = horn l y + (x - y) * quo l x y := by omega
    rw [horn, horn, quo, e]
    grind

/-- The sums of the numbers at even and at odd positions. -/
def sumE : List Int → Int
  | [] => 0
  | [c] => c
  | c :: _ :: l => c + sumE l
def sumO : List Int → Int
  | [] => 0
  | [_] => 0
  | _ :: d :: l => d + sumO l

theorem sumE_cons (c : Int) : ∀ l, sumE (c :: l) = c + sumO l ∧ sumO (c :: l) = sumE l
  | [] => by simp [sumE, sumO]
  | [d] => by simp [sumE, sumO]
  | d :: e :: l => by
    have := sumE_cons e l
    rw [sumE, this.1, sumO, sumO, this.2, sumE]
    exact ⟨rfl, rfl⟩

theorem horn_one (l : List Int) : horn l 1 = sumE l + sumO l := by
  induction l with
  | nil => rfl
  | cons c l ih => rw [horn, ih, (sumE_cons c l).1, (sumE_cons c l).2]; omega

theorem mod2_mul (a b : Int) : (a * b) % 2 = (a % 2) * (b % 2) % 2 := Int.mul_emod a b 2

theorem quo_even (l : List Int) (x y : Int) (hx : x % 2 = 0) (hy : y % 2 = 0) : quo l x y % 2 = l.getD 1 0 % 2 := by
  cases l with
  | nil => rfl
  | cons c l =>
    have h1 : horn l y % 2 = l.headD 0 % 2 := by
      cases l with
      | nil => rfl
      | cons d l => rw [horn, Int.add_emod, mod2_mul, hy]; simp
    rw [quo, Int.add_emod, mod2_mul, hx, h1]
    cases l <;> simp

theorem quo_odd (l : List Int) (x y : Int) (hx : x % 2 = 1) (hy : y % 2 = 1) : quo l x y % 2 = sumO l % 2 := by
  induction l with
  | nil => rfl
  | cons c l ih =>
    have h1 : horn l y % 2 = (sumE l + sumO l) % 2 := by
      rw [← horn_one]
      exact horn_mod (by rw [hy]; rfl) l
    rw [quo, Int.add_emod, mod2_mul, hx, ih, h1, (sumE_cons c l).2]
    omega

theorem odd_dvd {m q d : Int} {w : Nat} (hm : m = 2 ^ w) (hq : q % 2 = 1) (h : m ∣ d * q) : m ∣ d := by
  have hm2 : m.natAbs = 2 ^ w := by rw [hm, Int.natAbs_pow]; rfl
  rw [← Int.natAbs_dvd_natAbs] at h ⊢
  rw [Int.natAbs_mul, hm2] at h
  rw [hm2]
  refine Nat.Coprime.dvd_of_dvd_mul_right (n := q.natAbs) ?_ h
  refine Nat.Coprime.pow_left w ?_
  have : q.natAbs % 2 = 1 := by omega
  rw [Nat.coprime_iff_gcd_eq_one, Nat.gcd_rec, this]
  rfl

/-- Too many pigeons. -/
theorem pigeon : ∀ (n : Nat) (f : Nat → Nat), (∀ i, i < n + 1 → f i < n) → ∃ i j, i < j ∧ j < n + 1 ∧ f i = f j
  | 0, f, h => absurd (h 0 (by omega)) (by omega)
  | n + 1, f, h => by
    by_cases hc : ∃ i, i < n + 1 ∧ f i = f (n + 1)
    · obtain ⟨i, hi, e⟩ := hc
      exact ⟨i, n + 1, by omega, by omega, e⟩
    · have hne : ∀ i, i < n + 1 → f i ≠ f (n + 1) := fun i hi e => hc ⟨i, hi, e⟩
      obtain ⟨i, j, h1, h2, h3⟩ := pigeon n (fun i => if f i < f (n + 1) then f i else f i - 1) (fun i hi => by
        have := h i (by omega)
        have := h (n + 1) (by omega)
        have := hne i hi
        try dsimp only
        split <;> omega)
      try dsimp only at h3
      have := hne i (by omega)
      have := hne j (by omega)
      refine ⟨i, j, h1, by omega, ?_⟩
      split at h3 <;> split at h3 <;> omega

def Inj (m : Nat) (l : List Int) : Prop := ∀ i j : Nat, i < j → j < m → horn l (i : Int) % (m : Int) ≠ horn l (j : Int) % (m : Int)

theorem rivest {m w : Nat} (hm : m = 2 ^ w) (hm4 : 4 ≤ m) (l : List Int) : Inj m l ↔ l.getD 1 0 % 2 = 1 ∧ sumE (l.drop 2) % 2 = 0 ∧ sumO (l.drop 2) % 2 = 0 := by
  have hw : 2 ≤ w := by
    rcases Nat.lt_or_ge w 2 with h | h
    · have : 2 ^ w ≤ 2 ^ 1 := Nat.pow_le_pow_right (by omega) (by omega)
      omega
    · exact h
  obtain ⟨half, hh⟩ : ∃ half, m = 2 * half ∧ half % 2 = 0 := by
    obtain ⟨v, rfl⟩ : ∃ v, w = v + 2 := ⟨w - 2, by omega⟩
    exact ⟨2 ^ (v + 1), by rw [hm, Nat.pow_succ, Nat.pow_succ]; omega, by rw [Nat.pow_succ]; omega⟩
  obtain ⟨hh1, hh2⟩ := hh
  have hmI : (m : Int) = 2 ^ w := by rw [hm]; push_cast; rfl
  have hO : sumO l = l.getD 1 0 + sumO (l.drop 2) := by
    rcases l with _ | ⟨c, _ | ⟨d, l⟩⟩ <;> simp [sumO]
  have hE : sumE l = l.getD 0 0 + sumE (l.drop 2) := by
    rcases l with _ | ⟨c, _ | ⟨d, l⟩⟩ <;> simp [sumE]
  have h01 : ∀ x : Int, x % 2 = 0 → horn l x % 2 = l.getD 0 0 % 2 := by
    intro x hx
    rw [horn_mod (show x % 2 = 0 % 2 by rw [hx]; rfl) l]
    cases l with
    | nil => rfl
    | cons c l => simp [horn]
  have h11 : ∀ x : Int, x % 2 = 1 → horn l x % 2 = (sumE l + sumO l) % 2 := by
    intro x hx
    rw [horn_mod (show x % 2 = 1 % 2 by rw [hx]; rfl) l, horn_one]
  constructor
  · intro hi
    have coll : ∀ e : Nat, e < half → quo l ((e + half : Nat) : Int) (e : Int) % 2 = 0 → False := by
      intro e he hq
      refine hi e (e + half) (by omega) (by omega) ?_
      have := horn_sub l ((e + half : Nat) : Int) (e : Int)
      have e1 : ((e + half : Nat) : Int) - (e : Int) = (half : Int) := by push_cast; omega
      rw [e1] at this
      obtain ⟨q, hq2⟩ := Int.dvd_of_emod_eq_zero hq
      refine (Int.emod_eq_emod_iff_emod_sub_eq_zero.2 ?_).symm
      rw [this, hq2]
      refine Int.emod_eq_zero_of_dvd ⟨q, ?_⟩
      rw [hh1]
      push_cast
      grind
    have p0 : l.getD 1 0 % 2 = 1 := by
      rcases Int.emod_two_eq (l.getD 1 0) with h | h
      · exact (coll 0 (by omega) (by rw [quo_even l _ _ (by omega) (by omega)]; exact h)).elim
      · exact h
    have p1 : sumO l % 2 = 1 := by
      rcases Int.emod_two_eq (sumO l) with h | h
      · exact (coll 1 (by omega) (by rw [quo_odd l _ _ (by omega) (by omega)]; exact h)).elim
      · exact h
    have p2 : (sumE (l.drop 2) + sumO l) % 2 = 1 := by
      rcases Int.emod_two_eq (sumE (l.drop 2) + sumO l) with h | h
      · exfalso
        have hall : ∀ x : Int, horn l x % 2 = l.getD 0 0 % 2 := by
          intro x
          rcases Int.emod_two_eq x with hx | hx
          · exact h01 x hx
          · rw [h11 x hx, hE]; omega
        have hv : ∀ i : Nat, 0 ≤ horn l (i : Int) % (m : Int) ∧ horn l (i : Int) % (m : Int) < m ∧ (horn l (i : Int) % (m : Int)) % 2 = l.getD 0 0 % 2 := by
          intro i
          refine ⟨Int.emod_nonneg _ (by omega), Int.emod_lt_of_pos _ (by omega), ?_⟩
          rw [Int.emod_emod_of_dvd _ (show (2 : Int) ∣ (m : Int) from ⟨half, by rw [hh1]; push_cast; rfl⟩)]
          exact hall _
        obtain ⟨i, j, hij, hj, he⟩ := pigeon half (fun i => (horn l (i : Int) % (m : Int)).toNat / 2) (fun i _ => by
          have := hv i
          try dsimp only
          omega)
        refine hi i j hij (by omega) ?_
        have a1 := hv i
        have a2 := hv j
        try dsimp only at he
        omega
      · exact h
    omega
  · rintro ⟨p0, pE, pO⟩ i j hij hj he
    have hd : (m : Int) ∣ horn l (j : Int) - horn l (i : Int) := Int.dvd_of_emod_eq_zero (Int.emod_eq_emod_iff_emod_sub_eq_zero.1 he.symm)
    have h2 : (2 : Int) ∣ (m : Int) := ⟨half, by rw [hh1]; push_cast; rfl⟩
    have hpar : (j : Int) % 2 = (i : Int) % 2 := by
      have h3 := Int.emod_eq_zero_of_dvd (Int.dvd_trans h2 hd)
      rcases Int.emod_two_eq (i : Int) with hx | hx <;> rcases Int.emod_two_eq (j : Int) with hy | hy
      · omega
      · have := h01 _ hx
        have := h11 _ hy
        omega
      · have := h01 _ hy
        have := h11 _ hx
        omega
      · omega
    rw [horn_sub] at hd
    have hq : quo l (j : Int) (i : Int) % 2 = 1 := by
      rcases Int.emod_two_eq (i : Int) with hx | hx
      · rw [quo_even l _ _ (by omega) hx]; exact p0
      · rw [quo_odd l _ _ (by omega) hx, hO]; omega
    have hdd := odd_dvd hmI hq hd
    have := Int.le_of_dvd (by omega) hdd
    omega

end Go.Proofs.Ytkjjnfbgcdanmaa.MathG
