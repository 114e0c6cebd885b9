/- The form of a polynomial function modulo m, as an algorithm on lists, and what it finds. -/
import Derived.Test.YtpkmmbicpijgpaaMathA
namespace Go.Proofs.Ytpkmmbicpijgpaa.MathB
open Go.Proofs.Ytpkmmbicpijgpaa.MathA

/-- How many numbers there can be at position i of a form. -/
def ch (m i : Nat) : Nat := m / Nat.gcd m (fct i)

theorem fct_pos (n : Nat) : 0 < fct n := by
  induction n with
  | zero => decide
  | succ n ih => rw [fct_succ]; exact Nat.mul_pos ih (by omega)

theorem ch_pos {m : Nat} (i : Nat) (hm : 0 < m) : 0 < ch m i :=
  Nat.div_pos (Nat.gcd_le_left _ hm) (Nat.gcd_pos_of_pos_left _ hm)

theorem ch_dvd_nat {m i c : Nat} (hm : 0 < m) : m ∣ c * fct i ↔ ch m i ∣ c := by
  have hg : 0 < Nat.gcd m (fct i) := Nat.gcd_pos_of_pos_left _ hm
  obtain ⟨a, ha⟩ := Nat.gcd_dvd_left m (fct i)
  obtain ⟨b, hb⟩ := Nat.gcd_dvd_right m (fct i)
  have hc : ch m i = a := by
    unfold ch
    exact Nat.div_eq_of_eq_mul_right hg ha
  have hcop : Nat.Coprime a b := by
    have h1 : Nat.gcd m (fct i) = Nat.gcd m (fct i) * Nat.gcd a b := by
      rw [← Nat.gcd_mul_left, ← ha, ← hb]
    have h2 : Nat.gcd m (fct i) * 1 = Nat.gcd m (fct i) * Nat.gcd a b := by rw [Nat.mul_one]; exact h1
    exact (Nat.eq_of_mul_eq_mul_left hg h2).symm
  rw [hc]
  generalize Nat.gcd m (fct i) = g at *
  rw [hb]
  constructor
  · rintro ⟨k, hk⟩
    refine hcop.dvd_of_dvd_mul_right (n := b) ⟨k, ?_⟩
    refine Nat.eq_of_mul_eq_mul_left hg ?_
    rw [ha] at hk
    grind
  · rintro ⟨k, rfl⟩
    rw [ha]
    exact ⟨k * b, by grind⟩

theorem ch_dvd {m i : Nat} {c : Int} (hm : 0 < m) : (m : Int) ∣ c * (fct i : Int) ↔ (ch m i : Int) ∣ c := by
  rw [Int.ofNat_dvd_left, Int.ofNat_dvd_left, Int.natAbs_mul, Int.natAbs_natCast]
  exact ch_dvd_nat hm

theorem dvd_ff {m i : Nat} {c : Int} (hm : 0 < m) (h : (ch m i : Int) ∣ c) (x : Nat) : (m : Int) ∣ c * ff (x : Int) i := by
  obtain ⟨k, hk⟩ := fct_dvd_ff x i
  rw [hk]
  obtain ⟨q, hq⟩ := (ch_dvd hm).2 h
  exact ⟨q * k, by rw [← Int.mul_assoc, hq]; grind⟩

theorem dvd_comb {m d : Nat} (hd : m ∣ fct d) (l : List Int) (i : Nat) (hi : d ≤ i) (x : Nat) : (m : Int) ∣ comb i l (x : Int) := by
  induction l generalizing i with
  | nil => exact Int.dvd_zero _
  | cons a l ih =>
    rw [comb_cons]
    refine Int.dvd_add ?_ (ih (i + 1) (by omega))
    refine Int.dvd_mul_of_dvd_right ?_
    exact Int.dvd_trans (Int.natCast_dvd_natCast.2 (Nat.dvd_trans hd (fct_dvd_fct hi))) (fct_dvd_ff x i)

theorem comb_below (l : List Int) (i x : Nat) (h : x < i) : comb i l (x : Int) = 0 := by
  induction l generalizing i with
  | nil => rfl
  | cons a l ih => rw [comb_cons, ff_zero_of_lt x i h, ih (i + 1) (by omega)]; simp

/-- The first number with the wanted remainder. -/
def findC (m i : Nat) (v : Int) : Option Nat := (List.range (ch m i)).find? fun c => decide (((c : Int) * (fct i : Int) - v) % (m : Int) = 0)

def subL (m i c : Nat) (left : List Int) : List Int := (List.range left.length).map fun x => (left.getD x 0 - (c : Int) * ff (x : Int) i) % (m : Int)

theorem subL_length (m i c : Nat) (left : List Int) : (subL m i c left).length = left.length := by simp [subL]
theorem subL_get (m i c : Nat) (left : List Int) (x : Nat) (h : x < left.length) : (subL m i c left).getD x 0 = (left.getD x 0 - (c : Int) * ff (x : Int) i) % (m : Int) := by
  simp [subL, h]

def trim : List Int → List Int
  | [] => []
  | a :: l => if trim l = [] ∧ a = 0 then [] else a :: trim l

def formS (m : Nat) : Nat → Nat → List Int → List Int → List Int × Bool
  | 0, _, out, left => (trim out, left.all fun v => decide (v = 0))
  | n + 1, i, out, left => match findC m i (left.getD i 0) with
    | none => ([], false)
    | some c => formS m n (i + 1) (out ++ [(c : Int)]) (subL m i c left)

/-- Numbers that fit at the positions from i on. -/
def Fits (m : Nat) : Nat → List Int → Prop
  | _, [] => True
  | i, c :: l => 0 ≤ c ∧ c < (ch m i : Int) ∧ Fits m (i + 1) l

def Left (m : Nat) (left : List Int) : Prop := ∀ v ∈ left, 0 ≤ v ∧ v < (m : Int)

theorem Left.subL {m i c : Nat} {left : List Int} (hm : 0 < m) : Left m (subL m i c left) := by
  intro v hv
  unfold MathB.subL at hv
  rw [List.mem_map] at hv
  obtain ⟨x, _, rfl⟩ := hv
  exact ⟨Int.emod_nonneg _ (by omega), Int.emod_lt_of_pos _ (by omega)⟩

theorem findC_some {m i : Nat} {v : Int} {c : Nat} (h : findC m i v = some c) : c < ch m i ∧ ((c : Int) * (fct i : Int) - v) % (m : Int) = 0 := by
  unfold findC at h
  have h1 := List.find?_some h
  have h2 := List.mem_of_find?_eq_some h
  exact ⟨List.mem_range.1 h2, by simpa using h1⟩

theorem findC_ok {m i : Nat} {v a : Int} (hm : 0 < m) (h : (m : Int) ∣ a * (fct i : Int) - v) : ∃ c, findC m i v = some c := by
  have hc := ch_pos i hm
  cases e : findC m i v with
  | some c => exact ⟨c, rfl⟩
  | none =>
    exfalso
    unfold findC at e
    rw [List.find?_eq_none] at e
    have h0 := Int.emod_nonneg a (show (ch m i : Int) ≠ 0 by omega)
    have h1 := Int.emod_lt_of_pos a (show (0 : Int) < (ch m i : Int) by omega)
    have := e (a % (ch m i : Int)).toNat (List.mem_range.2 (by omega))
    apply this
    have e2 : (((a % (ch m i : Int)).toNat : Nat) : Int) = a % (ch m i : Int) := by omega
    rw [e2, decide_eq_true_eq]
    have h2 : (m : Int) ∣ (a % (ch m i : Int) - a) * (fct i : Int) := by
      rw [ch_dvd hm]
      refine ⟨-(a / (ch m i : Int)), ?_⟩
      have := Int.mul_ediv_add_emod a (ch m i : Int)
      grind
    have h3 := Int.dvd_add h2 h
    refine Int.emod_eq_zero_of_dvd ?_
    have e3 : (a % (ch m i : Int) - a) * (fct i : Int) + (a * (fct i : Int) - v) = a % (ch m i : Int) * (fct i : Int) - v := by grind
    rw [e3] at h3
    exact h3

/-- What stands at a position tells the number there. -/
theorem comb_here (l : List Int) (i : Nat) : comb i l (i : Int) = l.headD 0 * (fct i : Int) := by
  cases l with
  | nil => simp [comb]
  | cons a l => rw [comb_cons, ff_self, comb_below l (i + 1) i (by omega)]; simp

def Same (m : Nat) (left : List Int) (i : Nat) (l : List Int) : Prop := ∀ x, x < left.length → (m : Int) ∣ left.getD x 0 - comb i l (x : Int)

/-- LAW 1: the algorithm succeeds on what is a sum of falling factorials. -/
theorem formS_ok {m d : Nat} (hm : 0 < m) (hd : m ∣ fct d) : ∀ (n i : Nat) (out left a : List Int), i + n = d → d ≤ left.length → Left m left → Same m left i a →
    ∃ cs, formS m n i out left = (trim (out ++ cs), true) ∧ cs.length = n ∧ Fits m i cs ∧ Same m left i cs
  | 0, i, out, left, a, hi, hl, hL, hS => by
    refine ⟨[], ?_, rfl, trivial, ?_⟩
    · have h0 : ∀ v ∈ left, v = 0 := by
        intro v hv
        obtain ⟨x, hx, rfl⟩ := List.mem_iff_getElem.1 hv
        have h1 := hS x hx
        have h2 := dvd_comb (m := m) hd a i (by omega) x
        have h3 := Int.dvd_add h1 h2
        rw [Int.sub_add_cancel] at h3
        have h4 := hL _ hv
        have e : left.getD x 0 = left[x] := by simp [hx]
        rw [e] at h3
        have := Int.emod_eq_zero_of_dvd h3
        rw [Int.emod_eq_of_lt h4.1 h4.2] at this
        exact this
      have : (left.all fun v => decide (v = 0)) = true := by
        rw [List.all_eq_true]
        intro v hv
        simp [h0 v hv]
      rw [formS, this, List.append_nil]
    · intro x hx
      have h1 := hS x hx
      have h2 := dvd_comb (m := m) hd a i (by omega) x
      have h3 := Int.dvd_add h1 h2
      rw [Int.sub_add_cancel] at h3
      rw [comb_nil, Int.sub_zero]
      exact h3
  | n + 1, i, out, left, a, hi, hl, hL, hS => by
    have hii : i < left.length := by omega
    have h1 := hS i hii
    rw [comb_here] at h1
    have h1' : (m : Int) ∣ a.headD 0 * (fct i : Int) - left.getD i 0 := by
      have := Int.dvd_neg.2 h1
      rwa [Int.neg_sub] at this
    obtain ⟨c, hc⟩ := findC_ok hm h1'
    obtain ⟨hc1, hc2⟩ := findC_some hc
    have h4 : (ch m i : Int) ∣ a.headD 0 - (c : Int) := by
      rw [← ch_dvd hm]
      have := Int.dvd_sub h1' (Int.dvd_of_emod_eq_zero hc2)
      have e : a.headD 0 * (fct i : Int) - left.getD i 0 - ((c : Int) * (fct i : Int) - left.getD i 0) = (a.headD 0 - (c : Int)) * (fct i : Int) := by grind
      rwa [e] at this
    have hS2 : Same m (subL m i c left) (i + 1) a.tail := by
      intro x hx
      rw [subL_length] at hx
      rw [subL_get _ _ _ _ _ hx]
      have h5 := hS x hx
      have h6 := dvd_ff hm h4 x
      have e : comb i a (x : Int) = a.headD 0 * ff (x : Int) i + comb (i + 1) a.tail (x : Int) := by
        cases a with
        | nil => simp [comb]
        | cons b l => rfl
      rw [e] at h5
      have h7 := Int.dvd_add h5 h6
      have e2 : left.getD x 0 - (a.headD 0 * ff (x : Int) i + comb (i + 1) a.tail (x : Int)) + (a.headD 0 - (c : Int)) * ff (x : Int) i = left.getD x 0 - (c : Int) * ff (x : Int) i - comb (i + 1) a.tail (x : Int) := by grind
      rw [e2] at h7
      have h8 : (m : Int) ∣ (left.getD x 0 - (c : Int) * ff (x : Int) i) % (m : Int) - (left.getD x 0 - (c : Int) * ff (x : Int) i) := by
        refine ⟨-((left.getD x 0 - (c : Int) * ff (x : Int) i) / (m : Int)), ?_⟩
        have := Int.mul_ediv_add_emod (left.getD x 0 - (c : Int) * ff (x : Int) i) (m : Int)
        grind
      have h9 := Int.dvd_add h8 h7
      have e3 : ∀ p q r : Int, p - q + (q - r) = p - r := by intros; omega
      rwa [e3] at h9
    obtain ⟨cs, hf, hlen, hfit, hsame⟩ := formS_ok hm hd n (i + 1) (out ++ [(c : Int)]) (subL m i c left) a.tail (by omega) (by rw [subL_length]; exact hl) (Left.subL hm) hS2
    refine ⟨(c : Int) :: cs, ?_, by simp [hlen], ⟨by omega, by omega, hfit⟩, ?_⟩
    · rw [formS, hc]
      dsimp only
      rw [hf, List.append_assoc]
      rfl
    · intro x hx
      have h5 := hsame x (by rw [subL_length]; exact hx)
      rw [subL_get _ _ _ _ _ hx] at h5
      rw [comb_cons]
      have h8 : (m : Int) ∣ (left.getD x 0 - (c : Int) * ff (x : Int) i) - (left.getD x 0 - (c : Int) * ff (x : Int) i) % (m : Int) := by
        refine ⟨((left.getD x 0 - (c : Int) * ff (x : Int) i) / (m : Int)), ?_⟩
        have := Int.mul_ediv_add_emod (left.getD x 0 - (c : Int) * ff (x : Int) i) (m : Int)
        grind
      have h9 := Int.dvd_add h8 h5
      have e3 : ∀ p q r : Int, p - q + (q - r) = p - r := by intros; omega
      rw [e3] at h9
      have e4 : left.getD x 0 - (c : Int) * ff (x : Int) i - comb (i + 1) cs (x : Int) = left.getD x 0 - ((c : Int) * ff (x : Int) i + comb (i + 1) cs (x : Int)) := by omega
      rwa [e4] at h9


end Go.Proofs.Ytpkmmbicpijgpaa.MathB
