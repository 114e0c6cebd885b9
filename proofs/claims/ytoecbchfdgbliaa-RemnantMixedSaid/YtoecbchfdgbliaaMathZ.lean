-- Plain lemmas: the number of right packings, and a further piece.
import Derived.Test.YtoecbchfdgbliaaHandE
namespace Go.Proofs.Ytoecbchfdgbliaa.Math
open Go.RowKit Go.Proofs.YtoecbchfdgbliaaW.PrintWords Go.Proofs.YtoecbchfdgbliaaW.PrintLast Go.Proofs.YtoecbchfdgbliaaW.PrintMore
open Go.Proofs.Ytoecbchfdgbliaa.Hand hiding wrap_in look
set_option linter.unusedVariables false

/-- A walk over all parts of a set, from one on down. -/
def gl (f : Nat → Int → Int) (r : Nat) : Nat → Nat → Int → Int
  | 0, _, acc => acc
  | k + 1, t, acc => if t = 0 then f t acc else gl f r k ((t - 1) &&& r) (f t acc)
theorem wloop_gl (fit : Nat → Bool) (Wy : Nat → Int) (low r : Nat) : ∀ (k t : Nat) (acc : Int), wloop fit Wy low r k t acc = gl (fun t acc => if fit (t + low) = true then wrap64 (acc + Wy (r - t)) else acc) r k t acc
  | 0, _, _ => rfl
  | k + 1, t, acc => by
    rw [wloop, gl]
    split
    · rfl
    · exact wloop_gl fit Wy low r k _ _
theorem gl_fuel (f : Nat → Int → Int) (r : Nat) : ∀ (k k' t : Nat) (acc : Int), t < k → t < k' → gl f r k t acc = gl f r k' t acc
  | 0, _, _, _, h, _ => by omega
  | _ + 1, 0, _, _, _, h => by omega
  | k + 1, k' + 1, t, acc, h, h' => by
    rw [gl, gl]
    by_cases e : t = 0
    · rw [if_pos e, if_pos e]
    · have : (t - 1) &&& r ≤ t - 1 := Nat.and_le_left
      rw [if_neg e, if_neg e]
      exact gl_fuel f r k k' _ _ (by omega) (by omega)
theorem part_next (t r : Nat) : ((t - 1) &&& r) &&& r = (t - 1) &&& r := by rw [Nat.and_assoc, Nat.and_self]
theorem part_le {t r : Nat} (h : t &&& r = t) : t ≤ r := by rw [← h]; exact Nat.and_le_right
theorem gl_congr {f g : Nat → Int → Int} {r : Nat} (h : ∀ t acc, t &&& r = t → f t acc = g t acc) : ∀ (k t : Nat) (acc : Int), t &&& r = t → gl f r k t acc = gl g r k t acc
  | 0, _, _, _ => rfl
  | k + 1, t, acc, ht => by
    rw [gl, gl, h t acc ht]
    split
    · rfl
    · exact gl_congr h k _ _ (part_next t r)
theorem gl_id {f : Nat → Int → Int} {r : Nat} (h : ∀ t acc, t &&& r = t → f t acc = acc) : ∀ (k t : Nat) (acc : Int), t &&& r = t → gl f r k t acc = acc
  | 0, _, _, _ => rfl
  | k + 1, t, acc, ht => by
    rw [gl, h t acc ht]
    split
    · rfl
    · exact gl_id h k _ _ (part_next t r)

/-! ### The top bit -/
theorem and_hi {n a b : Nat} (ha : a < 2 ^ n) (hb : b < 2 ^ n) : (2 ^ n + a) &&& (2 ^ n + b) = 2 ^ n + (a &&& b) := by
  apply Nat.eq_of_testBit_eq
  intro i
  rw [Nat.testBit_and]
  rcases Nat.lt_trichotomy i n with h | h | h
  · rw [Nat.testBit_two_pow_add_gt h, Nat.testBit_two_pow_add_gt h, Nat.testBit_two_pow_add_gt h, Nat.testBit_and]
  · subst h
    have hc : a &&& b < 2 ^ i := Nat.lt_of_le_of_lt Nat.and_le_left ha
    rw [Nat.testBit_two_pow_add_eq, Nat.testBit_two_pow_add_eq, Nat.testBit_two_pow_add_eq, Nat.testBit_lt_two_pow ha, Nat.testBit_lt_two_pow hb, Nat.testBit_lt_two_pow hc]
    rfl
  · have hp : 2 ^ (n + 1) ≤ 2 ^ i := Nat.pow_le_pow_right (by decide) h
    have e : 2 ^ (n + 1) = 2 ^ n + 2 ^ n := by rw [Nat.pow_succ]; omega
    have hc : a &&& b < 2 ^ n := Nat.lt_of_le_of_lt Nat.and_le_left ha
    rw [Nat.testBit_lt_two_pow (x := 2 ^ n + a) (by omega), Nat.testBit_lt_two_pow (x := 2 ^ n + (a &&& b)) (by omega), Bool.false_and]
theorem and_lo {n a b : Nat} (ha : a < 2 ^ n) (hb : b < 2 ^ n) : a &&& (2 ^ n + b) = a &&& b := by
  apply Nat.eq_of_testBit_eq
  intro i
  rw [Nat.testBit_and, Nat.testBit_and]
  rcases Nat.lt_trichotomy i n with h | h | h
  · rw [Nat.testBit_two_pow_add_gt h]
  · subst h
    rw [Nat.testBit_lt_two_pow ha, Bool.false_and, Bool.false_and]
  · have hp : 2 ^ n ≤ 2 ^ i := Nat.pow_le_pow_right (by decide) (by omega)
    rw [Nat.testBit_lt_two_pow (x := a) (by omega), Bool.false_and, Bool.false_and]
theorem and_ones {n r : Nat} (h : r < 2 ^ n) : (2 ^ n - 1) &&& r = r := by
  rw [Nat.and_comm, Nat.and_two_pow_sub_one_eq_mod, Nat.mod_eq_of_lt h]
theorem rest_top (n : Nat) : restN (2 ^ n) = 0 := by
  unfold restN
  rw [Nat.and_two_pow_sub_one_eq_mod, Nat.mod_self]
theorem low_top (n : Nat) : lowN (2 ^ n) = 2 ^ n := by
  have := low_add (2 ^ n)
  rw [rest_top] at this
  omega
theorem rest_hi {n s : Nat} (h0 : 0 < s) (hs : s < 2 ^ n) : restN (2 ^ n + s) = 2 ^ n + restN s := by
  unfold restN
  rw [show 2 ^ n + s - 1 = 2 ^ n + (s - 1) by omega, and_hi hs (by omega)]
theorem low_hi {n s : Nat} (h0 : 0 < s) (hs : s < 2 ^ n) : lowN (2 ^ n + s) = lowN s := by
  have h1 := low_add (2 ^ n + s)
  have h2 := low_add s
  rw [rest_hi h0 hs] at h1
  omega
theorem gl_low {n r : Nat} (hr : r < 2 ^ n) (f : Nat → Int → Int) : ∀ (k t : Nat) (acc : Int), t < 2 ^ n → gl f (2 ^ n + r) k t acc = gl f r k t acc
  | 0, _, _, _ => rfl
  | k + 1, t, acc, ht => by
    rw [gl, gl]
    by_cases e : t = 0
    · rw [if_pos e, if_pos e]
    · have : (t - 1) &&& r ≤ t - 1 := Nat.and_le_left
      rw [if_neg e, if_neg e, and_lo (by omega) hr]
      exact gl_low hr f k _ _ (by omega)
/-- First all parts with the top bit, then all without. -/
theorem gl_phase {n r : Nat} (hr : r < 2 ^ n) (f : Nat → Int → Int) : ∀ (N u : Nat) (acc : Int) (K : Nat), u < N → u &&& r = u → 2 ^ n + u < K → gl f (2 ^ n + r) K (2 ^ n + u) acc = gl f r (r + 1) r (gl (fun u acc => f (2 ^ n + u) acc) r (u + 1) u acc)
  | 0, _, _, _, h, _, _ => by omega
  | N + 1, u, acc, K, h, hu, hK => by
    obtain ⟨K, rfl⟩ : ∃ K', K = K' + 1 := ⟨K - 1, by omega⟩
    have hp : 0 < 2 ^ n := Nat.pow_pos (by decide)
    have hur := part_le hu
    have e0 : gl f (2 ^ n + r) (K + 1) (2 ^ n + u) acc = gl f (2 ^ n + r) K ((2 ^ n + u - 1) &&& (2 ^ n + r)) (f (2 ^ n + u) acc) := by rw [gl, if_neg (by omega)]
    have e1 : gl (fun u acc => f (2 ^ n + u) acc) r (u + 1) u acc = if u = 0 then f (2 ^ n + u) acc else gl (fun u acc => f (2 ^ n + u) acc) r u ((u - 1) &&& r) (f (2 ^ n + u) acc) := by rw [gl]
    rw [e0, e1]
    clear e0 e1
    by_cases e : u = 0
    · subst e
      rw [if_pos rfl, Nat.add_zero, show (2 ^ n - 1) &&& (2 ^ n + r) = r by rw [and_lo (by omega) hr, and_ones hr], gl_low hr f _ _ _ hr]
      exact gl_fuel f r _ _ _ _ (by omega) (by omega)
    · have hn : (u - 1) &&& r ≤ u - 1 := Nat.and_le_left
      rw [if_neg e, show 2 ^ n + u - 1 = 2 ^ n + (u - 1) by omega, and_hi (by omega) hr, gl_phase hr f N ((u - 1) &&& r) _ K (by omega) (part_next u r) (by omega)]
      congr 1
      exact gl_fuel _ r _ _ _ _ (by omega) (by omega)

/-! ### A piece that fills a box -/
theorem ways_full {n : Nat} (fit fit' : Nat → Bool) (h1 : ∀ x, x < 2 ^ n → fit' x = fit x) (h2 : fit' (2 ^ n) = true) (h3 : ∀ x, 0 < x → x < 2 ^ n → fit' (2 ^ n + x) = false) : ∀ N s, s < N → s < 2 ^ n → wayN fit' (2 ^ n + s) = wayN fit s
  | 0, _, h, _ => by omega
  | N + 1, s, h, hs => by
    have hp : 0 < 2 ^ n := Nat.pow_pos (by decide)
    by_cases e : s = 0
    · subst e
      rw [Nat.add_zero, wayN_rec fit' hp, low_top, rest_top, wloop, if_pos rfl, Nat.zero_add, if_pos h2, Nat.sub_zero, wayN_zero, wayN_zero]
      unfold wrap64
      decide
    · have hla := low_add s
      have hr := rest_lt (s := s) (by omega)
      have hlp : 0 < lowN s := by omega
      rw [wayN_rec fit' (by omega), wayN_rec fit (by omega), low_hi (by omega) hs, rest_hi (by omega) hs, wloop_gl, wloop_gl, gl_phase (r := restN s) (by omega) _ (restN s + 1) (restN s) 0 _ (by omega) (Nat.and_self _) (by omega)]
      have hz : gl (fun u acc => if fit' (2 ^ n + u + lowN s) = true then wrap64 (acc + wayN fit' (2 ^ n + restN s - (2 ^ n + u))) else acc) (restN s) (restN s + 1) (restN s) 0 = 0 := gl_id (fun t acc ht => by
        have := part_le ht
        try dsimp only
        rw [show 2 ^ n + t + lowN s = 2 ^ n + (t + lowN s) by omega, h3 _ (by omega) (by omega), if_neg (by decide)]) _ _ _ (Nat.and_self _)
      rw [hz]
      refine gl_congr (fun t acc ht => ?_) _ _ _ (Nat.and_self _)
      have := part_le ht
      try dsimp only
      rw [h1 _ (by omega), show 2 ^ n + restN s - t = 2 ^ n + (restN s - t) by omega, ways_full fit fit' h1 h2 h3 N (restN s - t) (by omega) (by omega)]

/-! ### Bounds -/
def gB : Nat → Nat → Int
  | 0, _ => 1
  | n + 1, s => if s < 2 ^ n then gB n s else 6 * gB n (s - 2 ^ n)
def hB : Nat → Nat → Int
  | 0, _ => 1
  | n + 1, s => if s < 2 ^ n then hB n s else 7 * hB n (s - 2 ^ n)
theorem gB_zero : ∀ n, gB n 0 = 1
  | 0 => rfl
  | n + 1 => by rw [gB, if_pos (Nat.pow_pos (by decide)), gB_zero n]
theorem hB_zero : ∀ n, hB n 0 = 1
  | 0 => rfl
  | n + 1 => by rw [hB, if_pos (Nat.pow_pos (by decide)), hB_zero n]
theorem gB_lo {n s : Nat} (h : s < 2 ^ n) : gB (n + 1) s = gB n s := by rw [gB, if_pos h]
theorem gB_hi (n s : Nat) : gB (n + 1) (2 ^ n + s) = 6 * gB n s := by rw [gB, if_neg (by omega), show 2 ^ n + s - 2 ^ n = s by omega]
theorem gB_pos : ∀ n s, 0 < gB n s
  | 0, _ => by rw [gB]; decide
  | n + 1, s => by
    rw [gB]
    split
    · exact gB_pos n s
    · have := gB_pos n (s - 2 ^ n); omega
theorem gl_lin (c : Int) (F : Nat → Int) (r : Nat) : ∀ (k t : Nat) (acc : Int), gl (fun t acc => acc + c * F t) r k t acc = acc + c * gl (fun t acc => acc + F t) r k t 0
  | 0, _, acc => by rw [gl, gl]; omega
  | k + 1, t, acc => by
    rw [gl, gl]
    split
    · rw [Int.zero_add]
    · have h1 := gl_lin c F r k ((t - 1) &&& r) (acc + c * F t)
      have h2 := gl_lin 1 F r k ((t - 1) &&& r) (0 + F t)
      simp only [Int.one_mul] at h2
      rw [h1, h2, Int.zero_add, Int.mul_add]
      omega
theorem sumG : ∀ n r, r < 2 ^ n → gl (fun t acc => acc + gB n (r - t)) r (r + 1) r 0 = hB n r
  | 0, r, h => by
    obtain rfl : r = 0 := by simpa using h
    rfl
  | n + 1, r, h => by
    have e : 2 ^ (n + 1) = 2 ^ n + 2 ^ n := by rw [Nat.pow_succ]; omega
    by_cases hr : r < 2 ^ n
    · rw [hB, if_pos hr, ← sumG n r hr]
      refine gl_congr (fun t acc ht => ?_) _ _ _ (Nat.and_self _)
      try dsimp only
      rw [gB_lo (by omega)]
    · obtain ⟨q, rfl⟩ : ∃ q, r = 2 ^ n + q := ⟨r - 2 ^ n, by omega⟩
      have hq : q < 2 ^ n := by omega
      have ih := sumG n q hq
      rw [hB, if_neg hr, show 2 ^ n + q - 2 ^ n = q by omega, gl_phase hq _ (q + 1) q 0 _ (by omega) (Nat.and_self _) (by omega)]
      have e1 : gl (fun u acc => acc + gB (n + 1) (2 ^ n + q - (2 ^ n + u))) q (q + 1) q 0 = hB n q := by
        rw [← ih]
        refine gl_congr (fun t acc ht => ?_) _ _ _ (Nat.and_self _)
        have := part_le ht
        try dsimp only
        rw [show 2 ^ n + q - (2 ^ n + t) = q - t by omega, gB_lo (by omega)]
      have e2 : ∀ a, gl (fun t acc => acc + gB (n + 1) (2 ^ n + q - t)) q (q + 1) q a = gl (fun t acc => acc + 6 * gB n (q - t)) q (q + 1) q a := fun a => by
        refine gl_congr (fun t acc ht => ?_) _ _ _ (Nat.and_self _)
        have := part_le ht
        try dsimp only
        rw [show 2 ^ n + q - t = 2 ^ n + (q - t) by omega, gB_hi]
      rw [e1, e2, gl_lin 6 (fun t => gB n (q - t)), ih]
      omega
theorem powers : ∀ n s, 0 < s → s < 2 ^ n → ∃ b, b < n ∧ gB n s = 6 ^ (b + 1) ∧ hB n (restN s) = 7 ^ b
  | 0, s, h0, h => by rw [Nat.pow_zero] at h; omega
  | n + 1, s, h0, h => by
    have e : 2 ^ (n + 1) = 2 ^ n + 2 ^ n := by rw [Nat.pow_succ]; omega
    by_cases hs : s < 2 ^ n
    · obtain ⟨b, hb, h1, h2⟩ := powers n s h0 hs
      have hr := rest_lt h0
      exact ⟨b, by omega, by rw [gB_lo hs, h1], by rw [hB, if_pos (by omega), h2]⟩
    · obtain ⟨q, rfl⟩ : ∃ q, s = 2 ^ n + q := ⟨s - 2 ^ n, by omega⟩
      by_cases hq : q = 0
      · subst hq
        exact ⟨0, by omega, by rw [gB_hi, gB_zero]; rfl, by rw [show 2 ^ n + 0 = 2 ^ n from rfl, rest_top, hB_zero]; rfl⟩
      · obtain ⟨b, hb, h1, h2⟩ := powers n q (by omega) (by omega)
        refine ⟨b + 1, by omega, by rw [gB_hi, h1, Int.pow_succ 6 (b + 1)]; omega, ?_⟩
        rw [rest_hi (by omega) (by omega), hB, if_neg (by omega), show 2 ^ n + restN q - 2 ^ n = restN q by omega, h2, Int.pow_succ]
        omega
theorem seven_six : ∀ b : Fin 12, (7 : Int) ^ b.val ≤ 6 ^ (b.val + 1) ∧ (6 : Int) ^ (b.val + 1) ≤ 4611686018427387904 := by decide
theorem h_le_g {n s : Nat} (hn : n ≤ 12) (h0 : 0 < s) (h : s < 2 ^ n) : hB n (restN s) ≤ gB n s ∧ gB n s ≤ 4611686018427387904 := by
  obtain ⟨b, hb, h1, h2⟩ := powers n s h0 h
  have := seven_six ⟨b, by omega⟩
  rw [h1, h2]
  exact this
/-- A step that adds, and the same step as the machine does it. -/
theorem gl_unwrap {r : Nat} {fit : Nat → Bool} {V : Nat → Int} {F : Nat → Int} (hV : ∀ t, t &&& r = t → 0 ≤ V t ∧ V t ≤ F t) : ∀ (k t : Nat) (a b : Int), t &&& r = t → 0 ≤ a → a ≤ b → gl (fun t acc => acc + F t) r k t b ≤ 4611686018427387904 →
    gl (fun t acc => if fit t = true then wrap64 (acc + V t) else acc) r k t a = gl (fun t acc => if fit t = true then acc + V t else acc) r k t a ∧ 0 ≤ gl (fun t acc => if fit t = true then acc + V t else acc) r k t a ∧ gl (fun t acc => if fit t = true then acc + V t else acc) r k t a ≤ gl (fun t acc => acc + F t) r k t b ∧ b ≤ gl (fun t acc => acc + F t) r k t b
  | 0, t, a, b, ht, h0, hab, hB => ⟨rfl, h0, hab, Int.le_refl _⟩
  | k + 1, t, a, b, ht, h0, hab, hB => by
    have hv := hV t ht
    have e1 : gl (fun t acc => acc + F t) r (k + 1) t b = if t = 0 then b + F t else gl (fun t acc => acc + F t) r k ((t - 1) &&& r) (b + F t) := by rw [gl]
    have e2 : gl (fun t acc => if fit t = true then wrap64 (acc + V t) else acc) r (k + 1) t a = if t = 0 then (if fit t = true then wrap64 (a + V t) else a) else gl (fun t acc => if fit t = true then wrap64 (acc + V t) else acc) r k ((t - 1) &&& r) (if fit t = true then wrap64 (a + V t) else a) := by rw [gl]
    have e3 : gl (fun t acc => if fit t = true then acc + V t else acc) r (k + 1) t a = if t = 0 then (if fit t = true then a + V t else a) else gl (fun t acc => if fit t = true then acc + V t else acc) r k ((t - 1) &&& r) (if fit t = true then a + V t else a) := by rw [gl]
    rw [e1] at hB
    rw [e1, e2, e3]
    by_cases e : t = 0
    · rw [if_pos e] at hB
      rw [if_pos e, if_pos e, if_pos e]
      by_cases hf : fit t = true
      · rw [if_pos hf, if_pos hf]
        have : wrap64 (a + V t) = a + V t := by unfold wrap64; omega
        rw [this]
        exact ⟨rfl, by omega, by omega, by omega⟩
      · rw [if_neg hf, if_neg hf]
        exact ⟨rfl, by omega, by omega, by omega⟩
    · rw [if_neg e] at hB
      rw [if_neg e, if_neg e, if_neg e]
      have hmon : b + F t ≤ gl (fun t acc => acc + F t) r k ((t - 1) &&& r) (b + F t) := (gl_unwrap (fit := fit) hV k ((t - 1) &&& r) 0 (b + F t) (part_next t r) (Int.le_refl _) (by omega) hB).2.2.2
      by_cases hf : fit t = true
      · rw [if_pos hf, if_pos hf]
        have hw : wrap64 (a + V t) = a + V t := by unfold wrap64; omega
        rw [hw]
        obtain ⟨h1, h2, h3, h4⟩ := gl_unwrap (fit := fit) hV k ((t - 1) &&& r) (a + V t) (b + F t) (part_next t r) (by omega) (by omega) hB
        exact ⟨h1, h2, h3, by omega⟩
      · rw [if_neg hf, if_neg hf]
        obtain ⟨h1, h2, h3, h4⟩ := gl_unwrap (fit := fit) hV k ((t - 1) &&& r) a (b + F t) (part_next t r) h0 (by omega) hB
        exact ⟨h1, h2, h3, by omega⟩
theorem gl_mono {r : Nat} {f g : Nat → Int → Int} (h : ∀ t a b, t &&& r = t → a ≤ b → f t a ≤ g t b) : ∀ (k t : Nat) (a b : Int), t &&& r = t → a ≤ b → gl f r k t a ≤ gl g r k t b
  | 0, _, _, _, _, hab => hab
  | k + 1, t, a, b, ht, hab => by
    rw [gl, gl]
    split
    · exact h t a b ht hab
    · exact gl_mono h k _ _ _ (part_next t r) (h t a b ht hab)
/-- The numbers of packings are small, so that no sum runs over. -/
theorem way_small (fit : Nat → Bool) {n : Nat} (hn : n ≤ 12) : ∀ N s, s < N → s < 2 ^ n → 0 ≤ wayN fit s ∧ wayN fit s ≤ gB n s ∧
    (0 < s → wayN fit s = gl (fun t acc => if fit (t + lowN s) = true then acc + wayN fit (restN s - t) else acc) (restN s) (restN s + 1) (restN s) 0)
  | 0, _, h, _ => by omega
  | N + 1, s, h, hs => by
    by_cases e : s = 0
    · subst e
      rw [wayN_zero, gB_zero]
      exact ⟨by decide, by decide, fun h => absurd h (by decide)⟩
    · have hr := rest_lt (s := s) (by omega)
      have hb := h_le_g hn (by omega) hs
      have hu := gl_unwrap (r := restN s) (fit := fun t => fit (t + lowN s)) (V := fun t => wayN fit (restN s - t)) (F := fun t => gB n (restN s - t)) (fun t ht => by
        have h1 := way_small fit hn N (restN s - t) (by omega) (by omega)
        exact ⟨h1.1, h1.2.1⟩) (restN s + 1) (restN s) 0 0 (Nat.and_self _) (Int.le_refl _) (Int.le_refl _) (by rw [sumG n (restN s) (by omega)]; omega)
      rw [sumG n (restN s) (by omega)] at hu
      rw [wayN_rec fit (by omega), wloop_gl]
      obtain ⟨u1, u2, u3, _⟩ := hu
      rw [u1]
      exact ⟨u2, by omega, fun _ => rfl⟩
/-- A further piece makes no fewer right packings. -/
theorem ways_more {n : Nat} (hn : n ≤ 11) (fit fit' : Nat → Bool) (h1 : ∀ x, x < 2 ^ n → fit' x = fit x) (h2 : fit' (2 ^ n) = true) : ∀ N s, s < N → s < 2 ^ n → wayN fit s ≤ wayN fit' (2 ^ n + s)
  | 0, _, h, _ => by omega
  | N + 1, s, h, hs => by
    have hp : 0 < 2 ^ n := Nat.pow_pos (by decide)
    have hpp : 2 ^ (n + 1) = 2 ^ n + 2 ^ n := by rw [Nat.pow_succ]; omega
    by_cases e : s = 0
    · subst e
      rw [Nat.add_zero, wayN_rec fit' hp, low_top, rest_top, wloop, if_pos rfl, Nat.zero_add, if_pos h2, Nat.sub_zero, wayN_zero, wayN_zero]
      unfold wrap64
      decide
    · have hla := low_add s
      have hr := rest_lt (s := s) (by omega)
      rw [(way_small fit (n := n) (by omega) (s + 1) s (by omega) hs).2.2 (by omega), (way_small fit' (n := n + 1) (by omega) (2 ^ n + s + 1) (2 ^ n + s) (by omega) (by omega)).2.2 (by omega), low_hi (by omega) hs, rest_hi (by omega) hs,
        gl_phase (r := restN s) (by omega) _ (restN s + 1) (restN s) 0 _ (by omega) (Nat.and_self _) (by omega)]
      refine gl_mono (fun t a b ht hab => ?_) _ _ _ _ (Nat.and_self _) ?_
      · have := part_le ht
        have ih := ways_more hn fit fit' h1 h2 N (restN s - t) (by omega) (by omega)
        try dsimp only
        rw [h1 _ (by omega), show 2 ^ n + restN s - t = 2 ^ n + (restN s - t) by omega]
        split <;> omega
      · have h0 : gl (fun _ acc => acc) (restN s) (restN s + 1) (restN s) (0 : Int) = 0 := gl_id (fun _ _ _ => rfl) _ _ _ (Nat.and_self _)
        rw [← h0]
        refine gl_mono (fun t a b ht hab => ?_) _ _ _ _ (Nat.and_self _) (by rw [h0]; exact Int.le_refl _)
        have := part_le ht
        have hv := (way_small fit' (n := n + 1) (by omega) (2 ^ n + restN s - (2 ^ n + t) + 1) (2 ^ n + restN s - (2 ^ n + t)) (by omega) (by omega)).1
        try dsimp only
        split <;> omega

end Go.Proofs.Ytoecbchfdgbliaa.Math
