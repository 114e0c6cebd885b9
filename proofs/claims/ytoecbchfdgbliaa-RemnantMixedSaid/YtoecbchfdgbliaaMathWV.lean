-- Plain lemmas: the number of right packings of sets is that of their lists.
import Derived.Test.YtoecbchfdgbliaaMathZ
import Derived.Test.YtoecbchfdgbliaaMathPM
namespace Go.Proofs.Ytoecbchfdgbliaa.Math
open Go.RowKit Go.Proofs.YtoecbchfdgbliaaW.PrintWords Go.Proofs.YtoecbchfdgbliaaW.PrintLast Go.Proofs.YtoecbchfdgbliaaW.PrintMore
open Go.Proofs.Ytoecbchfdgbliaa.Hand hiding wrap_in look
set_option linter.unusedVariables false


theorem bit_hi' {n s i : Nat} (hi : i < n) : ((2 ^ n + s) / 2 ^ i) % 2 = (s / 2 ^ i) % 2 := by
  obtain ⟨k, rfl⟩ : ∃ k, n = i + 1 + k := ⟨n - i - 1, by omega⟩
  have e : 2 ^ (i + 1 + k) = 2 ^ i * (2 * 2 ^ k) := by rw [Nat.pow_add, Nat.pow_succ, Nat.mul_assoc]
  rw [e, Nat.mul_add_div (Nat.pow_pos (by decide))]
  omega
theorem bit_top {n s : Nat} (hs : s < 2 ^ n) : ((2 ^ n + s) / 2 ^ n) % 2 = 1 := by
  have hp : 0 < 2 ^ n := Nat.pow_pos (by decide)
  have := Nat.mul_add_div (m := 2 ^ n) hp 1 s
  rw [Nat.mul_one, Nat.div_eq_of_lt hs] at this
  rw [this]
/-- The sizes of a set's pieces among the first ones. -/
def lstN (l : List Int) (s : Nat) : Nat → List Int
  | 0 => []
  | m + 1 => lstN l s m ++ (if (s / 2 ^ m) % 2 = 1 then [rd l (m : Int)] else [])
theorem sz_lo {l : List Int} {n t : Nat} (h : t < 2 ^ n) : szN l t (n + 1) = szN l t n := by rw [szN, Nat.div_eq_of_lt h, if_neg (by decide), Int.add_zero]
theorem ls_lo {l : List Int} {n t : Nat} (h : t < 2 ^ n) : lstN l t (n + 1) = lstN l t n := by rw [lstN, Nat.div_eq_of_lt h, if_neg (by decide), List.append_nil]
theorem sz_below (l : List Int) {n t : Nat} : ∀ m, m ≤ n → szN l (2 ^ n + t) m = szN l t m
  | 0, _ => rfl
  | m + 1, h => by rw [szN, szN, sz_below l m (by omega), bit_hi' (by omega)]
theorem ls_below (l : List Int) {n t : Nat} : ∀ m, m ≤ n → lstN l (2 ^ n + t) m = lstN l t m
  | 0, _ => rfl
  | m + 1, h => by rw [lstN, lstN, ls_below l m (by omega), bit_hi' (by omega)]
theorem sz_hi {l : List Int} {n t : Nat} (h : t < 2 ^ n) : szN l (2 ^ n + t) (n + 1) = szN l t n + rd l (n : Int) := by rw [szN, sz_below l n (Nat.le_refl _), bit_top h, if_pos rfl]
theorem ls_hi {l : List Int} {n t : Nat} (h : t < 2 ^ n) : lstN l (2 ^ n + t) (n + 1) = lstN l t n ++ [rd l (n : Int)] := by rw [lstN, ls_below l n (Nat.le_refl _), bit_top h, if_pos rfl]
theorem ls_zero (l : List Int) : ∀ n, lstN l 0 n = []
  | 0 => rfl
  | n + 1 => by rw [ls_lo (Nat.pow_pos (by decide)), ls_zero l n]
theorem sz_zero (l : List Int) : ∀ n, szN l 0 n = 0
  | 0 => rfl
  | n + 1 => by rw [sz_lo (Nat.pow_pos (by decide)), sz_zero l n]
theorem gl_acc (F : Nat → Int) (r k t : Nat) (a : Int) : gl (fun t acc => acc + F t) r k t a = a + gl (fun t acc => acc + F t) r k t 0 := by
  have h := gl_lin 1 F r k t a
  simp only [Int.one_mul] at h
  exact h
/-- All parts of a set are the ways to take some of its list. -/
theorem gl_ss (l : List Int) : ∀ (n r : Nat) (F : Int → List Int → Int), r < 2 ^ n → gl (fun t acc => acc + F (szN l t n) (lstN l (r - t) n)) r (r + 1) r 0 = ss (lstN l r n) F
  | 0, r, F, h => by
    obtain rfl : r = 0 := by simpa using h
    exact Int.zero_add _
  | n + 1, r, F, h => by
    have e : 2 ^ (n + 1) = 2 ^ n + 2 ^ n := by rw [Nat.pow_succ]; omega
    by_cases hr : r < 2 ^ n
    · rw [ls_lo hr, ← gl_ss l n r F hr]
      refine gl_congr (fun t acc ht => ?_) _ _ _ (Nat.and_self _)
      have := part_le ht
      try dsimp only
      rw [sz_lo (by omega), ls_lo (by omega)]
    · obtain ⟨q, rfl⟩ : ∃ q, r = 2 ^ n + q := ⟨r - 2 ^ n, by omega⟩
      have hq : q < 2 ^ n := by omega
      rw [gl_phase hq _ (q + 1) q 0 _ (by omega) (Nat.and_self _) (by omega), ls_hi hq, ss_snoc, ← gl_ss l n q (fun s r => F (s + rd l (n : Int)) r) hq, ← gl_ss l n q (fun s r => F s (r ++ [rd l (n : Int)])) hq]
      have e1 : gl (fun u acc => acc + F (szN l (2 ^ n + u) (n + 1)) (lstN l (2 ^ n + q - (2 ^ n + u)) (n + 1))) q (q + 1) q 0 = gl (fun t acc => acc + F (szN l t n + rd l (n : Int)) (lstN l (q - t) n)) q (q + 1) q 0 := by
        refine gl_congr (fun t acc ht => ?_) _ _ _ (Nat.and_self _)
        have := part_le ht
        try dsimp only
        rw [show 2 ^ n + q - (2 ^ n + t) = q - t by omega, sz_hi (by omega), ls_lo (by omega)]
      have e2 : ∀ a, gl (fun t acc => acc + F (szN l t (n + 1)) (lstN l (2 ^ n + q - t) (n + 1))) q (q + 1) q a = gl (fun t acc => acc + F (szN l t n) (lstN l (q - t) n ++ [rd l (n : Int)])) q (q + 1) q a := fun a => by
        refine gl_congr (fun t acc ht => ?_) _ _ _ (Nat.and_self _)
        have := part_le ht
        try dsimp only
        rw [show 2 ^ n + q - t = 2 ^ n + (q - t) by omega, sz_lo (by omega), ls_hi (by omega)]
      rw [e2, gl_acc (fun t => F (szN l t n) (lstN l (q - t) n ++ [rd l (n : Int)])), e1]
/-- The first piece of a set. -/
theorem low_head (l : List Int) : ∀ n s, 0 < s → s < 2 ^ n → ∃ p, lstN l s n = p :: lstN l (restN s) n ∧ ∀ t, t &&& restN s = t → szN l (t + lowN s) n = p + szN l t n
  | 0, s, h0, h => by rw [Nat.pow_zero] at h; omega
  | n + 1, s, h0, h => by
    have e : 2 ^ (n + 1) = 2 ^ n + 2 ^ n := by rw [Nat.pow_succ]; omega
    by_cases hs : s < 2 ^ n
    · obtain ⟨p, h1, h2⟩ := low_head l n s h0 hs
      have hr := rest_lt h0
      have hla := low_add s
      refine ⟨p, by rw [ls_lo hs, ls_lo (by omega), h1], fun t ht => ?_⟩
      have := part_le ht
      rw [sz_lo (by omega), sz_lo (by omega), h2 t ht]
    · obtain ⟨q, rfl⟩ : ∃ q, s = 2 ^ n + q := ⟨s - 2 ^ n, by omega⟩
      have hq : q < 2 ^ n := by omega
      by_cases h0q : q = 0
      · subst h0q
        rw [Nat.add_zero, rest_top, low_top]
        refine ⟨rd l (n : Int), ?_, fun t ht => ?_⟩
        · have := ls_hi (l := l) (n := n) (t := 0) (Nat.pow_pos (by decide))
          rw [Nat.add_zero, ls_zero] at this
          rw [this, ls_zero]; rfl
        · obtain rfl : t = 0 := by have := part_le ht; omega
          have := sz_hi (l := l) (n := n) (t := 0) (Nat.pow_pos (by decide))
          rw [Nat.add_zero, sz_zero] at this
          rw [Nat.zero_add, this, sz_zero]; omega
      · obtain ⟨p, h1, h2⟩ := low_head l n q (by omega) hq
        have hr := rest_lt (s := q) (by omega)
        have hla := low_add q
        rw [rest_hi (by omega) hq, low_hi (by omega) hq]
        refine ⟨p, by rw [ls_hi hq, ls_hi (by omega), h1]; rfl, fun t ht => ?_⟩
        have htl := part_le ht
        by_cases htt : t < 2 ^ n
        · rw [and_lo htt (by omega)] at ht
          have := part_le ht
          rw [sz_lo (by omega), sz_lo (by omega), h2 t ht]
        · obtain ⟨u, rfl⟩ : ∃ u, t = 2 ^ n + u := ⟨t - 2 ^ n, by omega⟩
          rw [and_hi (by omega) (by omega)] at ht
          have hu : u &&& restN q = u := by omega
          have := part_le hu
          rw [show 2 ^ n + u + lowN q = 2 ^ n + (u + lowN q) by omega, sz_hi (by omega), sz_hi (by omega), h2 u hu]
          omega
/-- The number of right packings of a set is that of its list. -/
theorem way_V {room : Int} {l : List Int} (hn : l.length ≤ 12) : ∀ N s, s < N → s < 2 ^ l.length → wayN (fitN room l) s = V room N (lstN l s l.length)
  | 0, _, h, _ => by omega
  | N + 1, s, h, hs => by
    by_cases h0 : s = 0
    · subst h0
      rw [wayN_zero, ls_zero, V]
    · have hr := rest_lt (s := s) (by omega)
      obtain ⟨p, h1, h2⟩ := low_head l l.length s (by omega) hs
      rw [(way_small (fitN room l) hn (s + 1) s (by omega) hs).2.2 (by omega), h1, V, ← gl_ss l l.length (restN s) (fun s r => if p + s ≤ room then V room N r else 0) (by omega)]
      refine gl_congr (fun t acc ht => ?_) _ _ _ (Nat.and_self _)
      have := part_le ht
      try dsimp only
      rw [way_V hn N (restN s - t) (by omega) (by omega)]
      have e : (fitN room l (t + lowN s) = true) = (p + szN l t l.length ≤ room) := by
        unfold fitN
        rw [h2 t ht, decide_eq_true_eq]
      simp only [e]
      split
      · rfl
      · exact (Int.add_zero _).symm
theorem ls_all (l : List Int) : ∀ m, m ≤ l.length → lstN l (2 ^ l.length - 1) m = l.take m
  | 0, _ => rfl
  | m + 1, h => by
    have hb : ((2 ^ l.length - 1) / 2 ^ m) % 2 = 1 := by
      have := Nat.testBit_two_pow_sub_one l.length m
      rw [Nat.testBit_eq_decide_div_mod_eq] at this
      simpa [show m < l.length by omega] using this
    rw [lstN, ls_all l m (by omega), hb, if_pos rfl, List.take_add_one, List.getElem?_eq_getElem (by omega)]
    simp [rd, show m < l.length by omega]
theorem ways_perm {room : Int} {l o : List Int} (hn : l.length ≤ 12) (hp : l.Perm o) (hok : pieF room l = true) (hok2 : pieF room o = true) : waysF room l = waysF room o := by
  have hl := hp.length_eq
  have hpow : 0 < 2 ^ l.length := Nat.pow_pos (by decide)
  have e1 := way_V (room := room) hn (2 ^ l.length) (2 ^ l.length - 1) (by omega) (by omega)
  have e2 := way_V (room := room) (l := o) (by omega) (2 ^ o.length) (2 ^ o.length - 1) (by rw [← hl]; omega) (by rw [← hl]; omega)
  rw [ls_all l _ (Nat.le_refl _), List.take_length] at e1
  rw [ls_all o _ (Nat.le_refl _), List.take_length] at e2
  unfold waysF
  rw [if_pos hok, if_pos hok2, e1, e2, ← hl, V_perm room _ hp]

end Go.Proofs.Ytoecbchfdgbliaa.Math
