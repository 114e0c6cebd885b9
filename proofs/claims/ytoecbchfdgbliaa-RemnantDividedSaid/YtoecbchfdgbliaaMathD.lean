-- Plain lemmas: Split and Rest find what the reference finds.
import Derived.Test.YtoecbchfdgbliaaMathC
namespace Go.Proofs.Ytoecbchfdgbliaa.Math
open Go.RowKit Go.Proofs.Ytoecbchfdgbliaa.P Go.Proofs.YtoecbchfdgbliaaW.PrintWords Go.Proofs.YtoecbchfdgbliaaW.PrintLast Go.Proofs.YtoecbchfdgbliaaW.PrintMore Hand

theorem in_sets {n : Nat} {L : List Int} (h : L ∈ setsF n) : (∀ i ∈ L, 0 ≤ i ∧ i < (n : Int)) ∧ L.length ≤ n ∧ ∃ m, m < 2 ^ n ∧ L = bitsL n 0 m := by
  rw [sets_eq] at h
  obtain ⟨m, hm, rfl⟩ := (mem_subs n 0 L).1 h
  refine ⟨fun i hi => ?_, bitsL_length _ _ _, m, hm, rfl⟩
  have := bitsL_in n 0 m i hi
  push_cast at this
  omega
theorem bits_mem {n m : Nat} (hm : m < 2 ^ n) : bitsL n 0 m ∈ setsF n := by
  rw [sets_eq]; exact (mem_subs n 0 _).2 ⟨m, hm, rfl⟩
theorem foldl_same {σ β : Type} {f g : σ → β → σ} : ∀ (xs : List β) (s : σ), (∀ s, ∀ x ∈ xs, f s x = g s x) → xs.foldl f s = xs.foldl g s
  | [], _, _ => rfl
  | x :: xs, s, h => by
    rw [List.foldl_cons, List.foldl_cons, h s x List.mem_cons_self]
    exact foldl_same xs _ (fun s y hy => h s y (List.mem_cons_of_mem _ hy))

theorem bitsL_full : ∀ (d f : Nat), bitsL d f (2 ^ d - 1) = (List.range' f d).map fun (i : Nat) => (i : Int)
  | 0, _ => rfl
  | d + 1, f => by
    have hp : 2 ^ (d + 1) = 2 * 2 ^ d := by rw [Nat.pow_succ]; omega
    have h1 : 0 < 2 ^ d := Nat.pow_pos (by decide)
    rw [bitsL, if_pos (by omega), show (2 ^ (d + 1) - 1) / 2 = 2 ^ d - 1 by omega, bitsL_full d (f + 1), List.range'_succ]
    rfl
theorem full_places (n : Nat) : bitsL n 0 (2 ^ n - 1) = places n := by
  rw [bitsL_full, places, List.range_eq_range']

theorem absF_in {d : Int} (h0 : -1000000 ≤ d) (h1 : d ≤ 1000000) : absF d = if d < 0 then -d else d := by
  unfold absF
  rw [wrap_in (n := -d) (by omega) (by omega)]
  split <;> split <;> omega

/-! ### Split -/
def CS (n : Nat) (L : List Int) : Prop := L ∈ setsF n ∧ ¬ (0 < n ∧ (L = [] ∨ rd L 0 ≠ 0))
instance (n : Nat) : DecidablePred (CS n) := fun L => inferInstanceAs (Decidable (L ∈ setsF n ∧ ¬ (0 < n ∧ (L = [] ∨ rd L 0 ≠ 0))))
def dS (l : List Int) (L : List Int) : Int := absF (wrap64 (wrap64 (2 * sumL l L) - sumL l (places l.length)))
theorem places_sum {l : List Int} (h : Small l) : 0 ≤ sumL l (places l.length) ∧ sumL l (places l.length) ≤ 1200 := by
  have := sumL_in h (places l.length) (fun i hi => places_in i hi)
  rw [places_length] at this
  have := h.1
  omega
theorem dS_eq {l : List Int} (h : Small l) {L : List Int} (hL : L ∈ setsF l.length) :
    (0 ≤ sumL l L ∧ sumL l L ≤ 1200) ∧ dS l L = if 2 * sumL l L - sumL l (places l.length) < 0 then -(2 * sumL l L - sumL l (places l.length)) else 2 * sumL l L - sumL l (places l.length) := by
  obtain ⟨hi, hl, _⟩ := in_sets hL
  have h1 := sumL_in h L hi
  have h2 := places_sum h
  have := h.1
  refine ⟨by omega, ?_⟩
  rw [dS, wrap_in (n := 2 * sumL l L) (by omega) (by omega), wrap_in (by omega) (by omega), absF_in (by omega) (by omega)]
theorem dS_nonneg {l : List Int} (h : Small l) {L : List Int} (hL : L ∈ setsF l.length) : 0 ≤ dS l L := by
  rw [(dS_eq h hL).2]; split <;> omega
theorem step_split {l : List Int} (h : Small l) (st : List Int × Int) (L : List Int) (hL : L ∈ setsF l.length) : splitStep l (sumF l (places l.length)) st L = takeOne (CS l.length) (dS l) st L := by
  obtain ⟨h1, h2, _⟩ := in_sets hL
  have := h.1
  rw [splitStep, takeOne, sumF_eq h L h1 (by omega), sumF_eq h (places l.length) (fun i hi => places_in i hi) (by rw [places_length]; omega)]
  by_cases hc : 0 < l.length ∧ (L = [] ∨ rd L 0 ≠ 0)
  · rw [if_pos hc, if_neg (fun k => k.1.2 hc)]
  · rw [if_neg hc]
    show (if st.2 < 0 ∨ dS l L < st.2 then (L, dS l L) else st) = _
    by_cases hs : st.2 < 0 ∨ dS l L < st.2
    · rw [if_pos hs, if_pos ⟨⟨hL, hc⟩, hs⟩]
    · rw [if_neg hs, if_neg (fun k => hs k.2)]
theorem best_of_inv {C : List Int → Prop} {d : List Int → Int} {xs : List (List Int)} {st : List Int × Int} (h : Inv C d xs st) (hex : ∃ y ∈ xs, C y) (hC : ∀ y, C y → y ∈ xs) : ∃ x, st = (x, d x) ∧ Best C d x := by
  rcases h with ⟨_, h⟩ | ⟨x, hx, hc, e, hb⟩
  · obtain ⟨y, hy, hcy⟩ := hex; exact absurd hcy (h y hy)
  · exact ⟨x, e, hc, fun y hy => hb y (hC y hy) hy⟩
theorem sorted_sets (n : Nat) : List.Pairwise (fun a b => lexB a b = true) (setsF n) := by rw [sets_eq]; exact sorted_subs n 0
theorem split_go {l : List Int} (h : Small l) : ∃ x, (setsF l.length).foldl (splitStep l (sumF l (places l.length))) ([], -1) = (x, dS l x) ∧ Best (CS l.length) (dS l) x := by
  rw [foldl_same _ _ (fun st L hL => step_split h st L hL)]
  refine best_of_inv (by simpa using Inv.all (fun x hx => dS_nonneg h hx.1) (setsF l.length) [] ([], -1) (by simpa using sorted_sets l.length) (.inl ⟨rfl, by simp⟩)) ?_ (fun y hy => hy.1)
  cases hn : l.length with
  | zero =>
    have hm : ([] : List Int) ∈ setsF 0 := by rw [sets_eq]; exact List.mem_cons_self
    exact ⟨[], hm, hm, fun k => absurd k.1 (by omega)⟩
  | succ n =>
    have hm : bitsL (n + 1) 0 1 ∈ setsF (n + 1) := bits_mem (by have := Nat.one_lt_two_pow (n := n + 1) (by omega); omega)
    refine ⟨_, hm, hm, fun k => ?_⟩
    rw [bitsL, if_pos (by decide)] at k
    rcases k.2 with k | k
    · cases k
    · exact k rfl

/-- A set holds the position 0 if its number is odd. -/
theorem CS_odd {n m : Nat} (hn : 0 < n) (hm : m < 2 ^ n) : CS n (bitsL n 0 m) ↔ m % 2 = 1 := by
  obtain ⟨n, rfl⟩ : ∃ n', n = n' + 1 := ⟨n - 1, by omega⟩
  constructor
  · intro hc
    have h2 := hc.2
    by_cases ho : m % 2 = 1
    · exact ho
    · exfalso
      apply h2
      refine ⟨by omega, ?_⟩
      rw [bitsL, if_neg ho]
      cases e : bitsL n (0 + 1) (m / 2) with
      | nil => exact .inl rfl
      | cons x t =>
        right
        have := bitsL_in n (0 + 1) (m / 2) x (by rw [e]; exact List.mem_cons_self)
        show x ≠ 0
        push_cast at this
        omega
  · intro ho
    refine ⟨bits_mem hm, fun k => ?_⟩
    rw [bitsL, if_pos ho] at k
    rcases k.2 with k | k
    · cases k
    · exact k rfl

/-- The reference's best number so far. -/
def RefI (l : List Int) (i b : Nat) : Prop := b < 2 ^ l.length ∧ b % 2 = 1 ∧ ∀ i', i' < i → dS l (bitsL l.length 0 b) < dS l (bitsL l.length 0 (2 * i' + 1)) ∨ (dS l (bitsL l.length 0 b) = dS l (bitsL l.length 0 (2 * i' + 1)) ∧ (bitsL l.length 0 (2 * i' + 1) = bitsL l.length 0 b ∨ lexB (bitsL l.length 0 b) (bitsL l.length 0 (2 * i' + 1)) = true))
theorem mx_abs (y : Int) : mx y (wrap64 (-y)) = absF y := rfl
theorem ref_split {l : List Int} (h : Small l) (hn : 0 < l.length) : ∀ (t i b : Nat), 2 * (i + t) = 2 ^ l.length → RefI l i b →
    ∃ b', RefI l (i + t) b' ∧ ∀ k, t + 100 < k → galloonref09_Split.l0 k l (sumL l (places l.length)) (b : Int) (dS l (bitsL l.length 0 b)) ((2 * i + 1 : Nat) : Int) = some (bitsL l.length 0 b', dS l (bitsL l.length 0 b')) := by
  have h12 := h.1
  have hpow : 2 ^ l.length ≤ 4096 := Nat.le_trans (Nat.pow_le_pow_right (by decide) h12) (by decide)
  intro t
  induction t with
  | zero =>
    intro i b hi hb
    refine ⟨b, hb, fun k hk => ?_⟩
    obtain ⟨k, rfl⟩ : ∃ k', k = k' + 1 := ⟨k - 1, by omega⟩
    rw [galloonref09_Split.l0, shl_nat l.length (by omega), if_neg (by omega), list_eq l.length b (by omega) hb.1 k (by omega)]
    rfl
  | succ t ih =>
    intro i b hi hb
    have hlt : 2 * i + 1 < 2 ^ l.length := by omega
    -- the better one of both
    have step : ∀ b2 : Nat, RefI l (i + 1) b2 → (∀ k, t + 101 < k + 1 → galloonref09_Split.l0 (k + 1) l (sumL l (places l.length)) (b : Int) (dS l (bitsL l.length 0 b)) ((2 * i + 1 : Nat) : Int) = galloonref09_Split.l0 k l (sumL l (places l.length)) (b2 : Int) (dS l (bitsL l.length 0 b2)) ((2 * (i + 1) + 1 : Nat) : Int)) →
        ∃ b', RefI l (i + (t + 1)) b' ∧ ∀ k, t + 1 + 100 < k → galloonref09_Split.l0 k l (sumL l (places l.length)) (b : Int) (dS l (bitsL l.length 0 b)) ((2 * i + 1 : Nat) : Int) = some (bitsL l.length 0 b', dS l (bitsL l.length 0 b')) := by
      intro b2 hb2 hs
      obtain ⟨b', hb', hk'⟩ := ih (i + 1) b2 (by omega) hb2
      refine ⟨b', by rw [show i + (t + 1) = i + 1 + t by omega]; exact hb', fun k hk => ?_⟩
      obtain ⟨k, rfl⟩ : ∃ k', k = k' + 1 := ⟨k - 1, by omega⟩
      rw [hs k (by omega), hk' k (by omega)]
    have hw : wrap64 (((2 * i + 1 : Nat) : Int) + 2) = ((2 * (i + 1) + 1 : Nat) : Int) := by rw [wrap_in (by omega) (by omega)]; push_cast; omega
    have hdx : absF (wrap64 (wrap64 (2 * sumL l (bitsL l.length 0 (2 * i + 1))) - sumL l (places l.length))) = dS l (bitsL l.length 0 (2 * i + 1)) := rfl
    have hlen := bitsL_length l.length 0 (2 * i + 1)
    by_cases c1 : dS l (bitsL l.length 0 (2 * i + 1)) < dS l (bitsL l.length 0 b)
    · refine step (2 * i + 1) ⟨hlt, by omega, fun i' hi' => ?_⟩ (fun k hk => ?_)
      · rcases Nat.lt_or_eq_of_le (Nat.lt_succ_iff.1 hi') with hi' | rfl
        · rcases hb.2.2 i' hi' with h' | ⟨h', _⟩ <;> exact .inl (by omega)
        · exact .inr ⟨rfl, .inl rfl⟩
      · rw [galloonref09_Split.l0, shl_nat l.length (by omega), if_pos (by omega), size_eq h _ k (by omega)]
        simp only [Option.bind_some, mx_abs, hdx]
        rw [if_pos c1, hw]
    · by_cases c2 : dS l (bitsL l.length 0 (2 * i + 1)) = dS l (bitsL l.length 0 b)
      · by_cases c3 : lexB (bitsL l.length 0 (2 * i + 1)) (bitsL l.length 0 b) = true
        · refine step (2 * i + 1) ⟨hlt, by omega, fun i' hi' => ?_⟩ (fun k hk => ?_)
          · rcases Nat.lt_or_eq_of_le (Nat.lt_succ_iff.1 hi') with hi' | rfl
            · rcases hb.2.2 i' hi' with h' | ⟨h', h''⟩
              · exact .inl (by omega)
              · refine .inr ⟨by omega, .inr ?_⟩
                rcases h'' with h'' | h''
                · rw [h'']; exact c3
                · exact lexB_trans c3 h''
            · exact .inr ⟨rfl, .inl rfl⟩
          · rw [galloonref09_Split.l0, shl_nat l.length (by omega), if_pos (by omega), size_eq h _ k (by omega)]
            simp only [Option.bind_some, mx_abs, hdx]
            rw [if_neg c1, if_pos c2, list_eq l.length _ (by omega) hlt k (by omega), list_eq l.length b (by omega) hb.1 k (by omega)]
            simp only [Option.bind_some]
            rw [before_eq _ _ (by omega) k (by omega)]
            simp only [Option.bind_some, c3, if_true]
            rw [hw]
        · refine step b ⟨hb.1, hb.2.1, fun i' hi' => ?_⟩ (fun k hk => ?_)
          · rcases Nat.lt_or_eq_of_le (Nat.lt_succ_iff.1 hi') with hi' | rfl
            · exact hb.2.2 i' hi'
            · rcases lexB_total (bitsL l.length 0 (2 * i' + 1)) (bitsL l.length 0 b) with e | e | e
              · exact .inr ⟨c2.symm, .inl e⟩
              · exact absurd e c3
              · exact .inr ⟨c2.symm, .inr e⟩
          · rw [galloonref09_Split.l0, shl_nat l.length (by omega), if_pos (by omega), size_eq h _ k (by omega)]
            simp only [Option.bind_some, mx_abs, hdx]
            rw [if_neg c1, if_pos c2, list_eq l.length _ (by omega) hlt k (by omega), list_eq l.length b (by omega) hb.1 k (by omega)]
            simp only [Option.bind_some]
            rw [before_eq _ _ (by omega) k (by omega)]
            simp only [Option.bind_some]
            rw [if_neg c3, hw]
      · refine step b ⟨hb.1, hb.2.1, fun i' hi' => ?_⟩ (fun k hk => ?_)
        · rcases Nat.lt_or_eq_of_le (Nat.lt_succ_iff.1 hi') with hi' | rfl
          · exact hb.2.2 i' hi'
          · exact .inl (by omega)
        · rw [galloonref09_Split.l0, shl_nat l.length (by omega), if_pos (by omega), size_eq h _ k (by omega)]
          simp only [Option.bind_some, mx_abs, hdx]
          rw [if_neg c1, if_neg c2, hw]
/-- Split's answer is the reference's. -/
theorem split_ref {l : List Int} (h : Small l) (k : Nat) (hk : 3000 < k) : galloonref09_Split.f k l = some ((setsF l.length).foldl (splitStep l (sumF l (places l.length))) ([], -1)) := by
  have h12 := h.1
  have hpow : 2 ^ l.length ≤ 4096 := Nat.le_trans (Nat.pow_le_pow_right (by decide) h12) (by decide)
  obtain ⟨x, hx, hbx⟩ := split_go h
  rw [hx]
  by_cases hn : l.length = 0
  · have e : l = [] := List.eq_nil_of_length_eq_zero hn
    subst e
    have e : (setsF ([] : List Int).length).foldl (splitStep [] (sumF [] (places ([] : List Int).length))) ([], -1) = ([], 0) := by decide +kernel
    rw [← hx, e]
    rfl
  · have hn : 0 < l.length := by omega
    obtain ⟨n, hnn⟩ : ∃ n, l.length = n + 1 := ⟨l.length - 1, by omega⟩
    have hp : 2 ^ l.length = 2 * 2 ^ n := by rw [hnn, Nat.pow_succ]; omega
    have h1 : 0 < 2 ^ n := Nat.pow_pos (by decide)
    have hm1 : bitsL l.length 0 1 ∈ setsF l.length := bits_mem (by omega)
    -- the first number
    have hI : RefI l 1 1 := ⟨by omega, by decide, fun i' hi' => by
      obtain rfl : i' = 0 := by omega
      exact .inr ⟨rfl, .inl rfl⟩⟩
    obtain ⟨b', hb', hk'⟩ := ref_split h hn (2 ^ n - 1) 1 1 (by omega) hI
    obtain ⟨k, rfl⟩ : ∃ k', k = k' + 1 := ⟨k - 1, by omega⟩
    have hall : galloonref09_Split.f (k + 1) l = galloonref09_Split.l0 (k + 1) l (sumL l (places l.length)) 1 (wrap64 (sumL l (places l.length) + 1)) 1 := by
      unfold galloonref09_Split.f
      rw [if_neg (by omega), shl_nat l.length (by omega), wrap_in (by omega) (by omega), show (((2 ^ l.length : Nat) : Int) - 1) = ((2 ^ l.length - 1 : Nat) : Int) by omega, size_eq h _ (k + 1) (by omega), full_places]
      rfl
    have hs := dS_eq h hm1
    have hps := places_sum h
    have h1x : bitsL l.length 0 1 = [0] := by rw [hnn, bitsL, if_pos (by decide), bitsL_zero]; rfl
    have hle : sumL l (bitsL l.length 0 1) ≤ sumL l (places l.length) := by
      rw [h1x, sumL_cons]
      have e : places l.length = 0 :: (places l.length).drop 1 := by
        rw [hnn, places, List.range_succ_eq_map]; rfl
      rw [e, sumL_cons]
      have := sumL_in h ((places l.length).drop 1) (fun i hi => places_in i (List.mem_of_mem_drop hi))
      simp only [sumL, List.map_nil, List.sum_nil]
      simp only [sumL] at this
      omega
    have hpos : 1 ≤ sumL l (bitsL l.length 0 1) := by
      rw [h1x, sumL_cons]
      have := small_rd h 0 (by decide) (by omega)
      simp only [sumL, List.map_nil, List.sum_nil]
      omega
    have hlt1 : dS l (bitsL l.length 0 1) < sumL l (places l.length) + 1 := by rw [hs.2]; split <;> omega
    rw [hall, galloonref09_Split.l0, shl_nat l.length (by omega), if_pos (by omega), show (1 : Int) = ((1 : Nat) : Int) from rfl, size_eq h 1 k (by omega)]
    have hdx1 : absF (wrap64 (wrap64 (2 * sumL l (bitsL l.length 0 1)) - sumL l (places l.length))) = dS l (bitsL l.length 0 1) := rfl
    have hwa : wrap64 (sumL l (places l.length) + ((1 : Nat) : Int)) = sumL l (places l.length) + 1 := by rw [wrap_in (by omega) (by omega)]; rfl
    have hw3 : wrap64 (((1 : Nat) : Int) + 2) = ((2 * 1 + 1 : Nat) : Int) := by rw [wrap_in (by decide) (by decide)]; rfl
    simp only [Option.bind_some, mx_abs, hdx1, hwa, hw3]
    rw [if_pos hlt1, hk' k (by omega)]
    have e : x = bitsL l.length 0 b' := by
      refine hbx.unique ⟨(CS_odd hn hb'.1).2 hb'.2.1, fun y hy => ?_⟩
      obtain ⟨_, _, m, hm, rfl⟩ := in_sets hy.1
      have ho := (CS_odd hn hm).1 hy
      have := hb'.2.2 (m / 2) (by omega)
      rwa [show 2 * (m / 2) + 1 = m by omega] at this
    rw [e]

end Go.Proofs.Ytoecbchfdgbliaa.Math
