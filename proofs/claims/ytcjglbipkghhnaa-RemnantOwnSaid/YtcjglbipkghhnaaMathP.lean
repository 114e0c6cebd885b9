-- Plain lemmas: boxes that hold pieces: what fits, the table of the fewest boxes, the bound by weights.
import Derived.Test.YtcjglbipkghhnaaMathI
namespace Go.Proofs.Ytcjglbipkghhnaa.Math
open Go.RowKit Go.Proofs.YtcjglbipkghhnaaW.PrintWords Go.Proofs.YtcjglbipkghhnaaW.PrintLast Go.Proofs.YtcjglbipkghhnaaW.PrintMore
set_option linter.unusedVariables false

/-- What box b holds of the pieces of a set. -/
def sl (p : Nat → Int) (g : Nat → Nat) (b s n : Nat) : Int := ((List.range n).map fun i => if (s / 2 ^ i) % 2 = 1 ∧ g i = b then p i else 0).sum
theorem sum_nonneg : ∀ (r : List Nat) (f : Nat → Int), (∀ i ∈ r, 0 ≤ f i) → 0 ≤ (r.map f).sum
  | [], _, _ => by simp
  | a :: r, f, h => by
    rw [List.map_cons, List.sum_cons]
    have := h a List.mem_cons_self
    have := sum_nonneg r f fun i hi => h i (List.mem_cons_of_mem _ hi)
    omega
theorem sum_zero : ∀ (r : List Nat) (f : Nat → Int), (∀ i ∈ r, f i = 0) → (r.map f).sum = 0
  | [], _, _ => by simp
  | a :: r, f, h => by
    rw [List.map_cons, List.sum_cons, h a List.mem_cons_self, sum_zero r f fun i hi => h i (List.mem_cons_of_mem _ hi)]
    rfl
theorem sl_nonneg {p : Nat → Int} {n : Nat} (hp : ∀ i, i < n → 0 ≤ p i) (g : Nat → Nat) (b s : Nat) : 0 ≤ sl p g b s n :=
  sum_nonneg _ _ fun i hi => by
    have := hp i (List.mem_range.1 hi)
    try dsimp only
    split <;> omega
theorem sl_none {p : Nat → Int} {n : Nat} {g : Nat → Nat} {b s : Nat} (h : ∀ i, i < n → (s / 2 ^ i) % 2 = 1 → g i ≠ b) : sl p g b s n = 0 :=
  sum_zero _ _ fun i hi => by
    have := h i (List.mem_range.1 hi)
    exact if_neg fun k => this k.1 k.2
theorem sl_congr {p : Nat → Int} {n : Nat} {g g' : Nat → Nat} {b b' s : Nat} (h : ∀ i, i < n → (s / 2 ^ i) % 2 = 1 → (g i = b ↔ g' i = b')) : sl p g b s n = sl p g' b' s n := by
  unfold sl
  congr 1
  refine List.map_congr_left fun i hi => ?_
  have h1 := h i (List.mem_range.1 hi)
  by_cases hb : (s / 2 ^ i) % 2 = 1
  · have h2 := h1 hb
    by_cases h3 : g i = b
    · rw [if_pos ⟨hb, h3⟩, if_pos ⟨hb, h2.1 h3⟩]
    · rw [if_neg fun k => h3 k.2, if_neg fun k => h3 (h2.2 k.2)]
  · rw [if_neg fun k => hb k.1, if_neg fun k => hb k.1]
theorem sl_step {p : Nat → Int} {n : Nat} {g : Nat → Nat} {s i : Nat} (hi : i < n) (hb : (s / 2 ^ i) % 2 = 1) (b : Nat) : sl p g b s n = sl p g b (s - 2 ^ i) n + (if g i = b then p i else 0) := by
  refine sum_one _ List.nodup_range i (List.mem_range.2 hi) _ _ _ (fun j hj => ?_) ?_
  · have e1 := bit_sub (j := j) hb
    rw [if_neg hj] at e1
    rw [e1]
  · have e1 := bit_sub (j := i) hb
    rw [if_pos rfl] at e1
    rw [e1, if_neg (show ¬ (0 = 1 ∧ g i = b) from fun k => by cases k.1), Int.zero_add]
    by_cases h : g i = b
    · rw [if_pos ⟨hb, h⟩, if_pos h]
    · rw [if_neg fun k => h k.2, if_neg h]

/-- One piece more, in the open box or a new one. -/
def stp (room : Int) (c : Int × Int) (z : Int) : Int × Int := if c.2 + z > room then (c.1 + 1, z) else (c.1, c.2 + z)
def Bet (a b : Int × Int) : Prop := a.1 < b.1 ∨ (a.1 = b.1 ∧ a.2 < b.2)
instance (a b : Int × Int) : Decidable (Bet a b) := inferInstanceAs (Decidable (_ ∨ _))
/-- The table of the fewest closed boxes, then the smallest load of the open one. -/
structure Dp (room : Int) (p : Nat → Int) (n : Nat) (S : Nat → Int × Int) : Prop where
  zero : S 0 = (0, 0)
  last : ∀ s, 0 < s → s < 2 ^ n → ∃ i, i < n ∧ (s / 2 ^ i) % 2 = 1 ∧ S s = stp room (S (s - 2 ^ i)) (p i)
  least : ∀ s i, s < 2 ^ n → i < n → (s / 2 ^ i) % 2 = 1 → ¬ Bet (stp room (S (s - 2 ^ i)) (p i)) (S s)

/-- No boxes do with fewer. -/
theorem dp_le {room : Int} {p : Nat → Int} {n : Nat} {S : Nat → Int × Int} (hS : Dp room p n S) (hp : ∀ i, i < n → 1 ≤ p i ∧ p i ≤ room) (h0r : 0 ≤ room) : ∀ (N M s : Nat) (g : Nat → Nat) (b0 : Nat), M + s < N → b0 < M → s < 2 ^ n →
    (∀ i, i < n → (s / 2 ^ i) % 2 = 1 → g i < M) → (∀ b, sl p g b s n ≤ room) → (S s).1 < (M : Int) - 1 ∨ ((S s).1 = (M : Int) - 1 ∧ (S s).2 ≤ sl p g b0 s n)
  | 0, M, s, g, b0, h, _, _, _, _ => by omega
  | N + 1, M, s, g, b0, h, hb0, hs, hg, hl => by
    have hp0 : ∀ i, i < n → 0 ≤ p i := fun i hi => by have := hp i hi; omega
    by_cases hex : ∃ i, i < n ∧ (s / 2 ^ i) % 2 = 1 ∧ g i = b0
    · obtain ⟨i, hi, hb, hgi⟩ := hex
      have h2 := two_le hb
      have hpw : 0 < 2 ^ i := Nat.pow_pos (by decide)
      have hsub : ∀ j, ((s - 2 ^ i) / 2 ^ j) % 2 = 1 → (s / 2 ^ j) % 2 = 1 := fun j hj => by
        rw [bit_sub hb] at hj
        split at hj
        · cases hj
        · exact hj
      have hst := fun b => sl_step (p := p) (g := g) hi hb b
      have hpi := hp i hi
      have ih := dp_le hS hp h0r N M (s - 2 ^ i) g b0 (by omega) hb0 (by omega) (fun j hj hbj => hg j hj (hsub j hbj)) (fun b => by
        have e := hst b
        have := hl b
        split at e <;> omega)
      have e := hst b0
      rw [if_pos hgi] at e
      have hn := sl_nonneg hp0 g b0 (s - 2 ^ i)
      have hlb := hl b0
      have hbet := hS.least s i hs hi hb
      generalize S (s - 2 ^ i) = c at ih hbet
      generalize S s = t at hbet ⊢
      obtain ⟨c1, c2⟩ := c
      obtain ⟨t1, t2⟩ := t
      unfold Bet stp at hbet
      dsimp only at *
      split at hbet <;> dsimp only at hbet <;> omega
    · have hz : sl p g b0 s n = 0 := sl_none fun i hi hb k => hex ⟨i, hi, hb, k⟩
      by_cases hs0 : s = 0
      · subst hs0
        rw [hS.zero, hz]
        dsimp only
        omega
      · obtain ⟨i, hi, hb⟩ := has_bit n s (by omega) hs
        have hgi := hg i hi hb
        have hne : g i ≠ b0 := fun k => hex ⟨i, hi, hb, k⟩
        have hM : 2 ≤ M := by omega
        have key : ∀ j, j < n → (s / 2 ^ j) % 2 = 1 → g j ≠ b0 := fun j hj hbj k => hex ⟨j, hj, hbj, k⟩
        have ih := dp_le hS hp h0r N (M - 1) s (fun j => if g j = M - 1 then b0 else g j) 0 (by omega) (by omega) hs (fun j hj hbj => by
          have h1 := hg j hj hbj
          have h2 := key j hj hbj
          try dsimp only
          split <;> omega) (fun b => by
          by_cases e1 : b = b0
          · have : sl p (fun j => if g j = M - 1 then b0 else g j) b s n = sl p g (M - 1) s n := sl_congr fun j hj hbj => by
              have h2 := key j hj hbj
              try dsimp only
              split <;> omega
            rw [this]; exact hl _
          · by_cases e2 : b = M - 1
            · have : sl p (fun j => if g j = M - 1 then b0 else g j) b s n = 0 := sl_none fun j hj hbj => by
                try dsimp only
                split <;> omega
              rw [this]; exact h0r
            · have : sl p (fun j => if g j = M - 1 then b0 else g j) b s n = sl p g b s n := sl_congr fun j hj hbj => by
                try dsimp only
                split <;> omega
              rw [this]; exact hl _)
        left
        have e : ((M - 1 : Nat) : Int) = (M : Int) - 1 := by omega
        rw [e] at ih
        omega

/-- That many boxes do. -/
theorem dp_ge {room : Int} {p : Nat → Int} {n : Nat} {S : Nat → Int × Int} (hS : Dp room p n S) (hp : ∀ i, i < n → 1 ≤ p i ∧ p i ≤ room) (h0r : 0 ≤ room) : ∀ (N s : Nat), s < N → s < 2 ^ n →
    ∃ (g : Nat → Nat) (c : Nat), (S s).1 = (c : Int) ∧ (∀ i, i < n → (s / 2 ^ i) % 2 = 1 → g i ≤ c) ∧ (∀ b, sl p g b s n ≤ room) ∧ sl p g c s n = (S s).2
  | 0, s, h, _ => by omega
  | N + 1, s, h, hs => by
    by_cases hs0 : s = 0
    · subst hs0
      have hz : ∀ b, sl p (fun _ => 0) b 0 n = 0 := fun b => sl_none fun i _ hb => by rw [Nat.zero_div] at hb; cases hb
      exact ⟨fun _ => 0, 0, (by rw [hS.zero]; rfl), fun i _ hb => (by rw [Nat.zero_div] at hb; cases hb), fun b => (by rw [hz]; exact h0r), (by rw [hz, hS.zero])⟩
    · obtain ⟨i, hi, hb, hE⟩ := hS.last s (by omega) hs
      have h2 := two_le hb
      have hpw : 0 < 2 ^ i := Nat.pow_pos (by decide)
      obtain ⟨g, c, h1, hg, hl, hc⟩ := dp_ge hS hp h0r N (s - 2 ^ i) (by omega) (by omega)
      have hpi := hp i hi
      have hbits : ∀ j, j ≠ i → ((s - 2 ^ i) / 2 ^ j) % 2 = (s / 2 ^ j) % 2 := fun j hj => by
        have e := bit_sub (j := j) hb
        rwa [if_neg hj] at e
      have hbi : ((s - 2 ^ i) / 2 ^ i) % 2 = 0 := by
        have e := bit_sub (j := i) hb
        rwa [if_pos rfl] at e
      have hold : ∀ c' b, sl p (fun j => if j = i then c' else g j) b (s - 2 ^ i) n = sl p g b (s - 2 ^ i) n := fun c' b => sl_congr fun j hj hbj => by
        have : j ≠ i := fun e => by rw [e, hbi] at hbj; cases hbj
        try dsimp only
        rw [if_neg this]
      have hnew : ∀ c' b, sl p (fun j => if j = i then c' else g j) b s n = sl p g b (s - 2 ^ i) n + (if c' = b then p i else 0) := fun c' b => by
        rw [sl_step hi hb, hold]
        simp only [if_true]
      have hab : sl p g (c + 1) (s - 2 ^ i) n = 0 := sl_none fun j hj hbj => by have := hg j hj hbj; omega
      unfold stp at hE
      by_cases hov : (S (s - 2 ^ i)).2 + p i > room
      · rw [if_pos hov] at hE
        refine ⟨fun j => if j = i then c + 1 else g j, c + 1, (by rw [hE]; dsimp only; omega), fun j hj hbj => ?_, fun b => ?_, ?_⟩
        · dsimp only
          by_cases e : j = i
          · rw [if_pos e]; omega
          · rw [if_neg e]; have := hg j hj (by rw [hbits j e]; exact hbj); omega
        · rw [hnew]
          by_cases e : c + 1 = b
          · rw [if_pos e, ← e, hab]; omega
          · rw [if_neg e]; have := hl b; omega
        · rw [hnew, if_pos rfl, hab, hE]; dsimp only; omega
      · rw [if_neg hov] at hE
        refine ⟨fun j => if j = i then c else g j, c, (by rw [hE]; try dsimp only; omega), fun j hj hbj => ?_, fun b => ?_, ?_⟩
        · dsimp only
          by_cases e : j = i
          · rw [if_pos e]; omega
          · rw [if_neg e]; exact hg j hj (by rw [hbits j e]; exact hbj)
        · rw [hnew]
          by_cases e : c = b
          · rw [if_pos e, ← e, hc]; omega
          · rw [if_neg e]; have := hl b; omega
        · rw [hnew, if_pos rfl, hc, hE]

end Go.Proofs.Ytcjglbipkghhnaa.Math
