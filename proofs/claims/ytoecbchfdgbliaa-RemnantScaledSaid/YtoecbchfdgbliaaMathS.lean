-- Plain lemmas over the names of the B print: weights, the greatest one.
import Derived.Test.YtoecbchfdgbliaaMathI
import Derived.Test.YtoecbchfdgbliaaHandI
import Derived.Test.YtoecbchfdgbliaaBx1

-- Plain lemmas: boxes that hold pieces: what fits, the table of the fewest boxes, the bound by weights.
namespace Go.Proofs.Ytoecbchfdgbliaa.Math
open Go.RowKit Go.Proofs.YtoecbchfdgbliaaW.PrintWords Go.Proofs.YtoecbchfdgbliaaW.PrintLast Go.Proofs.YtoecbchfdgbliaaW.PrintMore
set_option linter.unusedVariables false

/-- What box b holds of the pieces of a set. -/
def sl (p : Nat → Int) (g : Nat → Nat) (b s n : Nat) : Int := ((List.range n).map fun i => if (s / 2 ^ i) % 2 = 1 ∧ g i = b then p i else 0).sum
theorem sum_nonneg : ∀ (r : List Nat) (f : Nat → Int), (∀ i ∈ r, 0 ≤ f i) → 0 ≤ (r.map f).sum
  | [], _, _ => by simp
  | a :: r, f, h => by
    rw [List.map_cons, List.sum_cons]
    have := h a List.mem_cons_self
    have := sum_nonneg r f fun i hi => h i (List.mem_cons_of_mem _ hi)
    omega
theorem sum_zero : ∀ (r : List Nat) (f : Nat → Int), (∀ i ∈ r, f i = 0) → (r.map f).sum = 0
  | [], _, _ => by simp
  | a :: r, f, h => by
    rw [List.map_cons, List.sum_cons, h a List.mem_cons_self, sum_zero r f fun i hi => h i (List.mem_cons_of_mem _ hi)]
    rfl
theorem sl_nonneg {p : Nat → Int} {n : Nat} (hp : ∀ i, i < n → 0 ≤ p i) (g : Nat → Nat) (b s : Nat) : 0 ≤ sl p g b s n :=
  sum_nonneg _ _ fun i hi => by
    have := hp i (List.mem_range.1 hi)
    try dsimp only
    split <;> omega
theorem sl_none {p : Nat → Int} {n : Nat} {g : Nat → Nat} {b s : Nat} (h : ∀ i, i < n → (s / 2 ^ i) % 2 = 1 → g i ≠ b) : sl p g b s n = 0 :=
  sum_zero _ _ fun i hi => by
    have := h i (List.mem_range.1 hi)
    exact if_neg fun k => this k.1 k.2
theorem sl_congr {p : Nat → Int} {n : Nat} {g g' : Nat → Nat} {b b' s : Nat} (h : ∀ i, i < n → (s / 2 ^ i) % 2 = 1 → (g i = b ↔ g' i = b')) : sl p g b s n = sl p g' b' s n := by
  unfold sl
  congr 1
  refine List.map_congr_left fun i hi => ?_
  have h1 := h i (List.mem_range.1 hi)
  by_cases hb : (s / 2 ^ i) % 2 = 1
  · have h2 := h1 hb
    by_cases h3 : g i = b
    · rw [if_pos ⟨hb, h3⟩, if_pos ⟨hb, h2.1 h3⟩]
    · rw [if_neg fun k => h3 k.2, if_neg fun k => h3 (h2.2 k.2)]
  · rw [if_neg fun k => hb k.1, if_neg fun k => hb k.1]
theorem sl_step {p : Nat → Int} {n : Nat} {g : Nat → Nat} {s i : Nat} (hi : i < n) (hb : (s / 2 ^ i) % 2 = 1) (b : Nat) : sl p g b s n = sl p g b (s - 2 ^ i) n + (if g i = b then p i else 0) := by
  refine sum_one _ List.nodup_range i (List.mem_range.2 hi) _ _ _ (fun j hj => ?_) ?_
  · have e1 := bit_sub (j := j) hb
    rw [if_neg hj] at e1
    rw [e1]
  · have e1 := bit_sub (j := i) hb
    rw [if_pos rfl] at e1
    rw [e1, if_neg (show ¬ (0 = 1 ∧ g i = b) from fun k => by cases k.1), Int.zero_add]
    by_cases h : g i = b
    · rw [if_pos ⟨hb, h⟩, if_pos h]
    · rw [if_neg fun k => h k.2, if_neg h]

/-- One piece more, in the open box or a new one. -/
def stp (room : Int) (c : Int × Int) (z : Int) : Int × Int := if c.2 + z > room then (c.1 + 1, z) else (c.1, c.2 + z)
def Bet (a b : Int × Int) : Prop := a.1 < b.1 ∨ (a.1 = b.1 ∧ a.2 < b.2)
instance (a b : Int × Int) : Decidable (Bet a b) := inferInstanceAs (Decidable (_ ∨ _))
/-- The table of the fewest closed boxes, then the smallest load of the open one. -/
structure Dp (room : Int) (p : Nat → Int) (n : Nat) (S : Nat → Int × Int) : Prop where
  zero : S 0 = (0, 0)
  last : ∀ s, 0 < s → s < 2 ^ n → ∃ i, i < n ∧ (s / 2 ^ i) % 2 = 1 ∧ S s = stp room (S (s - 2 ^ i)) (p i)
  least : ∀ s i, s < 2 ^ n → i < n → (s / 2 ^ i) % 2 = 1 → ¬ Bet (stp room (S (s - 2 ^ i)) (p i)) (S s)

/-- No boxes do with fewer. -/
theorem dp_le {room : Int} {p : Nat → Int} {n : Nat} {S : Nat → Int × Int} (hS : Dp room p n S) (hp : ∀ i, i < n → 1 ≤ p i ∧ p i ≤ room) (h0r : 0 ≤ room) : ∀ (N M s : Nat) (g : Nat → Nat) (b0 : Nat), M + s < N → b0 < M → s < 2 ^ n →
    (∀ i, i < n → (s / 2 ^ i) % 2 = 1 → g i < M) → (∀ b, sl p g b s n ≤ room) → (S s).1 < (M : Int) - 1 ∨ ((S s).1 = (M : Int) - 1 ∧ (S s).2 ≤ sl p g b0 s n)
  | 0, M, s, g, b0, h, _, _, _, _ => by omega
  | N + 1, M, s, g, b0, h, hb0, hs, hg, hl => by
    have hp0 : ∀ i, i < n → 0 ≤ p i := fun i hi => by have := hp i hi; omega
    by_cases hex : ∃ i, i < n ∧ (s / 2 ^ i) % 2 = 1 ∧ g i = b0
    · obtain ⟨i, hi, hb, hgi⟩ := hex
      have h2 := two_le hb
      have hpw : 0 < 2 ^ i := Nat.pow_pos (by decide)
      have hsub : ∀ j, ((s - 2 ^ i) / 2 ^ j) % 2 = 1 → (s / 2 ^ j) % 2 = 1 := fun j hj => by
        rw [bit_sub hb] at hj
        split at hj
        · cases hj
        · exact hj
      have hst := fun b => sl_step (p := p) (g := g) hi hb b
      have hpi := hp i hi
      have ih := dp_le hS hp h0r N M (s - 2 ^ i) g b0 (by omega) hb0 (by omega) (fun j hj hbj => hg j hj (hsub j hbj)) (fun b => by
        have e := hst b
        have := hl b
        split at e <;> omega)
      have e := hst b0
      rw [if_pos hgi] at e
      have hn := sl_nonneg hp0 g b0 (s - 2 ^ i)
      have hlb := hl b0
      have hbet := hS.least s i hs hi hb
      generalize S (s - 2 ^ i) = c at ih hbet
      generalize S s = t at hbet ⊢
      obtain ⟨c1, c2⟩ := c
      obtain ⟨t1, t2⟩ := t
      unfold Bet stp at hbet
      dsimp only at *
      split at hbet <;> dsimp only at hbet <;> omega
    · have hz : sl p g b0 s n = 0 := sl_none fun i hi hb k => hex ⟨i, hi, hb, k⟩
      by_cases hs0 : s = 0
      · subst hs0
        rw [hS.zero, hz]
        dsimp only
        omega
      · obtain ⟨i, hi, hb⟩ := has_bit n s (by omega) hs
        have hgi := hg i hi hb
        have hne : g i ≠ b0 := fun k => hex ⟨i, hi, hb, k⟩
        have hM : 2 ≤ M := by omega
        have key : ∀ j, j < n → (s / 2 ^ j) % 2 = 1 → g j ≠ b0 := fun j hj hbj k => hex ⟨j, hj, hbj, k⟩
        have ih := dp_le hS hp h0r N (M - 1) s (fun j => if g j = M - 1 then b0 else g j) 0 (by omega) (by omega) hs (fun j hj hbj => by
          have h1 := hg j hj hbj
          have h2 := key j hj hbj
          try dsimp only
          split <;> omega) (fun b => by
          by_cases e1 : b = b0
          · have : sl p (fun j => if g j = M - 1 then b0 else g j) b s n = sl p g (M - 1) s n := sl_congr fun j hj hbj => by
              have h2 := key j hj hbj
              try dsimp only
              split <;> omega
            rw [this]; exact hl _
          · by_cases e2 : b = M - 1
            · have : sl p (fun j => if g j = M - 1 then b0 else g j) b s n = 0 := sl_none fun j hj hbj => by
                try dsimp only
                split <;> omega
              rw [this]; exact h0r
            · have : sl p (fun j => if g j = M - 1 then b0 else g j) b s n = sl p g b s n := sl_congr fun j hj hbj => by
                try dsimp only
                split <;> omega
              rw [this]; exact hl _)
        left
        have e : ((M - 1 : Nat) : Int) = (M : Int) - 1 := by omega
        rw [e] at ih
        omega

/-- That many boxes do. -/
theorem dp_ge {room : Int} {p : Nat → Int} {n : Nat} {S : Nat → Int × Int} (hS : Dp room p n S) (hp : ∀ i, i < n → 1 ≤ p i ∧ p i ≤ room) (h0r : 0 ≤ room) : ∀ (N s : Nat), s < N → s < 2 ^ n →
    ∃ (g : Nat → Nat) (c : Nat), (S s).1 = (c : Int) ∧ (∀ i, i < n → (s / 2 ^ i) % 2 = 1 → g i ≤ c) ∧ (∀ b, sl p g b s n ≤ room) ∧ sl p g c s n = (S s).2
  | 0, s, h, _ => by omega
  | N + 1, s, h, hs => by
    by_cases hs0 : s = 0
    · subst hs0
      have hz : ∀ b, sl p (fun _ => 0) b 0 n = 0 := fun b => sl_none fun i _ hb => by rw [Nat.zero_div] at hb; cases hb
      exact ⟨fun _ => 0, 0, (by rw [hS.zero]; rfl), fun i _ hb => (by rw [Nat.zero_div] at hb; cases hb), fun b => (by rw [hz]; exact h0r), (by rw [hz, hS.zero])⟩
    · obtain ⟨i, hi, hb, hE⟩ := hS.last s (by omega) hs
      have h2 := two_le hb
      have hpw : 0 < 2 ^ i := Nat.pow_pos (by decide)
      obtain ⟨g, c, h1, hg, hl, hc⟩ := dp_ge hS hp h0r N (s - 2 ^ i) (by omega) (by omega)
      have hpi := hp i hi
      have hbits : ∀ j, j ≠ i → ((s - 2 ^ i) / 2 ^ j) % 2 = (s / 2 ^ j) % 2 := fun j hj => by
        have e := bit_sub (j := j) hb
        rwa [if_neg hj] at e
      have hbi : ((s - 2 ^ i) / 2 ^ i) % 2 = 0 := by
        have e := bit_sub (j := i) hb
        rwa [if_pos rfl] at e
      have hold : ∀ c' b, sl p (fun j => if j = i then c' else g j) b (s - 2 ^ i) n = sl p g b (s - 2 ^ i) n := fun c' b => sl_congr fun j hj hbj => by
        have : j ≠ i := fun e => by rw [e, hbi] at hbj; cases hbj
        try dsimp only
        rw [if_neg this]
      have hnew : ∀ c' b, sl p (fun j => if j = i then c' else g j) b s n = sl p g b (s - 2 ^ i) n + (if c' = b then p i else 0) := fun c' b => by
        rw [sl_step hi hb, hold]
        simp only [if_true]
      have hab : sl p g (c + 1) (s - 2 ^ i) n = 0 := sl_none fun j hj hbj => by have := hg j hj hbj; omega
      unfold stp at hE
      by_cases hov : (S (s - 2 ^ i)).2 + p i > room
      · rw [if_pos hov] at hE
        refine ⟨fun j => if j = i then c + 1 else g j, c + 1, (by rw [hE]; dsimp only; omega), fun j hj hbj => ?_, fun b => ?_, ?_⟩
        · dsimp only
          by_cases e : j = i
          · rw [if_pos e]; omega
          · rw [if_neg e]; have := hg j hj (by rw [hbits j e]; exact hbj); omega
        · rw [hnew]
          by_cases e : c + 1 = b
          · rw [if_pos e, ← e, hab]; omega
          · rw [if_neg e]; have := hl b; omega
        · rw [hnew, if_pos rfl, hab, hE]; dsimp only; omega
      · rw [if_neg hov] at hE
        refine ⟨fun j => if j = i then c else g j, c, (by rw [hE]; try dsimp only; omega), fun j hj hbj => ?_, fun b => ?_, ?_⟩
        · dsimp only
          by_cases e : j = i
          · rw [if_pos e]; omega
          · rw [if_neg e]; exact hg j hj (by rw [hbits j e]; exact hbj)
        · rw [hnew]
          by_cases e : c = b
          · rw [if_pos e, ← e, hc]; omega
          · rw [if_neg e]; have := hl b; omega
        · rw [hnew, if_pos rfl, hc, hE]

end Go.Proofs.Ytoecbchfdgbliaa.Math

-- Plain lemmas: where pieces fit, the walk over the packings finds one; the bound by weights.
namespace Go.Proofs.Ytoecbchfdgbliaa.Math
open Go.RowKit Go.Proofs.YtoecbchfdgbliaaW.PrintWords Go.Proofs.YtoecbchfdgbliaaW.PrintLast Go.Proofs.YtoecbchfdgbliaaW.PrintMore
open Go.Proofs.Ytoecbchfdgbliaa.Hand hiding look
set_option linter.unusedVariables false

/-- What box b gets of the pieces from j on, d of them. -/
def ld (p : Nat → Int) (g : Nat → Nat) (b : Nat) : Nat → Nat → Int
  | _, 0 => 0
  | j, d + 1 => (if g j = b then p j else 0) + ld p g b (j + 1) d
theorem ld_nonneg {p : Nat → Int} (g : Nat → Nat) (b : Nat) : ∀ (d j : Nat), (∀ i, j ≤ i → i < j + d → 0 ≤ p i) → 0 ≤ ld p g b j d
  | 0, j, _ => Int.le_refl _
  | d + 1, j, h => by
    have h1 := ld_nonneg g b d (j + 1) fun i h1 h2 => h i (by omega) (by omega)
    have h2 := h j (Nat.le_refl _) (by omega)
    rw [ld]
    split <;> omega
theorem ld_congr {p : Nat → Int} {g g' : Nat → Nat} {b b' : Nat} : ∀ (d j : Nat), (∀ i, j ≤ i → i < j + d → (g i = b ↔ g' i = b')) → ld p g b j d = ld p g' b' j d
  | 0, j, _ => rfl
  | d + 1, j, h => by
    rw [ld, ld, ld_congr d (j + 1) fun i h1 h2 => h i (by omega) (by omega)]
    have h1 := h j (Nat.le_refl _) (by omega)
    by_cases e : g j = b
    · rw [if_pos e, if_pos (h1.1 e)]
    · rw [if_neg e, if_neg fun k => e (h1.2 k)]
def Feas (room : Int) (p : Nat → Int) (most j d : Nat) (x : Nat → Int) : Prop := ∃ g : Nat → Nat, (∀ i, j ≤ i → i < j + d → g i < most) ∧ ∀ b, b < most → x b + ld p g b j d ≤ room

theorem packs_ne (room : Int) (ps : List Int) (most : Nat) (hp : ∀ i : Nat, i < ps.length → 0 ≤ rd ps (i : Int)) (hm : most ≤ 12) : ∀ (d : Nat) (l : List Int) (n : Nat) (x : List Int), l.length + d = ps.length → n ≤ most → x.length = 12 →
    (∀ b, n ≤ b → x.getD b 0 = 0) → Feas room (fun i => rd ps (i : Int)) most l.length d (fun b => x.getD b 0) → packs room ps most d l n x ≠ []
  | 0, l, n, x, _, _, _, _, _ => by rw [packs]; exact List.cons_ne_nil _ _
  | d + 1, l, n, x, hd, hn, hx, hz, hF => by
    have hpos : ∀ i, l.length + 1 ≤ i → i < l.length + 1 + d → 0 ≤ (fun i : Nat => rd ps (i : Int)) i := fun i _ h => hp i (by omega)
    obtain ⟨g, hgn, hg, hl⟩ : ∃ g : Nat → Nat, g l.length ≤ n ∧ (∀ i, l.length ≤ i → i < l.length + (d + 1) → g i < most) ∧ ∀ b, b < most → x.getD b 0 + ld (fun i => rd ps (i : Int)) g b l.length (d + 1) ≤ room := by
      obtain ⟨g, hg, hl⟩ := hF
      have hl : ∀ b, b < most → x.getD b 0 + ld (fun i => rd ps (i : Int)) g b l.length (d + 1) ≤ room := hl
      have h0 := hg l.length (Nat.le_refl _) (by omega)
      by_cases hb : g l.length ≤ n
      · exact ⟨g, hb, hg, hl⟩
      · refine ⟨fun i => if g i = g l.length then n else if g i = n then g l.length else g i, by simp, fun i h1 h2 => ?_, fun b hb => ?_⟩
        · have := hg i h1 h2
          try dsimp only
          split
          · omega
          · split <;> omega
        · by_cases e1 : b = n
          · have := hl (g l.length) h0
            rw [hz _ (by omega)] at this
            rw [e1, hz n (Nat.le_refl _), ← ld_congr (g := g) (b := g l.length) (d + 1) l.length]
            · exact this
            · intro i h1 h2
              try dsimp only
              split
              · omega
              · split <;> omega
          · by_cases e2 : b = g l.length
            · have := hl n (by omega)
              rw [hz _ (Nat.le_refl _)] at this
              rw [e2, hz _ (by omega), ← ld_congr (g := g) (b := n) (d + 1) l.length]
              · exact this
              · intro i h1 h2
                try dsimp only
                split
                · omega
                · split <;> omega
            · rw [← ld_congr (g := g) (b := b) (d + 1) l.length]
              · exact hl b hb
              · intro i h1 h2
                try dsimp only
                split
                · omega
                · split <;> omega
    have hk := hg l.length (Nat.le_refl _) (by omega)
    intro h
    rw [packs, List.flatMap_eq_nil_iff] at h
    have h1 := h (g l.length) (List.mem_range.2 (by omega))
    have h2 := hl (g l.length) hk
    rw [ld, if_pos rfl] at h2
    have h3 := ld_nonneg (p := fun i => rd ps (i : Int)) g (g l.length) d (l.length + 1) hpos
    rw [if_neg (by omega)] at h1
    have hget : ∀ b : Nat, (x.set (g l.length) (x.getD (g l.length) 0 + rd ps (l.length : Int))).getD b 0 = if g l.length = b then x.getD (g l.length) 0 + rd ps (l.length : Int) else x.getD b 0 := fun b => by
      rw [List.getD_eq_getElem?_getD, List.getElem?_set]
      split
      · rw [if_pos (by omega)]; rfl
      · rw [← List.getD_eq_getElem?_getD]
    refine packs_ne room ps most hp hm d _ _ _ (by simp; omega) (by omega) (by simp [hx]) (fun b hb => ?_) ?_ h1
    · rw [hget, if_neg (by omega), hz b (by omega)]
    · refine ⟨g, fun i h1 h2 => hg i (by simp at h1; omega) (by simp at h2; omega), fun b hb => ?_⟩
      try dsimp only
      rw [hget, List.length_append, List.length_singleton]
      have h4 := hl b hb
      rw [ld] at h4
      split
      · rename_i e
        rw [if_pos e] at h4
        rw [← e] at h4 ⊢
        omega
      · rename_i e
        rw [if_neg e] at h4
        omega

/-- What the walk finds is a packing. -/
theorem packs_part (room : Int) (ps : List Int) (most : Nat) (hp : ∀ i : Nat, i < ps.length → 0 ≤ rd ps (i : Int)) (hm : most ≤ 12) : ∀ (d : Nat) (l : List Int) (n : Nat) (x : List Int), l.length + d = ps.length → Part room ps most l n x →
    ∀ l' ∈ packs room ps most d l n x, l'.length = ps.length ∧ ∃ n' y, Part room ps most l' n' y
  | 0, l, n, x, hd, hP, l', hl' => by
    rw [packs] at hl'
    obtain rfl := List.mem_singleton.1 hl'
    exact ⟨by omega, n, x, hP⟩
  | d + 1, l, n, x, hd, hP, l', hl' => by
    rw [packs, List.mem_flatMap] at hl'
    obtain ⟨k, hk, hl'⟩ := hl'
    have hk := List.mem_range.1 hk
    split at hl'
    · cases hl'
    · rename_i hf
      exact packs_part room ps most hp hm d _ _ _ (by simp; omega) (hP.step (by omega) (by omega) (by omega) hm (hp _ (by omega)) (by omega)) l' hl'

theorem bestL_found (room : Int) (ps : List Int) : ∀ (d most m : Nat), most ≤ m → m < most + d → packs room ps m ps.length [] 0 (List.replicate 12 0) ≠ [] → (∀ m', most ≤ m' → m' < m → packs room ps m' ps.length [] 0 (List.replicate 12 0) = []) →
    ∃ l ∈ packs room ps m ps.length [] 0 (List.replicate 12 0), bestL room ps d most = (l, (m : Int), 0)
  | 0, most, m, h1, h2, _, _ => by omega
  | d + 1, most, m, h1, h2, h3, h4 => by
    rw [bestL]
    by_cases e : most = m
    · subst e
      cases hq : packs room ps most ps.length [] 0 (List.replicate 12 0) with
      | nil => exact absurd hq h3
      | cons l t => exact ⟨l, List.mem_cons_self, rfl⟩
    · rw [h4 most (Nat.le_refl _) (by omega)]
      exact bestL_found room ps d (most + 1) m (by omega) (by omega) h3 fun m' h5 h6 => h4 m' (by omega) h6

end Go.Proofs.Ytoecbchfdgbliaa.Math

-- Plain lemmas: a weighing is at most the number of boxes that do.
namespace Go.Proofs.Ytoecbchfdgbliaa.Math
open Go.RowKit Go.Proofs.YtoecbchfdgbliaaW.PrintWords Go.Proofs.YtoecbchfdgbliaaW.PrintLast Go.Proofs.YtoecbchfdgbliaaW.PrintMore
set_option linter.unusedVariables false

def gW (room a q : Int) : Int := if q > room - a then room else if 2 * q > room then q else if q ≥ a then q else 0
def bigW (room a q : Int) : Int := if q > room - a then 1 else if 2 * q > room then 1 else 0
/-- What a function of the pieces adds up to in a box. -/
def bs (f : Nat → Int) (g : Nat → Nat) (b n : Nat) : Int := ((List.range n).map fun i => if g i = b then f i else 0).sum
theorem bs_succ (f : Nat → Int) (g : Nat → Nat) (b n : Nat) : bs f g b (n + 1) = bs f g b n + (if g n = b then f n else 0) := by
  unfold bs
  rw [List.range_succ, List.map_append, List.sum_append]
  simp
def tot (f : Nat → Int) (n : Nat) : Int := ((List.range n).map f).sum
theorem tot_succ (f : Nat → Int) (n : Nat) : tot f (n + 1) = tot f n + f n := by
  unfold tot
  rw [List.range_succ, List.map_append, List.sum_append]
  simp
theorem bs_total (f : Nat → Int) (g : Nat → Nat) (M : Nat) : ∀ n, (∀ i, i < n → g i < M) → ((List.range M).map fun b => bs f g b n).sum = tot f n
  | 0, _ => by rw [sum_zero]; · rfl
               · intro i _; rfl
  | n + 1, h => by
    rw [tot_succ, ← bs_total f g M n fun i hi => h i (by omega)]
    refine sum_one _ List.nodup_range (g n) (List.mem_range.2 (h n (by omega))) _ _ _ (fun b hb => ?_) ?_
    · rw [bs_succ, if_neg (Ne.symm hb), Int.add_zero]
    · rw [bs_succ, if_pos rfl]
theorem sum_le (c : Int) : ∀ (r : List Nat) (f : Nat → Int), (∀ b ∈ r, f b ≤ c) → (r.map f).sum ≤ c * r.length
  | [], _, _ => by simp
  | b :: r, f, h => by
    have h1 := sum_le c r f fun b hb => h b (List.mem_cons_of_mem _ hb)
    have h2 := h b List.mem_cons_self
    rw [List.map_cons, List.sum_cons, List.length_cons]
    have : c * ((r.length + 1 : Nat) : Int) = c * r.length + c := by rw [Int.natCast_add, Int.mul_add]; simp
    omega
/-- One box. -/
theorem box_bound {room a : Int} (ha : 0 ≤ a) (ha2 : 2 * a ≤ room) (p : Nat → Int) (g : Nat → Nat) (b : Nat) : ∀ n, (∀ i, i < n → 1 ≤ p i ∧ p i ≤ room) → bs p g b n ≤ room →
    0 ≤ bs p g b n ∧ 0 ≤ bs (fun i => bigW room a (p i)) g b n ∧ bs (fun i => bigW room a (p i)) g b n ≤ 1 ∧
    (bs (fun i => gW room a (p i)) g b n ≤ bs p g b n ∨ (bs (fun i => gW room a (p i)) g b n ≤ room ∧ bs p g b n > room - a)) ∧ (1 ≤ bs (fun i => bigW room a (p i)) g b n → 2 * bs p g b n > room) ∧
    (bs p g b n < a → bs (fun i => gW room a (p i)) g b n ≤ 0)
  | 0, _, _ => ⟨Int.le_refl _, Int.le_refl _, (show (0 : Int) ≤ 1 by decide), .inl (Int.le_refl _), fun h => absurd (show (1 : Int) ≤ 0 from h) (by decide), fun _ => Int.le_refl _⟩
  | n + 1, hp, h => by
    have e1 := bs_succ p g b n
    have e2 := bs_succ (fun i => bigW room a (p i)) g b n
    have e3 := bs_succ (fun i => gW room a (p i)) g b n
    have hpn := hp n (by omega)
    by_cases hg : g n = b
    · rw [if_pos hg] at e1 e2 e3
      obtain ⟨i1, i2, i3, i4, i5, i6⟩ := box_bound ha ha2 p g b n (fun i hi => hp i (by omega)) (by omega)
      rw [e1, e2, e3]
      rw [e1] at h
      generalize bs p g b n = P at *
      generalize bs (fun i => bigW room a (p i)) g b n = K at *
      generalize bs (fun i => gW room a (p i)) g b n = G at *
      try dsimp only
      generalize p n = q at *
      unfold gW bigW
      by_cases c1 : q > room - a
      · rw [if_pos c1, if_pos c1]
        have : P < a := by omega
        have := i6 this
        omega
      · rw [if_neg c1, if_neg c1]
        by_cases c2 : 2 * q > room
        · rw [if_pos c2, if_pos c2]; omega
        · rw [if_neg c2, if_neg c2]
          by_cases c3 : q ≥ a
          · rw [if_pos c3]; omega
          · rw [if_neg c3]; omega
    · rw [if_neg hg, Int.add_zero] at e1 e2 e3
      rw [e1, e2, e3]
      exact box_bound ha ha2 p g b n (fun i hi => hp i (by omega)) (by omega)
/-- A weighing. -/
def wgt (room a : Int) (p : Nat → Int) (n : Nat) : Int := mx (tot (fun i => bigW room a (p i)) n) ((tot (fun i => gW room a (p i)) n + room - 1) / room)
theorem mx_le {a b c : Int} (h1 : a ≤ c) (h2 : b ≤ c) : mx a b ≤ c := by unfold mx; split <;> omega
theorem le_mx1 (a b : Int) : a ≤ mx a b := by unfold mx; split <;> omega
theorem le_mx2 (a b : Int) : b ≤ mx a b := by unfold mx; split <;> omega
theorem wgt_le {room a : Int} (h1 : 1 ≤ room) (ha : 0 ≤ a) (ha2 : 2 * a ≤ room) (p : Nat → Int) (n M : Nat) (hp : ∀ i, i < n → 1 ≤ p i ∧ p i ≤ room) (g : Nat → Nat) (hg : ∀ i, i < n → g i < M) (hl : ∀ b, b < M → bs p g b n ≤ room) : wgt room a p n ≤ M := by
  have hb := fun b hb => box_bound ha ha2 p g b n hp (hl b hb)
  have t1 := bs_total (fun i => bigW room a (p i)) g M n hg
  have t2 := bs_total (fun i => gW room a (p i)) g M n hg
  have s1 := sum_le 1 (List.range M) (fun b => bs (fun i => bigW room a (p i)) g b n) fun b h => (hb b (List.mem_range.1 h)).2.2.1
  have s2 := sum_le room (List.range M) (fun b => bs (fun i => gW room a (p i)) g b n) fun b h => by
    have h4 := (hb b (List.mem_range.1 h)).2.2.2.1
    have h5 := hl b (List.mem_range.1 h)
    omega
  rw [t1, List.length_range] at s1
  rw [t2, List.length_range] at s2
  refine mx_le (by omega) ?_
  have : (tot (fun i => gW room a (p i)) n + room - 1) / room < (M : Int) + 1 := by
    refine Int.ediv_lt_of_lt_mul (by omega) ?_
    have : ((M : Int) + 1) * room = room * (M : Int) + room := by rw [Int.add_mul, Int.mul_comm]; omega
    omega
  omega
/-- Each piece in a box of its own. -/
theorem own_box (p : Nat → Int) {room : Int} (n : Nat) (h0 : 0 ≤ room) (hp : ∀ i, i < n → p i ≤ room) (b : Nat) : bs p (fun i => i) b n ≤ room := by
  have key : ∀ m, m ≤ n → bs p (fun i => i) b m = if b < m then p b else 0 := by
    intro m
    induction m with
    | zero => intro _; rw [if_neg (by omega)]; rfl
    | succ m ih =>
      intro hm
      rw [bs_succ, ih (by omega)]
      by_cases e : m = b
      · subst e; rw [if_neg (by omega), if_pos rfl, if_pos (by omega)]; omega
      · rw [if_neg e, Int.add_zero]
        by_cases h : b < m
        · rw [if_pos h, if_pos (by omega)]
        · rw [if_neg h, if_neg (by omega)]
  rw [key n (Nat.le_refl _)]
  split
  · exact hp _ (by assumption)
  · exact h0
theorem wgt_len {room a : Int} (h1 : 1 ≤ room) (ha : 0 ≤ a) (ha2 : 2 * a ≤ room) (p : Nat → Int) (n : Nat) (hp : ∀ i, i < n → 1 ≤ p i ∧ p i ≤ room) : wgt room a p n ≤ n :=
  wgt_le h1 ha ha2 p n n hp (fun i => i) (fun i hi => hi) fun b _ => own_box p n (by omega) (fun i hi => (hp i hi).2) b
theorem tot_congr {f f' : Nat → Int} {n : Nat} (h : ∀ i, i < n → f i = f' i) : tot f n = tot f' n := by
  unfold tot
  rw [List.map_congr_left fun i hi => h i (List.mem_range.1 hi)]
/-- The weighing at 0 counts all. -/
theorem wgt_zero {room : Int} (p : Nat → Int) (n : Nat) (hp : ∀ i, i < n → 1 ≤ p i ∧ p i ≤ room) : (tot p n + room - 1) / room ≤ wgt room 0 p n := by
  have e : tot (fun i => gW room 0 (p i)) n = tot p n := tot_congr fun i hi => by
    have := hp i hi
    unfold gW
    rw [if_neg (by omega)]
    split
    · rfl
    · rw [if_pos (by omega)]
  unfold wgt
  rw [e]
  exact le_mx2 _ _

end Go.Proofs.Ytoecbchfdgbliaa.Math

namespace Go.Proofs.Ytoecbchfdgbliaa.Math
open Go.RowKit Go.Proofs.Ytoecbchfdgbliaa.B Go.Proofs.YtoecbchfdgbliaaW.PrintWords Go.Proofs.YtoecbchfdgbliaaW.PrintLast Go.Proofs.YtoecbchfdgbliaaW.PrintMore
open Go.Proofs.Ytoecbchfdgbliaa.Hand hiding wrap_in look
set_option linter.unusedVariables false

theorem wrap_in {n : Int} (h0 : -9223372036854775808 ≤ n) (h1 : n ≤ 9223372036854775807) : wrap64 n = n := by
  unfold wrap64
  omega
theorem next {j : Nat} (h : j ≤ 1000000) : wrap64 ((j : Int) + 1) = ((j + 1 : Nat) : Int) := by
  rw [wrap_in (by omega) (by omega)]; push_cast; rfl
theorem rd_mem {l : List Int} {j : Nat} (h : j < l.length) : rd l (j : Int) ∈ l := by
  simp only [rd, Int.toNat_natCast, List.getD_eq_getElem?_getD, List.getElem?_eq_getElem h, Option.getD_some]
  exact List.getElem_mem h
theorem up {α : Type} {g : Nat → Option α} (h : ∀ k, LeO (g k) (g (k + 1))) {k : Nat} {r : α} (hr : g k = some r) {k' : Nat} (hk : k ≤ k') : g k' = some r := at_rounds h hk hr

/-- The sizes, by their places. -/
abbrev pz (l : List Int) : Nat → Int := fun i => rd l (i : Int)
theorem tot_bound (f : Nat → Int) (c : Int) : ∀ n, (∀ i, i < n → 0 ≤ f i ∧ f i ≤ c) → 0 ≤ tot f n ∧ tot f n ≤ c * n
  | 0, _ => by unfold tot; simp
  | n + 1, h => by
    have h1 := tot_bound f c n fun i hi => h i (by omega)
    have h2 := h n (by omega)
    rw [tot_succ]
    have : c * ((n + 1 : Nat) : Int) = c * n + c := by rw [Int.natCast_add, Int.mul_add]; simp
    omega
theorem big01 (room a q : Int) : 0 ≤ bigW room a q ∧ bigW room a q ≤ 1 := by
  unfold bigW; split
  · omega
  · split <;> omega
theorem wgt_nonneg (room a : Int) (p : Nat → Int) (n : Nat) : 0 ≤ wgt room a p n :=
  Int.le_trans (tot_bound _ 1 n fun i _ => big01 room a (p i)).1 (le_mx1 _ _)

theorem weigh_end {room C D G : Int} (h1 : 1 ≤ room) (h2 : room ≤ 100) (hC : 0 ≤ C ∧ C ≤ 12) (hD : -1200 ≤ D ∧ D ≤ 1200) (hG : room * C + D = G) :
    wrap64 (C + wrap64 (Int.tdiv (wrap64 (wrap64 (mx 0 D + room) - 1)) room)) = mx C ((G + room - 1) / room) := by
  have hm : 0 ≤ mx 0 D ∧ mx 0 D ≤ 1200 := by unfold mx; split <;> omega
  rw [wrap_in (n := mx 0 D + room) (by omega) (by omega), wrap_in (n := mx 0 D + room - 1) (by omega) (by omega), Int.tdiv_eq_ediv_of_nonneg (by omega)]
  have e : (G + room - 1) / room = C + (D + room - 1) / room := by
    rw [← hG, show room * C + D + room - 1 = (D + room - 1) + room * C by omega, Int.add_mul_ediv_left _ _ (by omega)]
    omega
  have q1 : 0 ≤ (mx 0 D + room - 1) / room := Int.ediv_nonneg (by omega) (by omega)
  have q2 : (mx 0 D + room - 1) / room ≤ mx 0 D + room - 1 := Int.ediv_le_self _ (by omega)
  rw [wrap_in (n := (mx 0 D + room - 1) / room) (by omega) (by omega), wrap_in (by omega) (by omega), e]
  by_cases hd : 0 < D
  · have e2 : mx 0 D = D := by unfold mx; split <;> omega
    rw [e2] at q1 ⊢
    unfold mx; split <;> omega
  · have e2 : mx 0 D = 0 := by unfold mx; split <;> omega
    have e3 : ((0 : Int) + room - 1) / room = 0 := Int.ediv_eq_zero_of_lt (by omega) (by omega)
    have e4 : (D + room - 1) / room < 1 := Int.ediv_lt_of_lt_mul (by omega) (by omega)
    rw [e2, e3]
    unfold mx; split <;> omega
theorem weigh_go {room a : Int} (h1 : 1 ≤ room) (h2 : room ≤ 100) (ha : 0 ≤ a) (ha2 : 2 * a ≤ room) (l : List Int) (h12 : l.length ≤ 12) (hp : ∀ i, i < l.length → 1 ≤ pz l i ∧ pz l i ≤ room) : ∀ (m j : Nat) (x7 x8 x9 x10 : Int), j + m = l.length →
    0 ≤ x7 → 0 ≤ x8 → x7 + x8 ≤ j → 0 ≤ x9 → x9 ≤ 100 * j → 0 ≤ x10 → x10 ≤ 100 * j → x7 + x8 = tot (fun i => bigW room a (pz l i)) j → room * (x7 + x8) + (x10 - x9) = tot (fun i => gW room a (pz l i)) j →
    ∀ k, m < k → remnant_weigh.l0 k room a x7 x8 x9 x10 l (l.length : Int) (j : Int) = some (wgt room a (pz l) l.length) := by
  intro m
  induction m with
  | zero =>
    intro j x7 x8 x9 x10 hj p7 p8 p78 p9 q9 p10 q10 hC hT k hk
    obtain ⟨k, rfl⟩ : ∃ k', k = k' + 1 := ⟨k - 1, by omega⟩
    rw [remnant_weigh.l0, if_neg (by omega), if_neg (by omega), wrap_in (n := x10 - x9) (by omega) (by omega), wrap_in (n := x7 + x8) (by omega) (by omega), weigh_end h1 h2 (by omega) (by omega) hT]
    rw [show j = l.length by omega] at hC
    unfold wgt
    rw [hC, show j = l.length by omega]
  | succ m ih =>
    intro j x7 x8 x9 x10 hj p7 p8 p78 p9 q9 p10 q10 hC hT k hk
    obtain ⟨k, rfl⟩ : ∃ k', k = k' + 1 := ⟨k - 1, by omega⟩
    have hq := hp j (by omega)
    have t1 := tot_succ (fun i => bigW room a (pz l i)) j
    have t2 := tot_succ (fun i => gW room a (pz l i)) j
    dsimp only [pz] at hq t1 t2
    have hmul : ∀ c : Int, room * (c + 1) = room * c + room := fun c => by rw [Int.mul_add, Int.mul_one]
    rw [remnant_weigh.l0, if_pos (by omega), if_pos (by omega), if_pos (by omega), wrap_in (n := room - a) (by omega) (by omega), wrap_in (n := 2 * rd l (j : Int)) (by omega) (by omega), next (by omega)]
    have hmx : rd l (j : Int) ≥ mx a 1 ↔ rd l (j : Int) ≥ a := by unfold mx; split <;> omega
    unfold bigW at t1
    unfold gW at t2
    by_cases c1 : rd l (j : Int) > room - a
    · rw [if_pos c1] at t1 t2
      rw [if_pos c1, wrap_in (by omega) (by omega)]
      have := hmul (x7 + x8)
      refine ih (j + 1) _ _ _ _ (by omega) (by omega) (by omega) (by push_cast; omega) (by omega) (by push_cast; omega) (by omega) (by push_cast; omega) ?_ ?_ k (by omega)
      · show x7 + 1 + x8 = tot (fun i => bigW room a (rd l (i : Int))) (j + 1)
        have hC' : x7 + x8 = tot (fun i => bigW room a (rd l (i : Int))) j := hC
        unfold bigW at hC' ⊢; omega
      · show room * (x7 + 1 + x8) + (x10 - x9) = tot (fun i => gW room a (rd l (i : Int))) (j + 1)
        have hT' : room * (x7 + x8) + (x10 - x9) = tot (fun i => gW room a (rd l (i : Int))) j := hT
        rw [show x7 + 1 + x8 = x7 + x8 + 1 by omega]
        unfold gW at hT' ⊢; omega
    · rw [if_neg c1] at t1 t2
      rw [if_neg c1]
      by_cases c2 : 2 * rd l (j : Int) > room
      · rw [if_pos c2] at t1 t2
        rw [if_pos c2, wrap_in (n := x8 + 1) (by omega) (by omega), wrap_in (n := room - rd l (j : Int)) (by omega) (by omega), wrap_in (n := x9 + (room - rd l (j : Int))) (by omega) (by omega)]
        have := hmul (x7 + x8)
        refine ih (j + 1) _ _ _ _ (by omega) (by omega) (by omega) (by push_cast; omega) (by omega) (by push_cast; omega) (by omega) (by push_cast; omega) ?_ ?_ k (by omega)
        · show x7 + (x8 + 1) = tot (fun i => bigW room a (rd l (i : Int))) (j + 1)
          have hC' : x7 + x8 = tot (fun i => bigW room a (rd l (i : Int))) j := hC
          unfold bigW at hC' ⊢; omega
        · show room * (x7 + (x8 + 1)) + (x10 - (x9 + (room - rd l (j : Int)))) = tot (fun i => gW room a (rd l (i : Int))) (j + 1)
          have hT' : room * (x7 + x8) + (x10 - x9) = tot (fun i => gW room a (rd l (i : Int))) j := hT
          rw [show x7 + (x8 + 1) = x7 + x8 + 1 by omega]
          unfold gW at hT' ⊢; omega
      · rw [if_neg c2] at t1 t2
        rw [if_neg c2]
        by_cases c3 : rd l (j : Int) ≥ a
        · rw [if_pos c3] at t2
          rw [if_pos (hmx.2 c3), wrap_in (n := x10 + rd l (j : Int)) (by omega) (by omega)]
          refine ih (j + 1) _ _ _ _ (by omega) (by omega) (by omega) (by push_cast; omega) (by omega) (by push_cast; omega) (by omega) (by push_cast; omega) ?_ ?_ k (by omega)
          · show x7 + x8 = tot (fun i => bigW room a (rd l (i : Int))) (j + 1)
            have hC' : x7 + x8 = tot (fun i => bigW room a (rd l (i : Int))) j := hC
            unfold bigW at hC' ⊢; omega
          · show room * (x7 + x8) + (x10 + rd l (j : Int) - x9) = tot (fun i => gW room a (rd l (i : Int))) (j + 1)
            have hT' : room * (x7 + x8) + (x10 - x9) = tot (fun i => gW room a (rd l (i : Int))) j := hT
            unfold gW at hT' ⊢; omega
        · rw [if_neg c3] at t2
          rw [if_neg (fun k => c3 (hmx.1 k))]
          refine ih (j + 1) _ _ _ _ (by omega) (by omega) (by omega) (by push_cast; omega) (by omega) (by push_cast; omega) (by omega) (by push_cast; omega) ?_ ?_ k (by omega)
          · show x7 + x8 = tot (fun i => bigW room a (rd l (i : Int))) (j + 1)
            have hC' : x7 + x8 = tot (fun i => bigW room a (rd l (i : Int))) j := hC
            unfold bigW at hC' ⊢; omega
          · show room * (x7 + x8) + (x10 - x9) = tot (fun i => gW room a (rd l (i : Int))) (j + 1)
            have hT' : room * (x7 + x8) + (x10 - x9) = tot (fun i => gW room a (rd l (i : Int))) j := hT
            unfold gW at hT' ⊢; omega
theorem weigh_val {room a : Int} (h1 : 1 ≤ room) (h2 : room ≤ 100) (ha : 0 ≤ a) (ha2 : 2 * a ≤ room) (l : List Int) (h12 : l.length ≤ 12) (hp : ∀ i, i < l.length → 1 ≤ pz l i ∧ pz l i ≤ room) (k : Nat) (hk : 13 ≤ k) : remnant_weigh.f k room l a = some (wgt room a (pz l) l.length) := by
  have h := weigh_go h1 h2 ha ha2 l h12 hp l.length 0 0 0 0 0 (by omega) (by omega) (by omega) (by omega) (by omega) (by omega) (by omega) (by omega) rfl (by unfold tot; simp) k (by omega)
  exact h
/-- The greatest weight. -/
theorem weight_go {room : Int} (h1 : 1 ≤ room) (h2 : room ≤ 100) (l : List Int) (h12 : l.length ≤ 12) (hp : ∀ i, i < l.length → 1 ≤ pz l i ∧ pz l i ≤ room) : ∀ (m j : Nat) (x7 x8 : Int), (j : Int) + m = room / 2 + 1 →
    (j = 0 ∧ x7 = -1 ∨ (0 ≤ x8 ∧ 2 * x8 ≤ room ∧ x7 = wgt room x8 (pz l) l.length ∧ ∀ a : Int, 0 ≤ a → a < j → wgt room a (pz l) l.length ≤ x7)) →
    ∃ w at_ : Int, (0 ≤ at_ ∧ 2 * at_ ≤ room ∧ w = wgt room at_ (pz l) l.length ∧ ∀ a : Int, 0 ≤ a → 2 * a ≤ room → wgt room a (pz l) l.length ≤ w) ∧ ∀ k, m + 13 < k → remnant_Weight.l0 k room l x7 x8 (room / 2 + 1) (j : Int) = some (w, at_, 0) := by
  intro m
  induction m with
  | zero =>
    intro j x7 x8 hj hI
    rcases hI with ⟨rfl, _⟩ | ⟨i1, i2, i3, i4⟩
    · omega
    · refine ⟨x7, x8, ⟨i1, i2, i3, fun a ha ha2 => i4 a ha (by omega)⟩, fun k hk => ?_⟩
      obtain ⟨k, rfl⟩ : ∃ k', k = k' + 1 := ⟨k - 1, by omega⟩
      rw [remnant_Weight.l0, if_neg (by omega)]
  | succ m ih =>
    intro j x7 x8 hj hI
    have hw := fun k hk => weigh_val h1 h2 (a := (j : Int)) (by omega) (by omega) l h12 hp k hk
    have hn := wgt_nonneg room (j : Int) (pz l) l.length
    obtain ⟨w, at_, hP, hk⟩ := ih (j + 1) (if wgt room (j : Int) (pz l) l.length > x7 then wgt room (j : Int) (pz l) l.length else x7) (if wgt room (j : Int) (pz l) l.length > x7 then (j : Int) else x8) (by push_cast; omega) (by
      right
      rcases hI with ⟨rfl, rfl⟩ | ⟨i1, i2, i3, i4⟩
      · rw [if_pos (by omega), if_pos (by omega)]
        exact ⟨by omega, by omega, rfl, fun a h0 h1 => by rw [show a = ((0 : Nat) : Int) by omega]; exact Int.le_refl _⟩
      · by_cases c : wgt room (j : Int) (pz l) l.length > x7
        · rw [if_pos c, if_pos c]
          refine ⟨by omega, by omega, rfl, fun a h0 h1 => ?_⟩
          by_cases e : a = (j : Int)
          · rw [e]; exact Int.le_refl _
          · have := i4 a h0 (by omega); omega
        · rw [if_neg c, if_neg c]
          refine ⟨i1, i2, i3, fun a h0 h1 => ?_⟩
          by_cases e : a = (j : Int)
          · rw [e]; omega
          · exact i4 a h0 (by omega))
    refine ⟨w, at_, hP, fun k hk' => ?_⟩
    obtain ⟨k, rfl⟩ : ∃ k', k = k' + 1 := ⟨k - 1, by omega⟩
    have h := hk k (by omega)
    rw [remnant_Weight.l0, if_pos (by omega), hw k (by omega), Option.bind_some, next (by omega)]
    split at h
    · rename_i c; rw [if_pos c]; exact h
    · rename_i c; rw [if_neg c]; exact h
theorem half (room : Int) (h1 : 1 ≤ room) (h100 : room ≤ 100) : wrap64 (Int.tdiv room 2) = room / 2 := by
  rw [Int.tdiv_eq_ediv_of_nonneg (by omega), wrap_in (by omega) (by omega)]

end Go.Proofs.Ytoecbchfdgbliaa.Math

