-- Plain lemmas: where pieces fit, the walk over the packings finds one; the bound by weights.
import Derived.Test.YtcjglbipkghhnaaMathP
import Derived.Test.YtcjglbipkghhnaaHandI
namespace Go.Proofs.Ytcjglbipkghhnaa.Math
open Go.RowKit Go.Proofs.YtcjglbipkghhnaaW.PrintWords Go.Proofs.YtcjglbipkghhnaaW.PrintLast Go.Proofs.YtcjglbipkghhnaaW.PrintMore
open Go.Proofs.Ytcjglbipkghhnaa.Hand hiding look
set_option linter.unusedVariables false

/-- What box b gets of the pieces from j on, d of them. -/
def ld (p : Nat → Int) (g : Nat → Nat) (b : Nat) : Nat → Nat → Int
  | _, 0 => 0
  | j, d + 1 => (if g j = b then p j else 0) + ld p g b (j + 1) d
theorem ld_nonneg {p : Nat → Int} (g : Nat → Nat) (b : Nat) : ∀ (d j : Nat), (∀ i, j ≤ i → i < j + d → 0 ≤ p i) → 0 ≤ ld p g b j d
  | 0, j, _ => Int.le_refl _
  | d + 1, j, h => by
    have h1 := ld_nonneg g b d (j + 1) fun i h1 h2 => h i (by omega) (by omega)
    have h2 := h j (Nat.le_refl _) (by omega)
    rw [ld]
    split <;> omega
theorem ld_congr {p : Nat → Int} {g g' : Nat → Nat} {b b' : Nat} : ∀ (d j : Nat), (∀ i, j ≤ i → i < j + d → (g i = b ↔ g' i = b')) → ld p g b j d = ld p g' b' j d
  | 0, j, _ => rfl
  | d + 1, j, h => by
    rw [ld, ld, ld_congr d (j + 1) fun i h1 h2 => h i (by omega) (by omega)]
    have h1 := h j (Nat.le_refl _) (by omega)
    by_cases e : g j = b
    · rw [if_pos e, if_pos (h1.1 e)]
    · rw [if_neg e, if_neg fun k => e (h1.2 k)]
def Feas (room : Int) (p : Nat → Int) (most j d : Nat) (x : Nat → Int) : Prop := ∃ g : Nat → Nat, (∀ i, j ≤ i → i < j + d → g i < most) ∧ ∀ b, b < most → x b + ld p g b j d ≤ room

theorem packs_ne (room : Int) (ps : List Int) (most : Nat) (hp : ∀ i : Nat, i < ps.length → 0 ≤ rd ps (i : Int)) (hm : most ≤ 12) : ∀ (d : Nat) (l : List Int) (n : Nat) (x : List Int), l.length + d = ps.length → n ≤ most → x.length = 12 →
    (∀ b, n ≤ b → x.getD b 0 = 0) → Feas room (fun i => rd ps (i : Int)) most l.length d (fun b => x.getD b 0) → packs room ps most d l n x ≠ []
  | 0, l, n, x, _, _, _, _, _ => by rw [packs]; exact List.cons_ne_nil _ _
  | d + 1, l, n, x, hd, hn, hx, hz, hF => by
    have hpos : ∀ i, l.length + 1 ≤ i → i < l.length + 1 + d → 0 ≤ (fun i : Nat => rd ps (i : Int)) i := fun i _ h => hp i (by omega)
    obtain ⟨g, hgn, hg, hl⟩ : ∃ g : Nat → Nat, g l.length ≤ n ∧ (∀ i, l.length ≤ i → i < l.length + (d + 1) → g i < most) ∧ ∀ b, b < most → x.getD b 0 + ld (fun i => rd ps (i : Int)) g b l.length (d + 1) ≤ room := by
      obtain ⟨g, hg, hl⟩ := hF
      have hl : ∀ b, b < most → x.getD b 0 + ld (fun i => rd ps (i : Int)) g b l.length (d + 1) ≤ room := hl
      have h0 := hg l.length (Nat.le_refl _) (by omega)
      by_cases hb : g l.length ≤ n
      · exact ⟨g, hb, hg, hl⟩
      · refine ⟨fun i => if g i = g l.length then n else if g i = n then g l.length else g i, by simp, fun i h1 h2 => ?_, fun b hb => ?_⟩
        · have := hg i h1 h2
          try dsimp only
          split
          · omega
          · split <;> omega
        · by_cases e1 : b = n
          · have := hl (g l.length) h0
            rw [hz _ (by omega)] at this
            rw [e1, hz n (Nat.le_refl _), ← ld_congr (g := g) (b := g l.length) (d + 1) l.length]
            · exact this
            · intro i h1 h2
              try dsimp only
              split
              · omega
              · split <;> omega
          · by_cases e2 : b = g l.length
            · have := hl n (by omega)
              rw [hz _ (Nat.le_refl _)] at this
              rw [e2, hz _ (by omega), ← ld_congr (g := g) (b := n) (d + 1) l.length]
              · exact this
              · intro i h1 h2
                try dsimp only
                split
                · omega
                · split <;> omega
            · rw [← ld_congr (g := g) (b := b) (d + 1) l.length]
              · exact hl b hb
              · intro i h1 h2
                try dsimp only
                split
                · omega
                · split <;> omega
    have hk := hg l.length (Nat.le_refl _) (by omega)
    intro h
    rw [packs, List.flatMap_eq_nil_iff] at h
    have h1 := h (g l.length) (List.mem_range.2 (by omega))
    have h2 := hl (g l.length) hk
    rw [ld, if_pos rfl] at h2
    have h3 := ld_nonneg (p := fun i => rd ps (i : Int)) g (g l.length) d (l.length + 1) hpos
    rw [if_neg (by omega)] at h1
    have hget : ∀ b : Nat, (x.set (g l.length) (x.getD (g l.length) 0 + rd ps (l.length : Int))).getD b 0 = if g l.length = b then x.getD (g l.length) 0 + rd ps (l.length : Int) else x.getD b 0 := fun b => by
      rw [List.getD_eq_getElem?_getD, List.getElem?_set]
      split
      · rw [if_pos (by omega)]; rfl
      · rw [← List.getD_eq_getElem?_getD]
    refine packs_ne room ps most hp hm d _ _ _ (by simp; omega) (by omega) (by simp [hx]) (fun b hb => ?_) ?_ h1
    · rw [hget, if_neg (by omega), hz b (by omega)]
    · refine ⟨g, fun i h1 h2 => hg i (by simp at h1; omega) (by simp at h2; omega), fun b hb => ?_⟩
      try dsimp only
      rw [hget, List.length_append, List.length_singleton]
      have h4 := hl b hb
      rw [ld] at h4
      split
      · rename_i e
        rw [if_pos e] at h4
        rw [← e] at h4 ⊢
        omega
      · rename_i e
        rw [if_neg e] at h4
        omega

/-- What the walk finds is a packing. -/
theorem packs_part (room : Int) (ps : List Int) (most : Nat) (hp : ∀ i : Nat, i < ps.length → 0 ≤ rd ps (i : Int)) (hm : most ≤ 12) : ∀ (d : Nat) (l : List Int) (n : Nat) (x : List Int), l.length + d = ps.length → Part room ps most l n x →
    ∀ l' ∈ packs room ps most d l n x, l'.length = ps.length ∧ ∃ n' y, Part room ps most l' n' y
  | 0, l, n, x, hd, hP, l', hl' => by
    rw [packs] at hl'
    obtain rfl := List.mem_singleton.1 hl'
    exact ⟨by omega, n, x, hP⟩
  | d + 1, l, n, x, hd, hP, l', hl' => by
    rw [packs, List.mem_flatMap] at hl'
    obtain ⟨k, hk, hl'⟩ := hl'
    have hk := List.mem_range.1 hk
    split at hl'
    · cases hl'
    · rename_i hf
      exact packs_part room ps most hp hm d _ _ _ (by simp; omega) (hP.step (by omega) (by omega) (by omega) hm (hp _ (by omega)) (by omega)) l' hl'

theorem bestL_found (room : Int) (ps : List Int) : ∀ (d most m : Nat), most ≤ m → m < most + d → packs room ps m ps.length [] 0 (List.replicate 12 0) ≠ [] → (∀ m', most ≤ m' → m' < m → packs room ps m' ps.length [] 0 (List.replicate 12 0) = []) →
    ∃ l ∈ packs room ps m ps.length [] 0 (List.replicate 12 0), bestL room ps d most = (l, (m : Int), 0)
  | 0, most, m, h1, h2, _, _ => by omega
  | d + 1, most, m, h1, h2, h3, h4 => by
    rw [bestL]
    by_cases e : most = m
    · subst e
      cases hq : packs room ps most ps.length [] 0 (List.replicate 12 0) with
      | nil => exact absurd hq h3
      | cons l t => exact ⟨l, List.mem_cons_self, rfl⟩
    · rw [h4 most (Nat.le_refl _) (by omega)]
      exact bestL_found room ps d (most + 1) m (by omega) (by omega) h3 fun m' h5 h6 => h4 m' (by omega) h6

end Go.Proofs.Ytcjglbipkghhnaa.Math
