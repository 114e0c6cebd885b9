-- Order and Cycles: more rounds change nothing.
import Derived.Test.YtpkmmbicpijgpaaHandOC
namespace Go.Proofs.Ytpkmmbicpijgpaa.Hand
open Go.RowKit Go.Shelf Go.Proofs.YtpkmmbicpijgpaaW.PrintWords Go.Proofs.YtpkmmbicpijgpaaW.PrintLast Go.Proofs.YtpkmmbicpijgpaaW.PrintMore
set_option linter.unusedVariables false

theorem cyc_in_mono (f : List Int) : ∀ k s n y r, cyc_in f k s n y = some r → cyc_in f (k + 1) s n y = some r
  | 0, _, _, _, _, h => by cases h
  | k + 1, s, n, y, r, h => by
    rw [cyc_in] at h
    rw [cyc_in]
    split
    · rename_i c
      rw [if_pos c] at h
      split
      · rename_i c2
        rw [if_pos c2] at h
        exact cyc_in_mono f k _ _ _ r h
      · rename_i c2
        rw [if_neg c2] at h
        exact h
    · rename_i c
      rw [if_neg c] at h
      cases h
theorem cyc_out_mono (f : List Int) (k : Nat) : ∀ d s L r, cyc_out f k d s L = some r → cyc_out f (k + 1) d s L = some r
  | 0, _, _, _, h => h
  | d + 1, s, L, r, h => by
    rw [cyc_out] at h
    obtain ⟨t, h1, h2⟩ := Option.bind_eq_some_iff.1 h
    rw [cyc_out, cyc_in_mono f k _ _ _ _ h1, Option.bind_some]
    exact cyc_out_mono f k d _ _ _ h2
theorem cycF_mono (k : Nat) (f : List Int) (r : List (Int × Int)) (h : cycF k f = some r) : cycF (k + 1) f = some r := by
  unfold cycF at h ⊢
  split
  · rename_i c
    rw [if_pos c] at h
    exact cyc_out_mono f k _ _ _ _ h
  · rename_i c
    rw [if_neg c] at h
    cases h
theorem orderF_mono (l : List Int) (k : Nat) (r : Int × Int) (h : orderF k l = some r) : orderF (k + 1) l = some r := by
  unfold orderF at h ⊢
  obtain ⟨L, h1, h2⟩ := Option.bind_eq_some_iff.1 h
  rw [cycF_mono k l L h1, Option.bind_some]
  by_cases c : 70 ≤ k ∧ okOrd L = true
  · rw [if_pos c] at h2
    rw [if_pos ⟨by omega, c.2⟩]
    exact h2
  · rw [if_neg c] at h2; cases h2
theorem cyclesF_mono (l : List Int) (k : Nat) (r : List Int × Int) (h : cyclesF k l = some r) : cyclesF (k + 1) l = some r := by
  unfold cyclesF at h ⊢
  obtain ⟨L, h1, h2⟩ := Option.bind_eq_some_iff.1 h
  rw [cycF_mono k l L h1, Option.bind_some]
  exact h2

end Go.Proofs.Ytpkmmbicpijgpaa.Hand
