/- What is a function, and where two differ: the reference. -/
import Derived.Test.YtpkmmbicpijgpaaMathE
import Derived.Test.YtpkmmbicpijgpaaFx3

namespace Go.Proofs.Ytpkmmbicpijgpaa.Pure
open Go.RowKit Go.Proofs.Ytpkmmbicpijgpaa.F Go.Proofs.YtpkmmbicpijgpaaW.PrintWords Go.Proofs.YtpkmmbicpijgpaaW.PrintLast
open Go.Proofs.Ytpkmmbicpijgpaa.MathA Go.Proofs.Ytpkmmbicpijgpaa.MathB


theorem nat_step {j : Nat} (h : j ≤ 1000000) : wrap64 ((j : Int) + 1) = ((j + 1 : Nat) : Int) := by
  rw [wrap_in (by omega) (by omega)]; push_cast; rfl

def remB (m : Int) (l : List Int) : Bool := l.all fun v => decide (0 ≤ v) && decide (v < m)

theorem remB_iff {m : Nat} (l : List Int) : remB (m : Int) l = true ↔ Rem m l := by
  unfold remB Rem
  rw [List.all_eq_true]
  constructor
  · intro h v hv; have := h v hv; simpa using this
  · intro h v hv; have := h v hv; simpa using this

theorem remF_eq_remB {m : Int} (h0 : 2 ≤ m) (h1 : m ≤ 64) (l : List Int) : Hand.remF m l = remB m l := by
  unfold Hand.remF remB
  congr 1
  funext v
  unfold Hand.within
  rw [wrap_in (n := m - 1) (by omega) (by omega)]
  by_cases hv : v ≥ 0
  · rw [if_pos hv, decide_eq_true (show 0 ≤ v from hv), Bool.true_and]
    by_cases h2 : v < m
    · rw [decide_eq_true h2, decide_eq_true (by omega)]
    · rw [decide_eq_false h2, decide_eq_false (by omega)]
  · rw [if_neg hv, decide_eq_false (show ¬ 0 ≤ v from hv), Bool.false_and]

theorem isMod_gen (a : Int) : shuffle_isModulus.f a = some (decide (2 ≤ a ∧ a ≤ 64)) := by
  unfold shuffle_isModulus.f shuffle_within.f
  by_cases h1 : a ≥ 2
  · rw [if_pos h1]
    simp only [Option.bind_some]
    by_cases h2 : a ≤ 64
    · rw [decide_eq_true h2, decide_eq_true ⟨h1, h2⟩]
    · rw [decide_eq_false h2, decide_eq_false (fun h => h2 h.2)]
  · rw [if_neg h1, decide_eq_false (fun h => h1 h.1)]
    rfl

theorem isFun_gen {m : Int} (h0 : 2 ≤ m) (h1 : m ≤ 64) (l : List Int) : shuffle_isFunction.f m l = some (decide ((l.length : Int) = m) && remB m l) := by
  unfold shuffle_isFunction.f shuffle_areRemainders.f
  rw [isMod_gen, decide_eq_true ⟨h0, h1⟩]
  simp only [Option.bind_some, if_true]
  by_cases h : (l.length : Int) = m
  · rw [if_pos h, decide_eq_true h, remF_eq_remB h0 h1, Bool.true_and]
  · rw [if_neg h, decide_eq_false h, Bool.false_and]
theorem isPoly_gen {m : Int} (h0 : 2 ≤ m) (h1 : m ≤ 64) (l : List Int) : shuffle_isPolynomial.f m l = some (decide ((l.length : Int) ≤ 12) && remB m l) := by
  unfold shuffle_isPolynomial.f shuffle_areRemainders.f
  rw [isMod_gen, decide_eq_true ⟨h0, h1⟩]
  simp only [Option.bind_some, if_true]
  by_cases h : (l.length : Int) ≤ 12
  · rw [if_pos h, decide_eq_true h, remF_eq_remB h0 h1, Bool.true_and]
  · rw [if_neg h, decide_eq_false h, Bool.false_and]
theorem isFun_not {m : Int} (h : ¬ (2 ≤ m ∧ m ≤ 64)) (l : List Int) : shuffle_isFunction.f m l = some false := by
  unfold shuffle_isFunction.f
  rw [isMod_gen, decide_eq_false h]
  rfl
theorem isPoly_not {m : Int} (h : ¬ (2 ≤ m ∧ m ≤ 64)) (l : List Int) : shuffle_isPolynomial.f m l = some false := by
  unfold shuffle_isPolynomial.f
  rw [isMod_gen, decide_eq_false h]
  rfl

theorem drop_getD {l : List Int} {j : Nat} (hj : j < l.length) : l.drop j = l.getD j 0 :: l.drop (j + 1) := by
  rw [List.drop_eq_getElem_cons hj]
  simp [hj]



end Go.Proofs.Ytpkmmbicpijgpaa.Pure

namespace Go.Proofs.Ytpkmmbicpijgpaa.Pure
open Go.RowKit Go.Proofs.Ytpkmmbicpijgpaa.F Go.Proofs.YtpkmmbicpijgpaaW.PrintWords Go.Proofs.YtpkmmbicpijgpaaW.PrintLast
open Go.Proofs.Ytpkmmbicpijgpaa.MathA Go.Proofs.Ytpkmmbicpijgpaa.MathB

theorem refMod_gen (a : Int) : galloonref06_Modulus.f a = some (decide (2 ≤ a ∧ a ≤ 64)) := by
  unfold galloonref06_Modulus.f
  by_cases h1 : a ≥ 2
  · rw [if_pos h1]
    by_cases h2 : a ≤ 64
    · rw [decide_eq_true h2, decide_eq_true ⟨h1, h2⟩]
    · rw [decide_eq_false h2, decide_eq_false (fun h => h2 h.2)]
  · rw [if_neg h1, decide_eq_false (fun h => h1 h.1)]

theorem listed_l0 (m : Int) (l : List Int) (hl : l.length ≤ 1000) : ∀ (d j : Nat), j + d = l.length → Ev (fun k => galloonref06_Listed.l0 k m l (j : Int)) (remB m (l.drop j)) := by
  intro d
  induction d with
  | zero =>
    intro j hj
    refine Ev.step (fun k => by simp only [galloonref06_Listed.l0]; exact rfl) ?_
    have e : l.drop j = [] := List.drop_eq_nil_of_le (by omega)
    rw [e]
    exact Ev.neg (by omega) (Ev.now _)
  | succ d ih =>
    intro j hj
    refine Ev.step (fun k => by simp only [galloonref06_Listed.l0]; exact rfl) ?_
    have e : l.drop j = l.getD j 0 :: l.drop (j + 1) := by
      rw [List.drop_eq_getElem_cons (show j < l.length by omega)]
      simp [show j < l.length by omega]
    have e2 : remB m (l.drop j) = (decide (0 ≤ l.getD j 0) && decide (l.getD j 0 < m) && remB m (l.drop (j + 1))) := by rw [e]; simp [remB]
    refine Ev.pos (by omega) (Ev.pos (by omega) ?_)
    rw [rd_nat, e2]
    by_cases h0 : l.getD j 0 < 0
    · rw [decide_eq_false (show ¬ 0 ≤ l.getD j 0 by omega)]
      exact Ev.pos h0 (Ev.now _)
    · rw [decide_eq_true (show 0 ≤ l.getD j 0 by omega)]
      refine Ev.neg h0 ?_
      by_cases h1 : l.getD j 0 ≥ m
      · rw [decide_eq_false (show ¬ l.getD j 0 < m by omega)]
        exact Ev.pos h1 (Ev.now _)
      · rw [decide_eq_true (show l.getD j 0 < m by omega), nat_step (by omega)]
        exact Ev.neg h1 (ih (j + 1) (by omega))
theorem listed_ev (m : Int) (l : List Int) (hl : l.length ≤ 1000) : Ev (fun k => galloonref06_Listed.f k m l) (remB m l) := listed_l0 m l hl l.length 0 (by omega)


end Go.Proofs.Ytpkmmbicpijgpaa.Pure

namespace Go.Proofs.Ytpkmmbicpijgpaa.Pure
open Go.RowKit Go.Proofs.Ytpkmmbicpijgpaa.F Go.Proofs.YtpkmmbicpijgpaaW.PrintWords Go.Proofs.YtpkmmbicpijgpaaW.PrintLast
open Go.Proofs.Ytpkmmbicpijgpaa.MathA Go.Proofs.Ytpkmmbicpijgpaa.MathB

theorem refFun_ev (m : Int) (l : List Int) (hl : l.length ≤ 1000) : Ev (fun k => galloonref06_Function.f k m l) (decide ((l.length : Int) = m) && remB m l) := by
  unfold galloonref06_Function.f
  by_cases h : (l.length : Int) = m
  · rw [decide_eq_true h, Bool.true_and]
    exact Ev.pos h (Ev.bind (listed_ev m l hl) (Ev.now _))
  · rw [decide_eq_false h, Bool.false_and]
    exact Ev.neg h (Ev.now _)

end Go.Proofs.Ytpkmmbicpijgpaa.Pure

