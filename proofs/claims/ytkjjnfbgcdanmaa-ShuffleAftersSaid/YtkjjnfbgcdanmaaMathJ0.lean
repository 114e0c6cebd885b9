/- Whatever list and number: what is a function, what is a polynomial, and where two polynomials differ: the program. -/
import Derived.Test.YtkjjnfbgcdanmaaMathE
import Derived.Test.YtkjjnfbgcdanmaaPx8 -- @shuffle_Same
namespace Go.Proofs.Ytkjjnfbgcdanmaa.Pure
open Go.RowKit Go.Proofs.Ytkjjnfbgcdanmaa.P Go.Proofs.YtkjjnfbgcdanmaaW.PrintWords Go.Proofs.YtkjjnfbgcdanmaaW.PrintLast
open Go.Proofs.Ytkjjnfbgcdanmaa.MathA Go.Proofs.Ytkjjnfbgcdanmaa.MathB

theorem nat_step {j : Nat} (h : j ≤ 1000000) : wrap64 ((j : Int) + 1) = ((j + 1 : Nat) : Int) := by
  rw [wrap_in (by omega) (by omega)]; push_cast; rfl

def remB (m : Int) (l : List Int) : Bool := l.all fun v => decide (0 ≤ v) && decide (v < m)

theorem remB_iff {m : Nat} (l : List Int) : remB (m : Int) l = true ↔ Rem m l := by
  unfold remB Rem
  rw [List.all_eq_true]
  constructor
  · intro h v hv; have := h v hv; simpa using this
  · intro h v hv; have := h v hv; simpa using this

theorem remF_eq_remB {m : Int} (h0 : 2 ≤ m) (h1 : m ≤ 64) (l : List Int) : Hand.remF m l = remB m l := by
  unfold Hand.remF remB
  congr 1
  funext v
  unfold Hand.within
  rw [wrap_in (n := m - 1) (by omega) (by omega)]
  by_cases hv : v ≥ 0
  · rw [if_pos hv, decide_eq_true (show 0 ≤ v from hv), Bool.true_and]
    by_cases h2 : v < m
    · rw [decide_eq_true h2, decide_eq_true (by omega)]
    · rw [decide_eq_false h2, decide_eq_false (by omega)]
  · rw [if_neg hv, decide_eq_false (show ¬ 0 ≤ v from hv), Bool.false_and]

theorem isMod_gen (a : Int) : shuffle_isModulus.f a = some (decide (2 ≤ a ∧ a ≤ 64)) := by
  unfold shuffle_isModulus.f shuffle_within.f
  by_cases h1 : a ≥ 2
  · rw [if_pos h1]
    simp only [Option.bind_some]
    by_cases h2 : a ≤ 64
    · rw [decide_eq_true h2, decide_eq_true ⟨h1, h2⟩]
    · rw [decide_eq_false h2, decide_eq_false (fun h => h2 h.2)]
  · rw [if_neg h1, decide_eq_false (fun h => h1 h.1)]
    rfl

theorem isFun_gen {m : Int} (h0 : 2 ≤ m) (h1 : m ≤ 64) (l : List Int) : shuffle_isFunction.f m l = some (decide ((l.length : Int) = m) && remB m l) := by
  unfold shuffle_isFunction.f shuffle_areRemainders.f
  rw [isMod_gen, decide_eq_true ⟨h0, h1⟩]
  simp only [Option.bind_some, if_true]
  by_cases h : (l.length : Int) = m
  · rw [if_pos h, decide_eq_true h, remF_eq_remB h0 h1, Bool.true_and]
  · rw [if_neg h, decide_eq_false h, Bool.false_and]
theorem isPoly_gen {m : Int} (h0 : 2 ≤ m) (h1 : m ≤ 64) (l : List Int) : shuffle_isPolynomial.f m l = some (decide ((l.length : Int) ≤ 12) && remB m l) := by
  unfold shuffle_isPolynomial.f shuffle_areRemainders.f
  rw [isMod_gen, decide_eq_true ⟨h0, h1⟩]
  simp only [Option.bind_some, if_true]
  by_cases h : (l.length : Int) ≤ 12
  · rw [if_pos h, decide_eq_true h, remF_eq_remB h0 h1, Bool.true_and]
  · rw [if_neg h, decide_eq_false h, Bool.false_and]
theorem isFun_not {m : Int} (h : ¬ (2 ≤ m ∧ m ≤ 64)) (l : List Int) : shuffle_isFunction.f m l = some false := by
  unfold shuffle_isFunction.f
  rw [isMod_gen, decide_eq_false h]
  rfl
theorem isPoly_not {m : Int} (h : ¬ (2 ≤ m ∧ m ≤ 64)) (l : List Int) : shuffle_isPolynomial.f m l = some false := by
  unfold shuffle_isPolynomial.f
  rw [isMod_gen, decide_eq_false h]
  rfl

def diffS : Nat → List Int → List Int → Int
  | i, a :: l, b :: r => if a = b then diffS (i + 1) l r else (i : Int)
  | _, _, _ => -1

theorem drop_getD {l : List Int} {j : Nat} (hj : j < l.length) : l.drop j = l.getD j 0 :: l.drop (j + 1) := by
  rw [List.drop_eq_getElem_cons hj]
  simp [hj]

theorem same_l0 {m : Nat} (h : Mod m) {p q : List Int} (hp : Rem m p) (hq : Rem m q) : ∀ (d j : Nat), j + d = m →
    Ev (fun k => shuffle_Same.l0 k (m : Int) p q (m : Int) (j : Int)) (diffS j ((valS m p).drop j) ((valS m q).drop j), 0) := by
  have h1 := h.lo
  have h2 := h.hi
  have l1 := valS_length m p
  have l2 := valS_length m q
  intro d
  induction d with
  | zero =>
    intro j hj
    refine Ev.step (fun k => by simp only [shuffle_Same.l0]; exact rfl) ?_
    have e : (valS m p).drop j = [] := List.drop_eq_nil_of_le (by omega)
    rw [e]
    exact Ev.neg (by omega) (Ev.now _)
  | succ d ih =>
    intro j hj
    refine Ev.step (fun k => by simp only [shuffle_Same.l0]; exact rfl) ?_
    refine Ev.pos (by omega) ?_
    rw [at_ev h (j : Int) (by omega) (by omega) p hp, at_ev h (j : Int) (by omega) (by omega) q hq]
    simp only [Option.bind_some]
    rw [drop_getD (show j < (valS m p).length by omega), drop_getD (show j < (valS m q).length by omega), diffS, valS_get p (show j < m by omega), valS_get q (show j < m by omega)]
    by_cases he : horn p (j : Int) % (m : Int) = horn q (j : Int) % (m : Int)
    · rw [if_pos he, nat_step (by omega)]
      exact Ev.pos he (ih (j + 1) (by omega))
    · rw [if_neg he]
      exact Ev.neg he (Ev.now _)

theorem same_ev {m : Nat} (h : Mod m) {p q : List Int} (hp : Rem m p) (hq : Rem m q) (h12 : p.length ≤ 12) (k12 : q.length ≤ 12) : Ev (fun k => shuffle_Same.f k (m : Int) p q) (diffS 0 (valS m p) (valS m q), 0) := by
  refine Ev.congr (f := fun k => shuffle_Same.j0 k (m : Int) p q false) (fun k => by unfold shuffle_Same.f; rw [isPoly_ev h hp h12]; simp only [Option.bind_some, if_true]; rw [isPoly_ev h hq k12]; rfl) ?_
  refine Ev.step (fun k => by simp only [shuffle_Same.j0]; exact rfl) ?_
  exact Ev.neg (by simp) (same_l0 h hp hq m 0 (by omega))

end Go.Proofs.Ytkjjnfbgcdanmaa.Pure
