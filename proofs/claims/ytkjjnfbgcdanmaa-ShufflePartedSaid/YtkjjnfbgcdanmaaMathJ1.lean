/- Whatever list and number: what is a polynomial, and its function: the reference. -/
import Derived.Test.YtkjjnfbgcdanmaaMathJ00
import Derived.Test.YtkjjnfbgcdanmaaPx4 -- @galloonref06_Modulus
import Derived.Test.YtkjjnfbgcdanmaaPx6 -- @galloonref06_Values
import Derived.Test.YtkjjnfbgcdanmaaPx6 -- @galloonref06_Listed
import Derived.Test.YtkjjnfbgcdanmaaPx6 -- @galloonref06_Polynomial
namespace Go.Proofs.Ytkjjnfbgcdanmaa.Pure
open Go.RowKit Go.Proofs.Ytkjjnfbgcdanmaa.P Go.Proofs.YtkjjnfbgcdanmaaW.PrintWords Go.Proofs.YtkjjnfbgcdanmaaW.PrintLast
open Go.Proofs.Ytkjjnfbgcdanmaa.MathA Go.Proofs.Ytkjjnfbgcdanmaa.MathB

theorem refMod_gen (a : Int) : galloonref06_Modulus.f a = some (decide (2 ≤ a ∧ a ≤ 64)) := by
  unfold galloonref06_Modulus.f
  by_cases h1 : a ≥ 2
  · rw [if_pos h1]
    by_cases h2 : a ≤ 64
    · rw [decide_eq_true h2, decide_eq_true ⟨h1, h2⟩]
    · rw [decide_eq_false h2, decide_eq_false (fun h => h2 h.2)]
  · rw [if_neg h1, decide_eq_false (fun h => h1 h.1)]

theorem listed_l0 (m : Int) (l : List Int) (hl : l.length ≤ 1000) : ∀ (d j : Nat), j + d = l.length → Ev (fun k => galloonref06_Listed.l0 k m l (j : Int)) (remB m (l.drop j)) := by
  intro d
  induction d with
  | zero =>
    intro j hj
    refine Ev.step (fun k => by simp only [galloonref06_Listed.l0]; exact rfl) ?_
    have e : l.drop j = [] := List.drop_eq_nil_of_le (by omega)
    rw [e]
    exact Ev.neg (by omega) (Ev.now _)
  | succ d ih =>
    intro j hj
    refine Ev.step (fun k => by simp only [galloonref06_Listed.l0]; exact rfl) ?_
    have e : l.drop j = l.getD j 0 :: l.drop (j + 1) := by
      rw [List.drop_eq_getElem_cons (show j < l.length by omega)]
      simp [show j < l.length by omega]
    have e2 : remB m (l.drop j) = (decide (0 ≤ l.getD j 0) && decide (l.getD j 0 < m) && remB m (l.drop (j + 1))) := by rw [e]; simp [remB]
    refine Ev.pos (by omega) (Ev.pos (by omega) ?_)
    rw [rd_nat, e2]
    by_cases h0 : l.getD j 0 < 0
    · rw [decide_eq_false (show ¬ 0 ≤ l.getD j 0 by omega)]
      exact Ev.pos h0 (Ev.now _)
    · rw [decide_eq_true (show 0 ≤ l.getD j 0 by omega)]
      refine Ev.neg h0 ?_
      by_cases h1 : l.getD j 0 ≥ m
      · rw [decide_eq_false (show ¬ l.getD j 0 < m by omega)]
        exact Ev.pos h1 (Ev.now _)
      · rw [decide_eq_true (show l.getD j 0 < m by omega), nat_step (by omega)]
        exact Ev.neg h1 (ih (j + 1) (by omega))
theorem listed_ev (m : Int) (l : List Int) (hl : l.length ≤ 1000) : Ev (fun k => galloonref06_Listed.f k m l) (remB m l) := listed_l0 m l hl l.length 0 (by omega)

theorem refPoly_ev (m : Int) (l : List Int) (hl : l.length ≤ 1000) : Ev (fun k => galloonref06_Polynomial.f k m l) (decide ((l.length : Int) ≤ 12) && remB m l) := by
  unfold galloonref06_Polynomial.f
  by_cases h : (l.length : Int) ≤ 12
  · rw [decide_eq_true h, Bool.true_and]
    exact Ev.pos h (Ev.bind (listed_ev m l hl) (Ev.now _))
  · rw [decide_eq_false h, Bool.false_and]
    exact Ev.neg h (Ev.now _)

theorem refVal_l1 {m : Nat} (h : Mod m) {l : List Int} (hl : Rem m l) (h12 : l.length ≤ 1000) (x : Nat) (hx : x < m) (out : List Int) (ho : out.length ≤ 1000) {r : List Int}
    (hr : Ev (fun k => galloonref06_Values.l0 k (m : Int) l (out ++ [horn l (x : Int) % (m : Int)]) ((x + 1 : Nat) : Int)) r) : ∀ (d : Nat), d ≤ l.length →
    Ev (fun k => galloonref06_Values.l1 k (m : Int) l out (x : Int) (horn (l.drop d) (x : Int) % (m : Int)) ((d : Int) - 1)) r := by
  have h1 := h.lo
  have h2 := h.hi
  intro d
  induction d with
  | zero =>
    intro _
    refine Ev.step (fun k => by simp only [galloonref06_Values.l1]; exact rfl) ?_
    refine Ev.neg (by omega) (Ev.pos (by omega) ?_)
    rw [nat_step (by omega)]
    exact hr
  | succ d ih =>
    intro hd
    refine Ev.step (fun k => by simp only [galloonref06_Values.l1]; exact rfl) ?_
    have e0 : ((d + 1 : Nat) : Int) - 1 = (d : Int) := by omega
    rw [e0]
    refine Ev.pos (by omega) (Ev.pos (by omega) (Ev.pos (by omega) (Ev.neg (by omega) ?_)))
    have e : l.drop d = l.getD d 0 :: l.drop (d + 1) := by
      rw [List.drop_eq_getElem_cons (show d < l.length by omega)]
      simp [show d < l.length by omega]
    have hc := hl.get (i := d) (by omega)
    have b1 := Int.emod_nonneg (horn (l.drop (d + 1)) (x : Int)) (show (m : Int) ≠ 0 by omega)
    have b2 := Int.emod_lt_of_pos (horn (l.drop (d + 1)) (x : Int)) (show (0 : Int) < m by omega)
    have b5 := mulmod_small b1 b2 (show (0 : Int) ≤ (x : Int) by omega) (by omega) (by omega)
    rw [rd_nat, wrap_in (n := horn (l.drop (d + 1)) (x : Int) % (m : Int) * (x : Int)) (by omega) (by omega), wrap_in (by omega) (by omega), Int.tmod_eq_emod_of_nonneg (by omega), wrap_in (n := (d : Int) - 1) (by omega) (by omega)]
    have e2 : (horn (l.drop (d + 1)) (x : Int) % (m : Int) * (x : Int) + l.getD d 0) % (m : Int) = horn (l.drop d) (x : Int) % (m : Int) := by
      rw [e, horn, Int.add_emod, Int.mul_emod, Int.emod_emod, ← Int.mul_emod, ← Int.add_emod]
    rw [e2]
    exact ih (by omega)

theorem refVal_l0 {m : Nat} (h : Mod m) {l : List Int} (hl : Rem m l) (h12 : l.length ≤ 1000) : ∀ (d x : Nat), x + d = m →
    Ev (fun k => galloonref06_Values.l0 k (m : Int) l ((List.range x).map fun (x : Nat) => horn l (x : Int) % (m : Int)) (x : Int)) (valS m l) := by
  have h1 := h.lo
  have h2 := h.hi
  intro d
  induction d with
  | zero =>
    intro x hx
    refine Ev.step (fun k => by simp only [galloonref06_Values.l0]; exact rfl) ?_
    refine Ev.neg (by omega) ?_
    obtain rfl : x = m := by omega
    exact Ev.now _
  | succ d ih =>
    intro x hx
    refine Ev.step (fun k => by simp only [galloonref06_Values.l0]; exact rfl) ?_
    refine Ev.pos (by omega) ?_
    have e4 : ((List.range x).map fun (x : Nat) => horn l (x : Int) % (m : Int)) ++ [horn l (x : Int) % (m : Int)] = (List.range (x + 1)).map fun (x : Nat) => horn l (x : Int) % (m : Int) := by simp [List.range_succ]
    have := refVal_l1 h hl h12 x (by omega) ((List.range x).map fun (x : Nat) => horn l (x : Int) % (m : Int)) (by simp; omega) (by rw [e4]; exact ih (x + 1) (by omega)) l.length (Nat.le_refl _)
    have e5 : l.drop l.length = [] := List.drop_eq_nil_of_le (Nat.le_refl _)
    rw [e5] at this
    rw [wrap_in (n := (l.length : Int) - 1) (by omega) (by omega)]
    simpa [horn] using this

theorem refVal_ev {m : Nat} (h : Mod m) {l : List Int} (hl : Rem m l) (h12 : l.length ≤ 1000) : Ev (fun k => galloonref06_Values.f k (m : Int) l) (valS m l) := refVal_l0 h hl h12 m 0 (by omega)


end Go.Proofs.Ytkjjnfbgcdanmaa.Pure
