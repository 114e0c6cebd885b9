/- The prime powers of a modulus: what is a permutation for each, and which number has the remainders. -/
import Derived.Test.YtpkmmbicpijgpaaMathH
import Derived.Test.YtpkmmbicpijgpaaMathJ
import Derived.Test.YtpkmmbicpijgpaaFx5

namespace Go.Proofs.Ytpkmmbicpijgpaa.Pure
open Go.RowKit Go.Proofs.Ytpkmmbicpijgpaa.F Go.Proofs.YtpkmmbicpijgpaaW.PrintWords Go.Proofs.YtpkmmbicpijgpaaW.PrintLast
open Go.Proofs.Ytpkmmbicpijgpaa.MathA Go.Proofs.Ytpkmmbicpijgpaa.MathB

/-! ### the first two equal places -/
theorem idxS_add (v : Int) : ∀ (l : List Int) (j c : Nat), idxS v (j + c) l = if 0 ≤ idxS v j l then idxS v j l + (c : Int) else -1
  | [], j, c => by simp [idxS]
  | a :: l, j, c => by
    rw [idxS, idxS]
    by_cases h : v = a
    · rw [if_pos h, if_pos h, if_pos (by omega)]; push_cast; rfl
    · rw [if_neg h, if_neg h, show j + c + 1 = (j + 1) + c by omega, idxS_add v l (j + 1) c]

theorem equal_l1 (f : List Int) (hl : f.length ≤ 1000) (x : Nat) (hx : x < f.length) {r : Int × Int} (hr : Ev (fun k => galloonref06_Equal.l0 k f ((x + 1 : Nat) : Int)) r) : ∀ (d y : Nat), y + d = f.length →
    Ev (fun k => galloonref06_Equal.l1 k f (x : Int) (y : Int)) (if 0 ≤ idxS (f.getD x 0) y (f.drop y) then ((x : Int), idxS (f.getD x 0) y (f.drop y)) else r) := by
  intro d
  induction d with
  | zero =>
    intro y hy
    refine Ev.step (fun k => by simp only [galloonref06_Equal.l1]; exact rfl) ?_
    have e : f.drop y = [] := List.drop_eq_nil_of_le (by omega)
    have ex : wrap64 ((x : Int) + 1) = ((x + 1 : Nat) : Int) := nat_step (by omega)
    rw [e, idxS, if_neg (by omega), ex]
    exact Ev.neg (by omega) hr
  | succ d ih =>
    intro y hy
    refine Ev.step (fun k => by simp only [galloonref06_Equal.l1]; exact rfl) ?_
    refine Ev.pos (by omega) (Ev.pos (by omega) (Ev.pos (by omega) (Ev.pos (by omega) ?_)))
    rw [rd_nat, rd_nat, drop_getD (show y < f.length by omega), idxS]
    by_cases h : f.getD x 0 = f.getD y 0
    · rw [if_pos h, if_pos (by omega)]
      exact Ev.pos h (Ev.now _)
    · rw [if_neg h, nat_step (by omega)]
      exact Ev.neg h (ih (y + 1) (by omega))

theorem equal_l0 (f : List Int) (hl : f.length ≤ 1000) : ∀ (d x : Nat), x + d = f.length → Ev (fun k => galloonref06_Equal.l0 k f (x : Int)) (twiceS x (f.drop x)) := by
  intro d
  induction d with
  | zero =>
    intro x hx
    refine Ev.step (fun k => by simp only [galloonref06_Equal.l0]; exact rfl) ?_
    have e : f.drop x = [] := List.drop_eq_nil_of_le (by omega)
    rw [e]
    exact Ev.neg (by omega) (Ev.now _)
  | succ d ih =>
    intro x hx
    refine Ev.step (fun k => by simp only [galloonref06_Equal.l0]; exact rfl) ?_
    refine Ev.pos (by omega) ?_
    rw [nat_step (by omega)]
    have h1 := equal_l1 f hl x (by omega) (ih (x + 1) (by omega)) d (x + 1) (by omega)
    rw [drop_getD (show x < f.length by omega), twiceS]
    have e := idxS_add (f.getD x 0) (f.drop (x + 1)) 0 (x + 1)
    rw [Nat.zero_add] at e
    rw [e] at h1
    by_cases h0 : 0 ≤ idxS (f.getD x 0) 0 (f.drop (x + 1))
    · rw [if_pos h0]
      rw [if_pos h0, if_pos (by omega)] at h1
      have e2 : (x : Int) + 1 + idxS (f.getD x 0) 0 (f.drop (x + 1)) = idxS (f.getD x 0) 0 (f.drop (x + 1)) + ((x + 1 : Nat) : Int) := by omega
      rw [e2]
      exact h1
    · rw [if_neg h0]
      rw [if_neg h0, if_neg (by omega)] at h1
      exact h1
theorem equal_ev (f : List Int) (hl : f.length ≤ 1000) : Ev (fun k => galloonref06_Equal.f k f) (twiceS 0 f) := equal_l0 f hl f.length 0 (by omega)

/-! ### what moves along -/

end Go.Proofs.Ytpkmmbicpijgpaa.Pure

namespace Go.Proofs.Ytpkmmbicpijgpaa.Pure
open Go.RowKit Go.Proofs.Ytpkmmbicpijgpaa.F Go.Proofs.YtpkmmbicpijgpaaW.PrintWords Go.Proofs.YtpkmmbicpijgpaaW.PrintLast
open Go.Proofs.Ytpkmmbicpijgpaa.MathA Go.Proofs.Ytpkmmbicpijgpaa.MathB

/-! ### what the kernel reckons of each of the 63 moduli -/
def permB (f : List Int) : Bool := decide ((twiceS 0 f).1 < 0)
theorem permB_iff (f : List Int) : permB f = true ↔ ∀ p q, p < q → q < f.length → f.getD p 0 ≠ f.getD q 0 := by
  unfold permB
  rw [decide_eq_true_iff]
  rcases twiceS_spec f 0 with ⟨h1, h2⟩ | ⟨p, q, h1, h2, h3, h4⟩
  · rw [h1]
    exact ⟨fun _ => h2, fun _ => by show (-1 : Int) < 0; omega⟩
  · rw [h4]
    constructor
    · intro h; simp at h; omega
    · intro h; exact absurd h3 (h p q h1 h2)
theorem twice_first (f : List Int) : ((twiceS 0 f).1 == -1) = permB f := by
  unfold permB
  rcases twiceS_spec f 0 with ⟨h1, _⟩ | ⟨p, q, _, _, _, h4⟩
  · rw [h1]; rfl
  · rw [h4, Bool.eq_iff_iff, beq_iff_eq, decide_eq_true_iff]
    constructor <;> intro h <;> simp at h <;> omega


end Go.Proofs.Ytpkmmbicpijgpaa.Pure

