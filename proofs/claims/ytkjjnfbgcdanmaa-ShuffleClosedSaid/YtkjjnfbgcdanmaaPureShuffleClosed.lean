/- For every int and lists, ShuffleClosed answers true: the functions of polynomials are sums of falling factorials, so are those that arise from two, and the algorithm succeeds on all such. -/
import Derived.Test.YtkjjnfbgcdanmaaPx7
import Derived.Test.YtkjjnfbgcdanmaaMathE
namespace Go.Proofs.Ytkjjnfbgcdanmaa.Pure
open Go.RowKit Go.Proofs.Ytkjjnfbgcdanmaa.P Go.Proofs.YtkjjnfbgcdanmaaW.PrintWords Go.Proofs.YtkjjnfbgcdanmaaW.PrintLast
open Go.Proofs.Ytkjjnfbgcdanmaa.MathA Go.Proofs.Ytkjjnfbgcdanmaa.MathB

theorem comp_same {m : Nat} (h : Mod m) (p q : List Int) : ∃ a, MathB.Same m ((valS m p).map fun y => rd (valS m q) y) 0 a := by
  refine same_of_is (horn_comp (horn_is p) q) fun x hx => ?_
  rw [List.length_map, valS_length] at hx
  have h1 := h.lo
  have e : ((valS m p).map fun y => rd (valS m q) y).getD x 0 = rd (valS m q) ((valS m p).getD x 0) := by
    simp [valS_length, hx]
  rw [e, valS_get p hx]
  have b1 := Int.emod_nonneg (horn p (x : Int)) (show (m : Int) ≠ 0 by omega)
  have b2 := Int.emod_lt_of_pos (horn p (x : Int)) (show (0 : Int) < m by omega)
  have e2 : horn p (x : Int) % (m : Int) = (((horn p (x : Int) % (m : Int)).toNat : Nat) : Int) := by omega
  rw [e2, rd_nat, valS_get q (by omega), ← e2]
  exact horn_mod (by rw [Int.emod_emod]) q

theorem comp_rem {m : Nat} (h : Mod m) (p q : List Int) : Rem m ((valS m p).map fun y => rd (valS m q) y) := by
  have h1 := h.lo
  intro v hv
  rw [List.mem_map] at hv
  obtain ⟨y, hy, rfl⟩ := hv
  have hy' := valS_rem h p y hy
  have e2 : y = ((y.toNat : Nat) : Int) := by omega
  rw [e2, rd_nat]
  exact (valS_rem h q).get (by rw [valS_length]; omega)

theorem closed_l0 {m : Nat} (h : Mod m) (p q : List Int) : ∀ (d j : Nat), j + d = m →
    Ev (fun k => galloonlaw06_ShuffleClosed.l0 k (m : Int) (valS m p) (valS m q) ((valS m p).map fun y => rd (valS m q) y) (j : Int)) true := by
  have h1 := h.lo
  have h2 := h.hi
  intro d
  induction d with
  | zero =>
    intro j hj
    refine Ev.step (fun k => by simp only [galloonlaw06_ShuffleClosed.l0]; exact rfl) ?_
    exact Ev.neg (by omega) (Ev.bind awake_ev (Ev.now _))
  | succ d ih =>
    intro j hj
    have hl1 := valS_length m p
    have hl2 := valS_length m q
    refine Ev.step (fun k => by simp only [galloonlaw06_ShuffleClosed.l0]; exact rfl) ?_
    have hb := (valS_rem h p).get (i := j) (by omega)
    refine Ev.pos (by omega) (Ev.pos (by omega) (Ev.pos (by omega) ?_))
    rw [rd_nat]
    refine Ev.neg (by omega) (Ev.neg (by omega) (Ev.pos (by simp; omega) (Ev.pos (by omega) (Ev.pos (by omega) (Ev.pos ?_ ?_)))))
    · rw [rd_nat]
      simp [hl1, show j < m by omega]
    · have e3 : wrap64 ((j : Int) + 1) = ((j + 1 : Nat) : Int) := by rw [wrap_in (by omega) (by omega)]; push_cast; rfl
      rw [e3]
      exact ih (j + 1) (by omega)

theorem ShuffleClosed : galloonlaw06_ShuffleClosed.Pure := by
  intro a l1 l2 _ hm1 _ _ hm2 _ _
  obtain ⟨m, h, t, ht, hw⟩ := mod_of a
  have h1 := h.lo
  have h2 := h.hi
  unfold maxLen at hm1 hm2
  refine Ev.rounds (g := fun k => galloonlaw06_ShuffleClosed.f k a l1 l2) ?_
  unfold galloonlaw06_ShuffleClosed.f
  rw [ht]
  simp only [Option.bind_some, hw]
  have hp := tameS_rem h l1
  have hq := tameS_rem h l2
  generalize hpe : tameS m l1 = p at hp
  generalize hqe : tameS m l2 = q at hq
  have hpl : p.length ≤ 12 := by rw [← hpe]; exact tameS_len m l1
  have hql : q.length ≤ 12 := by rw [← hqe]; exact tameS_len m l2
  have hf := valS_length m p
  have hg := valS_length m q
  obtain ⟨c1, hc1, _⟩ := Form_poly h (valS_rem h p) hf (valS_same m p)
  obtain ⟨c2, hc2, hc2l⟩ := Form_poly h (comp_rem h p q) (by simp [hf]) (comp_same h p q)
  have ht1 : Ev (fun k => galloonlaw06_tame.f k (m : Int) l1) p := by rw [← hpe]; exact tame_ev h l1 (by omega)
  have ht2 : Ev (fun k => galloonlaw06_tame.f k (m : Int) l2) q := by rw [← hqe]; exact tame_ev h l2 (by omega)
  refine Ev.bind ht1 ?_
  refine Ev.bind (Ev.from200 fun k hk => values_ev h hp hpl hk) ?_
  refine Ev.bind ht2 ?_
  refine Ev.bind (Ev.from200 fun k hk => values_ev h hq hql hk) ?_
  refine Ev.bind (Ev.from200 fun k hk => after_ev h (valS_rem h p) (valS_rem h q) hf hg hk) ?_
  refine Ev.pos rfl (Ev.pos rfl (Ev.pos rfl (Ev.pos (by simp only [hf]) (Ev.pos (by simp only [hg]) ?_))))
  have e : ((((valS m p).map fun y => rd (valS m q) y).length : Int) != (m : Int)) = false := by simp [hf]
  simp only [e]
  refine Ev.step (fun k => by simp only [galloonlaw06_ShuffleClosed.j0]; exact rfl) ?_
  refine Ev.neg (by simp) ?_
  refine Ev.bind hc1 (Ev.bind hc2 (Ev.bind (Degree_ev h) ?_))
  refine Ev.pos rfl (Ev.pos rfl (Ev.pos rfl ?_))
  have e2 : decide ((c2.length : Int) > (degN m : Int)) = false := decide_eq_false (by omega)
  simp only [e2]
  refine Ev.step (fun k => by simp only [galloonlaw06_ShuffleClosed.j1]; exact rfl) ?_
  refine Ev.neg (by simp) ?_
  exact closed_l0 h p q m 0 (by omega)

end Go.Proofs.Ytkjjnfbgcdanmaa.Pure
