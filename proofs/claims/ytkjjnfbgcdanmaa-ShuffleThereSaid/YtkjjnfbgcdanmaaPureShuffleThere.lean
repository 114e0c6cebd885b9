/- For every ints and list, ShuffleThere answers true: a form's function has that form, and modulo a prime every function is polynomial. -/
import Derived.Test.YtkjjnfbgcdanmaaPx15 -- @galloonlaw06_ShuffleThere
import Derived.Test.YtkjjnfbgcdanmaaMathI
namespace Go.Proofs.Ytkjjnfbgcdanmaa.Pure
open Go.RowKit Go.Proofs.Ytkjjnfbgcdanmaa.P Go.Proofs.YtkjjnfbgcdanmaaW.PrintWords Go.Proofs.YtkjjnfbgcdanmaaW.PrintLast
open Go.Proofs.Ytkjjnfbgcdanmaa.MathA Go.Proofs.Ytkjjnfbgcdanmaa.MathB

def partsN (m : Nat) : List S44 := (galloonref06_Parts.f 300 (m : Int)).getD []

theorem parts_all : ∀ t : Fin 63, (galloonref06_Parts.f 300 ((t.val + 2 : Nat) : Int)).isSome = true ∧ (decide ((partsN (t.val + 2)).length = 1) && decide ((rd_T44 (partsN (t.val + 2)) 0).f1 = 1)) = true → invB (t.val + 2) = true := by decide +kernel
theorem parts_some : ∀ t : Fin 63, (galloonref06_Parts.f 300 ((t.val + 2 : Nat) : Int)).isSome = true := by decide +kernel

theorem parts_ev {m : Nat} (h : Mod m) : Ev (fun k => galloonref06_Parts.f k (m : Int)) (partsN m) := by
  obtain ⟨t, ht⟩ := h.fin
  have := parts_some t
  rw [← ht] at this
  refine Ev.of (fun k => galloonref06_Parts.mono _ k) (k := 300) ?_
  unfold partsN
  cases e : galloonref06_Parts.f 300 (m : Int) with
  | none => rw [e] at this; cases this
  | some v => rfl

theorem ShuffleThere : galloonlaw06_ShuffleThere.Pure := by
  intro a l1 at_ by_ _ hm1 _ _ _ _
  obtain ⟨m, h, t, ht, hw⟩ := mod_of a
  have h1 := h.lo
  have h2 := h.hi
  unfold maxLen at hm1
  refine Ev.rounds (g := fun k => galloonlaw06_ShuffleThere.f k a l1 at_ by_) ?_
  unfold galloonlaw06_ShuffleThere.f
  rw [ht]
  simp only [Option.bind_some, hw]
  have hp := tameS_rem h l1
  have ht1 := tame_ev h l1 (by omega)
  have hpl := tameS_len m l1
  generalize tameS m l1 = p at hp ht1 hpl
  have hf := valS_length m p
  obtain ⟨c, hc, hcl, hcf, hcs⟩ := Form_all h (valS_rem h p) hf (valS_same m p)
  have hU := unform_ev h c
  rw [hcf] at hU
  simp only [if_true] at hU
  rw [hcs] at hU
  refine Ev.bind ht1 ?_
  refine Ev.bind (Ev.from200 fun k hk => values_ev h hp hpl hk) ?_
  refine Ev.bind hc (Ev.bind hU (Ev.bind hc ?_))
  refine Ev.pos rfl (Ev.pos rfl (Ev.pos rfl (Ev.pos rfl ?_)))
  refine Ev.bind (ints_same (valS m p) (by rw [hf]; omega)) (Ev.pos rfl ?_)
  refine Ev.bind (ints_same c (by have := deg_le h; omega)) (Ev.pos rfl ?_)
  have hform := formed_ev h c (by have := deg_le h; omega)
  rw [hcf] at hform
  refine Ev.bind hform (Ev.pos rfl ?_)
  have e : (((valS m p).length : Int) != (m : Int)) = false := by rw [hf]; simp
  simp only [e]
  have hr := valS_rem h p
  generalize valS m p = f at hf hr
  refine Ev.step (fun k => by simp only [galloonlaw06_ShuffleThere.j0]; exact rfl) ?_
  refine Ev.neg (by simp) ?_
  have hlist : galloonlaw06_list.f f = some f := by
    unfold galloonlaw06_list.f
    rw [List.take_of_length_le (by omega)]
  rw [hlist]
  obtain ⟨x, hx, hx0, hx1⟩ := mod_some at_ (m : Int) (by omega) (by omega)
  obtain ⟨y, hy, hy0, hy1⟩ := mod_some by_ ((m : Int) - 1) (by omega) (by omega)
  have hv := hr.get (i := x.toNat) (by omega)
  have erd : rd f x = f.getD x.toNat 0 := rfl
  obtain ⟨v, hvv, hv0, hv1⟩ := mod_some (rd f x + 1 + y) (m : Int) (by omega) (by omega)
  rw [hx, wrap_in (n := (m : Int) - 1) (by omega) (by omega), hy]
  simp only [Option.bind_some]
  refine Ev.pos hx0 (Ev.pos (by omega) ?_)
  rw [wrap_in (n := rd f x + 1) (by omega) (by omega), wrap_in (n := rd f x + 1 + y) (by omega) (by omega), hvv]
  simp only [Option.bind_some]
  have hr2 : Rem m (f.set x.toNat v) := by
    intro q hq
    rcases List.mem_or_eq_of_mem_set hq with e | e
    · exact hr q e
    · rw [e]; exact ⟨hv0, hv1⟩
  have hl2 : (f.set x.toNat v).length = m := by rw [List.length_set, hf]
  have hF := Form_ev h hr2 hl2
  have hP := parts_ev h
  have haw : Ev (fun k => (galloonlaw06_awake.f k).bind fun t => some t) true := Ev.bind awake_ev (Ev.now _)
  by_cases hprime : (decide ((partsN m).length = 1) && decide ((rd_T44 (partsN m) 0).f1 = 1)) = true
  · obtain ⟨tt, htt⟩ := h.fin
    have hinv := parts_all tt
    rw [← htt] at hinv
    have hi := hinv ⟨by have := parts_some tt; rw [← htt] at this; exact this, hprime⟩
    obtain ⟨c2, hc2, _⟩ := Form_all h hr2 hl2 (prime_same hi _ hl2)
    rw [Bool.and_eq_true, decide_eq_true_eq, decide_eq_true_eq] at hprime
    refine Ev.bind hc2 (Ev.bind hP (Ev.pos (by omega) (Ev.bind hP (Ev.pos (by omega) (Ev.pos rfl (Ev.pos hprime.2 haw))))))
  · refine Ev.bind hF (Ev.bind hP ?_)
    by_cases hone : ((partsN m).length : Int) = 1
    · refine Ev.pos hone (Ev.bind hP (Ev.pos (by omega) ?_))
      have hne : ¬ (rd_T44 (partsN m) 0).f1 = 1 := by
        intro e
        apply hprime
        rw [Bool.and_eq_true, decide_eq_true_eq, decide_eq_true_eq]
        exact ⟨by omega, e⟩
      by_cases hok : (formS m (degN m) 0 [] (f.set x.toNat v)).2 = true
      · rw [if_pos hok]
        exact Ev.pos rfl (Ev.neg hne haw)
      · rw [if_neg hok]
        exact Ev.neg (by simp) (Ev.pos rfl (Ev.neg hne haw))
    · refine Ev.neg hone ?_
      by_cases hok : (formS m (degN m) 0 [] (f.set x.toNat v)).2 = true
      · rw [if_pos hok]
        exact Ev.pos rfl haw
      · rw [if_neg hok]
        exact Ev.neg (by simp) (Ev.pos rfl haw)

end Go.Proofs.Ytkjjnfbgcdanmaa.Pure
