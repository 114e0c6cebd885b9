/- For every int and list, ShuffleUnforms answers true: Unform is the reference's at the forms and refuses all else; degrees and counts are reckoned at each of the 63 moduli. -/
import Derived.Test.YtkjjnfbgcdanmaaPx13
import Derived.Test.YtkjjnfbgcdanmaaMathF
namespace Go.Proofs.Ytkjjnfbgcdanmaa.Pure
open Go.RowKit Go.Proofs.Ytkjjnfbgcdanmaa.P Go.Proofs.YtkjjnfbgcdanmaaW.PrintWords Go.Proofs.YtkjjnfbgcdanmaaW.PrintLast
open Go.Proofs.Ytkjjnfbgcdanmaa.MathA Go.Proofs.Ytkjjnfbgcdanmaa.MathB

def cntP (m : Nat) : Int × Int := (shuffle_Count.f 300 (m : Int)).getD (0, 0)
def cntR (m : Nat) : Int × Bool := (galloonref06_Count.f 300 (m : Int)).getD (0, false)

theorem count_all : ∀ t : Fin 63, shuffle_Count.f 300 ((t.val + 2 : Nat) : Int) = some (cntP (t.val + 2)) ∧ galloonref06_Count.f 300 ((t.val + 2 : Nat) : Int) = some (cntR (t.val + 2)) ∧
    (cntP (t.val + 2)).1 = (cntR (t.val + 2)).1 ∧ (cntP (t.val + 2)).2 = (if (cntR (t.val + 2)).2 = true then 0 else 5) ∧ galloonref06_Degree.f 300 ((t.val + 2 : Nat) : Int) = some ((degN (t.val + 2) : Nat) : Int) := by decide +kernel

theorem not_mod {a : Int} (h : ¬ (2 ≤ a ∧ a ≤ 64)) : shuffle_isModulus.f a = some false := by
  unfold shuffle_isModulus.f shuffle_within.f
  by_cases h1 : a ≥ 2
  · rw [if_pos h1]
    simp only [Option.bind_some]
    rw [decide_eq_false (by omega)]
  · rw [if_neg h1]
    rfl

theorem ShuffleUnforms : galloonlaw06_ShuffleUnforms.Pure := by
  intro a l1 _ hm1 _ _
  unfold maxLen at hm1
  refine Ev.rounds (g := fun k => galloonlaw06_ShuffleUnforms.f k a l1) ?_
  unfold galloonlaw06_ShuffleUnforms.f galloonlaw06_list.f
  simp only [Option.bind_some]
  have hll : (l1.take 65).length ≤ 65 := by rw [List.length_take]; omega
  generalize l1.take 65 = l at hll
  by_cases hmod : 2 ≤ a ∧ a ≤ 64
  · obtain ⟨m, rfl⟩ : ∃ m : Nat, a = (m : Int) := ⟨a.toNat, by omega⟩
    have h : Mod m := ⟨by omega, by omega⟩
    have h1 := h.lo
    have h2 := h.hi
    obtain ⟨t, ht⟩ := h.fin
    have hc := count_all t
    rw [← ht] at hc
    obtain ⟨hc1, hc2, hc3, hc4, hc5⟩ := hc
    have hP : Ev (fun k => shuffle_Count.f k (m : Int)) (cntP m) := Ev.of (fun k => shuffle_Count.mono _ k) hc1
    have hR : Ev (fun k => galloonref06_Count.f k (m : Int)) (cntR m) := Ev.of (fun k => galloonref06_Count.mono _ k) hc2
    have hD : Ev (fun k => galloonref06_Degree.f k (m : Int)) (degN m : Int) := Ev.of (fun k => galloonref06_Degree.mono _ k) hc5
    have hM : galloonref06_Modulus.f (m : Int) = some true := by
      unfold galloonref06_Modulus.f
      rw [if_pos (by omega), decide_eq_true (by omega)]
    rw [hM]
    refine Ev.bind (unform_ev h l) (Ev.bind (Degree_ev h) (Ev.bind hP ?_))
    simp only [Option.bind_some]
    refine Ev.pos trivial (Ev.bind hR (Ev.bind hD (Ev.pos (by first | rfl | trivial) (Ev.pos (by first | rfl | trivial) (Ev.pos hc3 ?_)))))
    have key : Ev (fun k => galloonlaw06_ShuffleUnforms.j0 k (m : Int) l (if (fitsB m 0 l && lastPos l) = true then (combS m l, (0 : Int)) else ([], 2)).1 (if (fitsB m 0 l && lastPos l) = true then (combS m l, (0 : Int)) else ([], 2)).2 false) true := by
      refine Ev.step (fun k => by simp only [galloonlaw06_ShuffleUnforms.j0]; exact rfl) ?_
      refine Ev.neg (by simp) (Ev.bind (formed_ev h l hll) ?_)
      by_cases hf : (fitsB m 0 l && lastPos l) = true
      · rw [hf]
        simp only [if_true]
        have hfit : MathB.Fits m 0 l := by
          rw [Bool.and_eq_true, fitsB_iff] at hf
          exact hf.1
        refine Ev.bind (runform_ev h l hll hfit) (Ev.bind (ints_same _ (by rw [combS_length]; omega)) (Ev.pos (by first | rfl | trivial) ?_))
        exact Ev.bind awake_ev (Ev.now _)
      · rw [Bool.not_eq_true] at hf
        rw [hf]
        simp only [Bool.false_eq_true, if_false]
        exact Ev.pos (by first | rfl | trivial) (Ev.pos (by first | rfl | trivial) (Ev.bind awake_ev (Ev.now _)))
    cases hb : (cntR m).2 with
    | true =>
      rw [hb] at hc4
      exact Ev.pos (by first | rfl | trivial) (Ev.pos hc4 key)
    | false =>
      rw [hb] at hc4
      refine Ev.neg (by simp) ?_
      have : ((cntP m).2 != 5) = false := by rw [hc4]; rfl
      rw [this]
      exact key
  · have hn := not_mod hmod
    have hM : galloonref06_Modulus.f a = some false := by
      unfold galloonref06_Modulus.f
      by_cases h1 : a ≥ 2
      · rw [if_pos h1, decide_eq_false (by omega)]
      · rw [if_neg h1]
    rw [hM]
    have hU : Ev (fun k => shuffle_Unform.f k a l) ([], 2) := by
      refine Ev.congr (f := fun k => shuffle_Unform.j0 k a l true) (fun k => by unfold shuffle_Unform.f; rw [hn]; rfl) ?_
      refine Ev.step (fun k => by simp only [shuffle_Unform.j0]; exact rfl) ?_
      exact Ev.pos (by first | rfl | trivial) (Ev.now _)
    have hDg : Ev (fun k => shuffle_Degree.f k a) (0, 2) := Ev.congr (fun k => by unfold shuffle_Degree.f; rw [hn]; exact rfl) (Ev.now _)
    have hC : Ev (fun k => shuffle_Count.f k a) (0, 2) := Ev.congr (fun k => by unfold shuffle_Count.f; rw [hn]; exact rfl) (Ev.now _)
    refine Ev.bind hU (Ev.bind hDg (Ev.bind hC ?_))
    simp only [Option.bind_some]
    refine Ev.neg (by simp) (Ev.pos (by first | rfl | trivial) (Ev.pos (by first | rfl | trivial) (Ev.pos (by first | rfl | trivial) (Ev.pos (by first | rfl | trivial) (Ev.pos (by first | rfl | trivial) (Ev.pos (by first | rfl | trivial) (Ev.bind awake_ev (Ev.now _))))))))

end Go.Proofs.Ytkjjnfbgcdanmaa.Pure
