/- For every number and four lists, ShuffleAfters answers true: After composes, Same finds the first place where two polynomials differ, and both refuse what is no function, no polynomial. -/
import Derived.Test.YtkjjnfbgcdanmaaPx21 -- @galloonlaw06_ShuffleAfters
import Derived.Test.YtkjjnfbgcdanmaaMathJ
namespace Go.Proofs.Ytkjjnfbgcdanmaa.Pure
open Go.RowKit Go.Proofs.Ytkjjnfbgcdanmaa.P Go.Proofs.YtkjjnfbgcdanmaaW.PrintWords Go.Proofs.YtkjjnfbgcdanmaaW.PrintLast
open Go.Proofs.Ytkjjnfbgcdanmaa.MathA Go.Proofs.Ytkjjnfbgcdanmaa.MathB

theorem ints_af_l0 (f g : List Int) (hl : f.length = g.length) (hs : f.length ≤ 1000) : ∀ (d j : Nat), j + d = f.length → Ev (fun k => galloonlaw06_ints.l0 k f g (j : Int)) (decide (f.drop j = g.drop j)) := by
  intro d
  induction d with
  | zero =>
    intro j hj
    refine Ev.step (fun k => by simp only [galloonlaw06_ints.l0]; exact rfl) ?_
    have e : f.drop j = [] := List.drop_eq_nil_of_le (by omega)
    have e2 : g.drop j = [] := List.drop_eq_nil_of_le (by omega)
    rw [e, e2]
    exact Ev.neg (by omega) (Ev.now _)
  | succ d ih =>
    intro j hj
    refine Ev.step (fun k => by simp only [galloonlaw06_ints.l0]; exact rfl) ?_
    refine Ev.pos (by omega) (Ev.pos (by omega) (Ev.pos (by omega) ?_))
    rw [rd_nat, rd_nat, drop_getD (show j < f.length by omega), drop_getD (show j < g.length by omega)]
    by_cases h : f.getD j 0 = g.getD j 0
    · have e : decide (f.getD j 0 :: f.drop (j + 1) = g.getD j 0 :: g.drop (j + 1)) = decide (f.drop (j + 1) = g.drop (j + 1)) := by rw [h]; simp
      rw [e, nat_step (by omega)]
      exact Ev.pos h (ih (j + 1) (by omega))
    · have e : decide (f.getD j 0 :: f.drop (j + 1) = g.getD j 0 :: g.drop (j + 1)) = false := decide_eq_false (fun e => h (List.cons.inj e).1)
      rw [e]
      exact Ev.neg h (Ev.now _)
theorem ints_af (f g : List Int) (hs : f.length ≤ 1000) : Ev (fun k => galloonlaw06_ints.f k f g) (decide (f = g)) := by
  unfold galloonlaw06_ints.f
  by_cases h : (f.length : Int) = (g.length : Int)
  · exact Ev.pos h (by simpa using ints_af_l0 f g (by omega) hs f.length 0 (by omega))
  · rw [decide_eq_false (fun e => h (by rw [e]))]
    exact Ev.neg h (Ev.now _)


/-- What both sides call a function, a polynomial. -/
def fb (a : Int) (l : List Int) : Bool := decide ((l.length : Int) = a) && remB a l
def pb (a : Int) (l : List Int) : Bool := decide ((l.length : Int) ≤ 12) && remB a l

theorem fb_iff {m : Nat} {l : List Int} (h : fb (m : Int) l = true) : Rem m l ∧ l.length = m := by
  unfold fb at h
  rw [Bool.and_eq_true, decide_eq_true_iff] at h
  exact ⟨(remB_iff l).1 h.2, by omega⟩
theorem pb_iff {m : Nat} {l : List Int} (h : pb (m : Int) l = true) : Rem m l ∧ l.length ≤ 12 := by
  unfold pb at h
  rw [Bool.and_eq_true, decide_eq_true_iff] at h
  exact ⟨(remB_iff l).1 h.2, by omega⟩

theorem tail_ev (a : Int) (x7 x8 : List Int) (h7 : x7.length ≤ 1000) (h8 : x8.length ≤ 1000) : ∃ r : Int × Int, Ev (fun k => shuffle_Same.f k a x7 x8) r ∧ Ev (fun k => galloonlaw06_ShuffleAfters.j1 k a x7 x8 r.1 r.2) true := by
  have bad : Ev (fun k => galloonlaw06_ShuffleAfters.j2 k a x7 x8 0 2 true) true := by
    refine Ev.step (fun k => by rw [galloonlaw06_ShuffleAfters.j2]) ?_
    exact Ev.pos rfl (Ev.pos rfl (Ev.pos rfl (Ev.bind awake_ev (Ev.now _))))
  have badS : Ev (fun k => shuffle_Same.j0 k a x7 x8 true) (0, 2) := by
    refine Ev.step (fun k => by rw [shuffle_Same.j0]) ?_
    exact Ev.pos rfl (Ev.now _)
  by_cases hm : 2 ≤ a ∧ a ≤ 64
  · obtain ⟨m, rfl⟩ : ∃ m : Nat, a = (m : Int) := ⟨a.toNat, by omega⟩
    have h : Mod m := ⟨by omega, by omega⟩
    have e7 : shuffle_isPolynomial.f (m : Int) x7 = some (pb (m : Int) x7) := isPoly_gen hm.1 hm.2 x7
    have e8 : shuffle_isPolynomial.f (m : Int) x8 = some (pb (m : Int) x8) := isPoly_gen hm.1 hm.2 x8
    have r7 : Ev (fun k => galloonref06_Polynomial.f k (m : Int) x7) (pb (m : Int) x7) := refPoly_ev _ x7 h7
    have r8 : Ev (fun k => galloonref06_Polynomial.f k (m : Int) x8) (pb (m : Int) x8) := refPoly_ev _ x8 h8
    have em : galloonref06_Modulus.f (m : Int) = some true := by rw [refMod_gen, decide_eq_true hm]
    cases b7 : pb (m : Int) x7 with
    | false =>
      refine ⟨(0, 2), ?_, ?_⟩
      · unfold shuffle_Same.f
        rw [e7, b7]
        exact badS
      · refine Ev.step (fun k => by rw [galloonlaw06_ShuffleAfters.j1]) ?_
        rw [em]
        refine Ev.congr (fun k => Option.bind_some _ _) ?_
        rw [b7] at r7
        refine Ev.pos rfl ?_
        refine Ev.bind r7 ?_
        exact Ev.neg (by decide) bad
    | true =>
      rw [b7] at r7
      cases b8 : pb (m : Int) x8 with
      | false =>
        rw [b8] at r8
        refine ⟨(0, 2), ?_, ?_⟩
        · unfold shuffle_Same.f
          rw [e7, b7, e8, b8]
          exact badS
        · refine Ev.step (fun k => by rw [galloonlaw06_ShuffleAfters.j1]) ?_
          rw [em]
          refine Ev.congr (fun k => Option.bind_some _ _) ?_
          refine Ev.pos rfl ?_
          refine Ev.bind r7 ?_
          refine Ev.pos rfl ?_
          refine Ev.bind r8 ?_
          exact bad
      | true =>
        rw [b8] at r8
        obtain ⟨p7, l7⟩ := pb_iff b7
        obtain ⟨p8, l8⟩ := pb_iff b8
        have hf := valS_length m x7
        have hg := valS_length m x8
        refine ⟨_, same_ev h p7 p8 l7 l8, ?_⟩
        refine Ev.step (fun k => by rw [galloonlaw06_ShuffleAfters.j1]) ?_
        rw [em]
        refine Ev.congr (fun k => Option.bind_some _ _) ?_
        refine Ev.pos rfl ?_
        refine Ev.bind r7 ?_
        refine Ev.pos rfl ?_
        refine Ev.bind r8 ?_
        refine Ev.step (fun k => by rw [galloonlaw06_ShuffleAfters.j2]) ?_
        refine Ev.neg (by simp) (Ev.bind (refVal_ev h p7 h7) (Ev.bind (refVal_ev h p8 h8) (Ev.bind (differ_ev _ _ (by rw [hf, hg]) (by have := h.hi; omega)) (Ev.pos rfl (Ev.pos rfl (Ev.bind awake_ev (Ev.now _)))))))
  · refine ⟨(0, 2), ?_, ?_⟩
    · unfold shuffle_Same.f
      rw [isPoly_not hm]
      exact badS
    · refine Ev.step (fun k => by rw [galloonlaw06_ShuffleAfters.j1]) ?_
      rw [refMod_gen, decide_eq_false hm]
      refine Ev.congr (fun k => Option.bind_some _ _) ?_
      exact Ev.neg (by decide) bad

theorem ShuffleAfters (a : Int) (l1_0 l1_1 l1_2 l1_3 : List Int) : ∃ k, galloonlaw06_ShuffleAfters.f k a l1_0 l1_1 l1_2 l1_3 = some true := by
  refine Ev.rounds (g := fun k => galloonlaw06_ShuffleAfters.f k a l1_0 l1_1 l1_2 l1_3) ?_
  unfold galloonlaw06_ShuffleAfters.f galloonlaw06_list.f
  simp only [Option.bind_some]
  have h5 : (l1_0.take 65).length ≤ 1000 := by rw [List.length_take]; omega
  have h6 : (l1_1.take 65).length ≤ 1000 := by rw [List.length_take]; omega
  have h7 : (l1_2.take 65).length ≤ 1000 := by rw [List.length_take]; omega
  have h8 : (l1_3.take 65).length ≤ 1000 := by rw [List.length_take]; omega
  generalize l1_0.take 65 = x5 at h5
  generalize l1_1.take 65 = x6 at h6
  generalize l1_2.take 65 = x7 at h7
  generalize l1_3.take 65 = x8 at h8
  obtain ⟨r, hr, ht⟩ := tail_ev a x7 x8 h7 h8
  have bad : Ev (fun k => galloonlaw06_ShuffleAfters.j0 k a x5 x6 x7 x8 ([] : List Int) 2 r.1 r.2 true) true := by
    refine Ev.step (fun k => by rw [galloonlaw06_ShuffleAfters.j0]) ?_
    exact Ev.pos rfl (Ev.pos (by simp) (Ev.pos rfl ht))
  have badA : Ev (fun k => shuffle_After.j0 k x5 x6 true) (([] : List Int), (2 : Int)) := by
    refine Ev.step (fun k => by rw [shuffle_After.j0]) ?_
    exact Ev.pos rfl (Ev.now _)
  by_cases hm : 2 ≤ a ∧ a ≤ 64
  · obtain ⟨m, rfl⟩ : ∃ m : Nat, a = (m : Int) := ⟨a.toNat, by omega⟩
    have h : Mod m := ⟨by omega, by omega⟩
    have e5 : shuffle_isFunction.f (m : Int) x5 = some (fb (m : Int) x5) := isFun_gen hm.1 hm.2 x5
    have e6 : shuffle_isFunction.f (m : Int) x6 = some (fb (m : Int) x6) := isFun_gen hm.1 hm.2 x6
    have r5 : Ev (fun k => galloonref06_Function.f k (m : Int) x5) (fb (m : Int) x5) := refFun_ev _ x5 h5
    have r6 : Ev (fun k => galloonref06_Function.f k (m : Int) x6) (fb (m : Int) x6) := refFun_ev _ x6 h6
    have em : galloonref06_Modulus.f (m : Int) = some true := by rw [refMod_gen, decide_eq_true hm]
    cases b5 : fb (m : Int) x5 with
    | false =>
      rw [b5] at r5
      have hA : Ev (fun k => shuffle_After.f k (m : Int) x5 x6) (([] : List Int), (2 : Int)) := by
        unfold shuffle_After.f
        rw [e5, b5]
        exact badA
      refine Ev.bind hA (Ev.bind hr ?_)
      rw [em]
      refine Ev.congr (fun k => Option.bind_some _ _) ?_
      refine Ev.pos rfl ?_
      refine Ev.bind r5 ?_
      exact Ev.neg (by decide) bad
    | true =>
      rw [b5] at r5
      cases b6 : fb (m : Int) x6 with
      | false =>
        rw [b6] at r6
        have hA : Ev (fun k => shuffle_After.f k (m : Int) x5 x6) (([] : List Int), (2 : Int)) := by
          unfold shuffle_After.f
          rw [e5, b5, e6, b6]
          exact badA
        refine Ev.bind hA (Ev.bind hr ?_)
        rw [em]
        refine Ev.congr (fun k => Option.bind_some _ _) ?_
        refine Ev.pos rfl ?_
        refine Ev.bind r5 ?_
        refine Ev.pos rfl ?_
        refine Ev.bind r6 ?_
        exact bad
      | true =>
        rw [b6] at r6
        obtain ⟨p5, l5⟩ := fb_iff b5
        obtain ⟨p6, l6⟩ := fb_iff b6
        refine Ev.bind (Ev.from200 fun k hk => after_ev h p5 p6 l5 l6 hk) (Ev.bind hr ?_)
        rw [em]
        refine Ev.congr (fun k => Option.bind_some _ _) ?_
        refine Ev.pos rfl ?_
        refine Ev.bind r5 ?_
        refine Ev.pos rfl ?_
        refine Ev.bind r6 ?_
        refine Ev.step (fun k => by rw [galloonlaw06_ShuffleAfters.j0]) ?_
        refine Ev.neg (by simp) (Ev.bind (refAfter_ev h p5 l5 l6) (Ev.bind (ints_af _ _ (by rw [List.length_map]; exact h5)) ?_))
        rw [decide_eq_true rfl]
        exact Ev.pos rfl (Ev.pos rfl ht)
  · have hA : Ev (fun k => shuffle_After.f k a x5 x6) (([] : List Int), (2 : Int)) := by
      unfold shuffle_After.f
      rw [isFun_not hm]
      exact badA
    refine Ev.bind hA (Ev.bind hr ?_)
    rw [refMod_gen, decide_eq_false hm]
    refine Ev.congr (fun k => Option.bind_some _ _) ?_
    exact Ev.neg (by decide) bad

end Go.Proofs.Ytkjjnfbgcdanmaa.Pure
