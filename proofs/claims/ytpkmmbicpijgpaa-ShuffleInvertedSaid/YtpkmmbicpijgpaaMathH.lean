/- The first two places with equal values, as the program finds them. -/
import Derived.Test.YtpkmmbicpijgpaaMathE
import Derived.Test.YtpkmmbicpijgpaaFx3
namespace Go.Proofs.Ytpkmmbicpijgpaa.Pure
open Go.RowKit Go.Proofs.Ytpkmmbicpijgpaa.F Go.Proofs.YtpkmmbicpijgpaaW.PrintWords Go.Proofs.YtpkmmbicpijgpaaW.PrintLast
open Go.Proofs.Ytpkmmbicpijgpaa.MathA Go.Proofs.Ytpkmmbicpijgpaa.MathB

theorem step_nat' {j : Nat} (h : j ≤ 1000000) : wrap64 ((j : Int) + 1) = ((j + 1 : Nat) : Int) := by
  rw [wrap_in (by omega) (by omega)]; push_cast; rfl

/-- The first index of a value from j on; -1: none. -/
def idxS (v : Int) : Nat → List Int → Int
  | _, [] => -1
  | j, a :: l => if v = a then (j : Int) else idxS v (j + 1) l

theorem idxS_none {v : Int} : ∀ {l : List Int} {j : Nat}, idxS v j l < 0 → ∀ a ∈ l, v ≠ a
  | [], _, _ => fun a ha => by cases ha
  | b :: l, j, h => by
    rw [idxS] at h
    split at h
    · omega
    · rename_i hb
      intro a ha
      rcases List.mem_cons.1 ha with e | e
      · rw [e]; exact hb
      · exact idxS_none h a e
theorem idxS_some {v : Int} : ∀ {l : List Int} {j : Nat}, 0 ≤ idxS v j l → ∃ n, n < l.length ∧ idxS v j l = ((j + n : Nat) : Int) ∧ v = l.getD n 0 ∧ ∀ q, q < n → v ≠ l.getD q 0
  | [], j, h => by simp [idxS] at h
  | b :: l, j, h => by
    rw [idxS] at h ⊢
    split
    · rename_i hb
      exact ⟨0, by simp, by simp, by simpa using hb, fun q hq => absurd hq (by omega)⟩
    · rename_i hb
      rw [if_neg hb] at h
      obtain ⟨n, h1, h2, h3, h4⟩ := idxS_some h
      refine ⟨n + 1, by simpa using h1, by rw [h2]; congr 1; omega, by simpa using h3, fun q hq => ?_⟩
      cases q with
      | zero => simpa using hb
      | succ q => simpa using h4 q (by omega)

theorem index_l0 (l : List Int) (hl : l.length ≤ 1000) (v : Int) : ∀ (d j : Nat), j + d = l.length →
    Ev (fun k => slices_Index_int_int.l0 k l v (l.length : Int) (j : Int)) (idxS v j (l.drop j)) := by
  intro d
  induction d with
  | zero =>
    intro j hj
    refine Ev.step (fun k => by simp only [slices_Index_int_int.l0]; exact rfl) ?_
    rw [List.drop_eq_nil_of_le (by omega)]
    exact Ev.neg (by omega) (Ev.now _)
  | succ d ih =>
    intro j hj
    refine Ev.step (fun k => by simp only [slices_Index_int_int.l0]; exact rfl) ?_
    refine Ev.pos (by omega) (Ev.pos (by omega) (Ev.pos (by omega) ?_))
    have e : l.drop j = l.getD j 0 :: l.drop (j + 1) := by
      rw [List.drop_eq_getElem_cons (show j < l.length by omega)]
      simp [show j < l.length by omega]
    rw [rd_nat, e, idxS]
    by_cases hv : v = l.getD j 0
    · rw [if_pos hv]; exact Ev.pos hv (Ev.now _)
    · rw [if_neg hv, step_nat' (by omega)]
      exact Ev.neg hv (ih (j + 1) (by omega))

theorem index_ev (l : List Int) (hl : l.length ≤ 1000) (v : Int) : Ev (fun k => slices_Index_int_int.f k l v) (idxS v 0 l) := by
  unfold slices_Index_int_int.f
  exact index_l0 l hl v l.length 0 (by omega)

/-- The first two equal ones from place i on. -/
def twiceS : Nat → List Int → Int × Int
  | _, [] => (-1, -1)
  | i, a :: l => if 0 ≤ idxS a 0 l then ((i : Int), (i : Int) + 1 + idxS a 0 l) else twiceS (i + 1) l

theorem idxS_lt (v : Int) (l : List Int) : idxS v 0 l < (l.length : Int) ∧ -1 ≤ idxS v 0 l := by
  by_cases h : 0 ≤ idxS v 0 l
  · obtain ⟨n, h1, h2, _, _⟩ := idxS_some h
    omega
  · have : ∀ (l : List Int) (j : Nat), -1 ≤ idxS v j l := by
      intro l
      induction l with
      | nil => intro j; simp [idxS]
      | cons a l ih => intro j; rw [idxS]; split; omega; exact ih _
    have := this l 0
    omega

theorem twice_l0 (l : List Int) (hl : l.length ≤ 1000) : ∀ (d i : Nat), i + d = l.length →
    Ev (fun k => shuffle_twice.l0 k l l (l.length : Int) (i : Int)) (twiceS i (l.drop i)) := by
  intro d
  induction d with
  | zero =>
    intro i hi
    refine Ev.step (fun k => by simp only [shuffle_twice.l0]; exact rfl) ?_
    have e0 : l.drop i = [] := List.drop_eq_nil_of_le (by omega)
    rw [e0]
    exact Ev.neg (by omega) (Ev.now _)
  | succ d ih =>
    intro i hi
    refine Ev.step (fun k => by simp only [shuffle_twice.l0]; exact rfl) ?_
    refine Ev.pos (by omega) (Ev.pos (by omega) (Ev.pos (by omega) ?_))
    have e : l.drop i = l.getD i 0 :: l.drop (i + 1) := by
      rw [List.drop_eq_getElem_cons (show i < l.length by omega)]
      simp [show i < l.length by omega]
    rw [step_nat' (by omega), rd_nat, Int.toNat_natCast, e, twiceS]
    refine Ev.pos (by omega) (Ev.pos (by omega) ?_)
    refine Ev.bind (index_ev (l.drop (i + 1)) (by simp; omega) (l.getD i 0)) ?_
    have hb := idxS_lt (l.getD i 0) (l.drop (i + 1))
    rw [List.length_drop] at hb
    by_cases h0 : 0 ≤ idxS (l.getD i 0) 0 (l.drop (i + 1))
    · rw [if_pos h0, wrap_in (by omega) (by omega)]
      have e2 : ((i + 1 : Nat) : Int) + idxS (l.getD i 0) 0 (l.drop (i + 1)) = (i : Int) + 1 + idxS (l.getD i 0) 0 (l.drop (i + 1)) := by push_cast; rfl
      rw [e2]
      exact Ev.pos h0 (Ev.now _)
    · rw [if_neg h0]
      exact Ev.neg (by omega) (ih (i + 1) (by omega))

theorem twice_ev (l : List Int) (hl : l.length ≤ 1000) : Ev (fun k => shuffle_twice.f k l) (twiceS 0 l) := by
  unfold shuffle_twice.f
  exact twice_l0 l hl l.length 0 (by omega)

theorem twiceS_spec : ∀ (l : List Int) (i : Nat), (twiceS i l = (-1, -1) ∧ ∀ p q, p < q → q < l.length → l.getD p 0 ≠ l.getD q 0) ∨
    (∃ p q, p < q ∧ q < l.length ∧ l.getD p 0 = l.getD q 0 ∧ twiceS i l = (((i + p : Nat) : Int), ((i + q : Nat) : Int)))
  | [], i => .inl ⟨rfl, fun p q _ hq => absurd hq (by simp)⟩
  | a :: l, i => by
    rw [twiceS]
    by_cases h0 : 0 ≤ idxS a 0 l
    · rw [if_pos h0]
      obtain ⟨n, h1, h2, h3, _⟩ := idxS_some h0
      refine .inr ⟨0, n + 1, by omega, by simpa using h1, by simpa using h3, ?_⟩
      rw [h2]
      simp
      omega
    · rw [if_neg h0]
      rcases twiceS_spec l (i + 1) with ⟨h1, h2⟩ | ⟨p, q, h1, h2, h3, h4⟩
      · refine .inl ⟨h1, fun p q hpq hq => ?_⟩
        cases q with
        | zero => omega
        | succ q =>
          have hq' : q < l.length := by simpa using hq
          cases p with
          | zero =>
            have := idxS_none (show idxS a 0 l < 0 by omega) (l.getD q 0) (by simp [hq'])
            simpa using this
          | succ p => simpa using h2 p q (by omega) hq'
      · refine .inr ⟨p + 1, q + 1, by omega, by simpa using h2, by simpa using h3, ?_⟩
        rw [h4]
        congr 1 <;> (congr 1; omega)


end Go.Proofs.Ytpkmmbicpijgpaa.Pure
