/- For every int and list, ShuffleRivest answers true: Rivest's theorem. -/
import Derived.Test.YtkjjnfbgcdanmaaMathG
import Derived.Test.YtkjjnfbgcdanmaaMathH
namespace Go.Proofs.Ytkjjnfbgcdanmaa.Pure
open Go.RowKit Go.Proofs.Ytkjjnfbgcdanmaa.P Go.Proofs.YtkjjnfbgcdanmaaW.PrintWords Go.Proofs.YtkjjnfbgcdanmaaW.PrintLast
open Go.Proofs.Ytkjjnfbgcdanmaa.MathA Go.Proofs.Ytkjjnfbgcdanmaa.MathB Go.Proofs.Ytkjjnfbgcdanmaa.MathG Go.Proofs.YtkjjnfbgcdanmaaW.PrintMore

/-- The sums by the parity of the place, the first at place i. -/
def sE : Nat → List Int → Int
  | _, [] => 0
  | i, c :: l => (if i % 2 = 0 then c else 0) + sE (i + 1) l
def sO : Nat → List Int → Int
  | _, [] => 0
  | i, c :: l => (if i % 2 = 0 then 0 else c) + sO (i + 1) l

theorem sEO : ∀ (l : List Int) (i : Nat), (i % 2 = 0 → sE i l = sumE l ∧ sO i l = sumO l) ∧ (i % 2 = 1 → sE i l = sumO l ∧ sO i l = sumE l)
  | [], i => by simp [sE, sO, sumE, sumO]
  | c :: l, i => by
    have ih := sEO l (i + 1)
    have e := sumE_cons c l
    constructor
    · intro h
      have := ih.2 (by omega)
      rw [sE, sO, if_pos h, if_pos h, this.1, this.2, e.1, e.2]
      exact ⟨rfl, by omega⟩
    · intro h
      have := ih.1 (by omega)
      rw [sE, sO, if_neg (by omega), if_neg (by omega), this.1, this.2, e.1, e.2]
      exact ⟨by omega, rfl⟩

def want (x : Int) (one even odd : Int) : Prop := (x = -1 ↔ (one % 2 = 1 ∧ even % 2 = 0 ∧ odd % 2 = 0))

theorem rivest_l0 (l : List Int) (hl : l.length ≤ 12) (hb : ∀ v ∈ l, 0 ≤ v ∧ v < 64) (x : Int) : ∀ (d i : Nat) (even odd one : Int), i + d = l.length → 1 ≤ i → 0 ≤ even → even ≤ 64 * i → 0 ≤ odd → odd ≤ 64 * i → 0 ≤ one →
    (i = 1 → want x (l.getD 1 0) (even + sE 2 (l.drop 2)) (odd + sO 2 (l.drop 2))) → (2 ≤ i → want x one (even + sE i (l.drop i)) (odd + sO i (l.drop i))) → (l.length ≤ 1 → one = 0) →
    Ev (fun k => galloonlaw06_ShuffleRivest.l0 k l x 0 even odd one (i : Int)) true := by
  intro d
  induction d with
  | zero =>
    intro i even odd one hi h1 he0 he1 ho0 ho1 hone hw1 hw2 hsmall
    refine Ev.step (fun k => by simp only [galloonlaw06_ShuffleRivest.l0]; exact rfl) ?_
    refine Ev.neg (by omega) (Ev.pos trivial ?_)
    have hwant : want x one even odd := by
      by_cases h2 : 2 ≤ i
      · have := hw2 h2
        rw [List.drop_eq_nil_of_le (by omega)] at this
        simpa [sE, sO] using this
      · have hi1 : i = 1 := by omega
        have := hw1 hi1
        rw [List.drop_eq_nil_of_le (by omega)] at this
        have e1 : l.getD 1 0 = one := by
          rw [hsmall (by omega)]
          simp [show l.length ≤ 1 by omega]
        rw [e1] at this
        simpa [sE, sO] using this
    rw [Int.tmod_eq_emod_of_nonneg hone, Int.tmod_eq_emod_of_nonneg he0, Int.tmod_eq_emod_of_nonneg ho0]
    unfold want at hwant
    have fin : Ev (fun k => (galloonlaw06_awake.f k).bind fun t => some t) true := Ev.bind awake_ev (Ev.now _)
    by_cases g1 : one % 2 = 1
    · refine Ev.pos g1 ?_
      by_cases g2 : even % 2 = 0
      · refine Ev.pos g2 (Ev.pos ?_ fin)
        by_cases g3 : odd % 2 = 0
        · have := hwant.2 ⟨g1, g2, g3⟩
          rw [this, g3]; rfl
        · have q1 : (x == -1) = false := beq_eq_false_iff_ne.mpr (fun e => g3 (hwant.1 e).2.2)
          have q2 : (odd % 2 == 0) = false := beq_eq_false_iff_ne.mpr g3
          rw [q1, q2]; rfl
      · refine Ev.neg g2 (Ev.pos ?_ fin)
        have : ¬ x = -1 := fun e => g2 (hwant.1 e).2.1
        simp [this]
    · refine Ev.neg g1 (Ev.pos ?_ fin)
      have : ¬ x = -1 := fun e => g1 (hwant.1 e).1
      simp [this]
  | succ d ih =>
    intro i even odd one hi h1 he0 he1 ho0 ho1 hone hw1 hw2 hsmall
    have hv := hb (l.getD i 0) (by simp [show i < l.length by omega])
    have ed : l.drop i = l.getD i 0 :: l.drop (i + 1) := by
      rw [List.drop_eq_getElem_cons (show i < l.length by omega)]
      simp [show i < l.length by omega]
    refine Ev.step (fun k => by simp only [galloonlaw06_ShuffleRivest.l0]; exact rfl) ?_
    refine Ev.pos (by omega) ?_
    rw [step_nat' (by omega), rd_nat]
    by_cases hi1 : i = 1
    · subst hi1
      refine Ev.pos rfl (Ev.pos (by omega) ?_)
      exact ih 2 even odd (l.getD 1 0) (by omega) (by omega) he0 (by omega) ho0 (by omega) hv.1 (fun h => by omega) (fun _ => hw1 rfl) (fun h => by omega)
    · refine Ev.neg (by omega) ?_
      rw [Int.tmod_eq_emod_of_nonneg (by omega)]
      have hw := hw2 (by omega)
      rw [ed, sE, sO] at hw
      by_cases hp : i % 2 = 0
      · refine Ev.pos (by omega) (Ev.pos (by omega) ?_)
        rw [wrap_in (by omega) (by omega)]
        rw [if_pos hp, if_pos hp] at hw
        refine ih (i + 1) (even + l.getD i 0) odd one (by omega) (by omega) (by omega) (by omega) ho0 (by omega) hone (fun h => by omega) (fun _ => ?_) hsmall
        have e1 : even + l.getD i 0 + sE (i + 1) (l.drop (i + 1)) = even + (l.getD i 0 + sE (i + 1) (l.drop (i + 1))) := by omega
        have e2 : odd + sO (i + 1) (l.drop (i + 1)) = odd + (0 + sO (i + 1) (l.drop (i + 1))) := by omega
        rw [e1, e2]; exact hw
      · refine Ev.neg (by omega) (Ev.pos (by omega) ?_)
        rw [wrap_in (by omega) (by omega)]
        rw [if_neg hp, if_neg hp] at hw
        refine ih (i + 1) even (odd + l.getD i 0) one (by omega) (by omega) he0 (by omega) (by omega) (by omega) hone (fun h => by omega) (fun _ => ?_) hsmall
        have e1 : odd + l.getD i 0 + sO (i + 1) (l.drop (i + 1)) = odd + (l.getD i 0 + sO (i + 1) (l.drop (i + 1))) := by omega
        have e2 : even + sE (i + 1) (l.drop (i + 1)) = even + (0 + sE (i + 1) (l.drop (i + 1))) := by omega
        rw [e1, e2]; exact hw

theorem ShuffleRivest : galloonlaw06_ShuffleRivest.Pure := by
  intro a l1 _ hm1 _ _
  unfold maxLen at hm1
  refine Ev.rounds (g := fun k => galloonlaw06_ShuffleRivest.f k a l1) ?_
  obtain ⟨t, ht, h0, h1⟩ := mod_some a 5 (by omega) (by omega)
  unfold galloonlaw06_ShuffleRivest.f
  rw [ht]
  refine Ev.congr (fun k => Option.bind_some _ _) (Ev.pos h0 ?_)
  obtain ⟨w, rfl⟩ : ∃ w : Nat, t = (w : Int) := ⟨t.toNat, by omega⟩
  have hw : w < 5 := by omega
  obtain ⟨m, hm, hmw, hm4, h⟩ : ∃ m : Nat, shl .i64 4 (w : Int) = (m : Int) ∧ m = 2 ^ (w + 2) ∧ 4 ≤ m ∧ Mod m := by
    have hall : ∀ v : Fin 5, shl .i64 4 ((v.val : Nat) : Int) = ((2 ^ (v.val + 2) : Nat) : Int) ∧ 4 ≤ 2 ^ (v.val + 2) ∧ 2 ≤ 2 ^ (v.val + 2) ∧ 2 ^ (v.val + 2) ≤ 64 := by decide
    have := hall ⟨w, hw⟩
    exact ⟨2 ^ (w + 2), this.1, rfl, this.2.1, ⟨this.2.2.1, this.2.2.2⟩⟩
  rw [hm]
  have h2 := h.hi
  refine Ev.bind (tame_ev h l1 (by omega)) ?_
  have hp := tameS_rem h l1
  have hpl := tameS_len m l1
  generalize tameS m l1 = p at hp hpl
  refine Ev.bind (permutes_ev h hp hpl) ?_
  have hriv := rivest (w := w + 2) hmw hm4 p
  have hx : (twiceS 0 (valS m p)).1 = -1 ↔ Inj m p := by
    rcases twiceS_spec (valS m p) 0 with ⟨e1, e2⟩ | ⟨i, j, e1, e2, e3, e4⟩
    · rw [e1]
      refine ⟨fun _ i j hij hj => ?_, fun _ => rfl⟩
      have := e2 i j hij (by rw [valS_length]; exact hj)
      rwa [valS_get p (by omega), valS_get p hj] at this
    · rw [e4]
      constructor
      · intro e; dsimp only at e; omega
      · intro hi
        rw [valS_length] at e2
        rw [valS_get p (by omega), valS_get p e2] at e3
        exact absurd e3 (hi i j e1 e2)
  have hs := (sEO (p.drop 2) 2).1 (by omega)
  have hwant : want (twiceS 0 (valS m p)).1 (p.getD 1 0) (0 + sE 2 (p.drop 2)) (0 + sO 2 (p.drop 2)) := by
    unfold want
    rw [hx, hriv, hs.1, hs.2, Int.zero_add, Int.zero_add]
  have hb : ∀ v ∈ p, 0 ≤ v ∧ v < 64 := fun v hv => by have := hp v hv; omega
  by_cases hlen : p.length = 0
  · have hp0 : p = [] := List.eq_nil_of_length_eq_zero hlen
    subst hp0
    refine Ev.step (fun k => by simp only [galloonlaw06_ShuffleRivest.l0]; exact rfl) ?_
    refine Ev.neg (by simp) (Ev.pos trivial (Ev.neg (by decide) (Ev.pos ?_ (Ev.bind awake_ev (Ev.now _)))))
    unfold want at hwant
    have : ¬ (twiceS 0 (valS m [])).1 = -1 := fun e => by have := (hwant.1 e).1; simp at this
    simp [this]
  · exact rivest_l0 p hpl hb _ (p.length - 1) 1 0 0 0 (by omega) (by omega) (by omega) (by omega) (by omega) (by omega) (by omega) (fun _ => hwant) (fun h => by omega) (fun _ => rfl)

end Go.Proofs.Ytkjjnfbgcdanmaa.Pure
