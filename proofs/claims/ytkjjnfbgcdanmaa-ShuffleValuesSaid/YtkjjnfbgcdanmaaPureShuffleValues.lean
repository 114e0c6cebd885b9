/- For every int and list, ShuffleValues answers true: Values, Permutes, Shifts and Split tell what the reference tells, and all four refuse what is no polynomial. -/
import Derived.Test.YtkjjnfbgcdanmaaPx8 -- @galloonlaw06_ShuffleValues
import Derived.Test.YtkjjnfbgcdanmaaMathM
namespace Go.Proofs.Ytkjjnfbgcdanmaa.Pure
open Go.RowKit Go.Proofs.Ytkjjnfbgcdanmaa.P Go.Proofs.YtkjjnfbgcdanmaaW.PrintWords Go.Proofs.YtkjjnfbgcdanmaaW.PrintLast
open Go.Proofs.Ytkjjnfbgcdanmaa.MathA Go.Proofs.Ytkjjnfbgcdanmaa.MathB

theorem shS_length (m : Nat) (f : List Int) : (shS m f).length ≤ m := by
  unfold shS
  rw [List.length_map]
  exact Nat.le_trans (List.length_filter_le _ _) (by simp)

theorem rdL_nat (F : List (List Int)) {i : Nat} (h : i < F.length) : rd_L2 F (i : Int) = F[i] := by
  simp [rd_L2, h]

theorem values_law_l0 {m : Nat} (h : Mod m) {l : List Int} (hl : Rem m l) (h12 : l.length ≤ 12) : ∀ (d i : Nat), i + d = (prt m).length →
    Ev (fun k => galloonlaw06_ShuffleValues.l0 k l ((prt m).map toS) ((prt m).map fun q => valS (pw q) l) ((prt m).map toS) (i : Int)) true := by
  have hL := prt_len h
  intro d
  induction d with
  | zero =>
    intro i hi
    refine Ev.step (fun k => by simp only [galloonlaw06_ShuffleValues.l0]; exact rfl) ?_
    exact Ev.neg (by simp; omega) (Ev.bind awake_ev (Ev.now _))
  | succ d ih =>
    intro i hi
    have hlt : i < (prt m).length := by omega
    obtain ⟨hq, _, hp⟩ := prt_ok h (List.getElem_mem hlt)
    have h64 := hl.le h.hi
    refine Ev.step (fun k => by simp only [galloonlaw06_ShuffleValues.l0]; exact rfl) ?_
    refine Ev.pos (by simp; omega) (Ev.pos (by omega) (Ev.pos (by simp; omega) ?_))
    rw [rdT_nat _ hlt]
    refine Ev.bind (Ev.from200 (r := (pw (prt m)[i] : Int)) fun k hk => hp k hk) (Ev.neg (by simp) (Ev.pos (by simp; omega) ?_))
    refine Ev.bind (reduced_ev hq l h64 (by omega)) (Ev.bind (refVal_ev hq (map_rem hq l) (by simp; omega)) ?_)
    rw [valS_map, rdL_nat _ (by simpa using hlt)]
    have h2 := hq.hi
    have e : ((prt m).map fun q => valS (pw q) l)[i]'(by simpa using hlt) = valS (pw (prt m)[i]) l := by simp
    rw [e, nat_step (by omega)]
    exact Ev.bind (ints_self _ (by rw [valS_length]; omega)) (Ev.pos (by simp) (ih (i + 1) (by omega)))

theorem bad_parts {a : Int} {l : List Int} (h : shuffle_isPolynomial.f a l = some false) :
    (∀ k, shuffle_Values.f k a l = some ([], 2)) ∧ (∀ k, shuffle_Permutes.f k a l = some (0, 0, 2)) ∧ (∀ k, shuffle_Shifts.f k a l = some ([], 2)) ∧ ∀ k, shuffle_Split.f k a l = some ([], [], 2) := by
  have hv : ∀ k, shuffle_Values.f k a l = some ([], 2) := fun k => by unfold shuffle_Values.f; rw [h]; rfl
  exact ⟨hv, fun k => by unfold shuffle_Permutes.f; rw [hv]; rfl, fun k => by unfold shuffle_Shifts.f Hand.shuffle_Shifts.f; rw [hv]; rfl, fun k => by unfold shuffle_Split.f; rw [h]; rfl⟩

theorem ShuffleValues : galloonlaw06_ShuffleValues.Pure := by
  intro a l1 _ _ _ _
  refine Ev.rounds ?_
  unfold galloonlaw06_ShuffleValues.f
  refine Ev.bind (Ev.from200 (r := l1.take 65) fun k _ => rfl) ?_
  have hl65 : (l1.take 65).length ≤ 65 := by simp; omega
  generalize l1.take 65 = l at hl65
  have bad : shuffle_isPolynomial.f a l = some false → Ev (fun k => galloonlaw06_ShuffleValues.j0 k a l [] 2 0 0 2 [] 2 [] [] 2 true) true := fun _ => by
    refine Ev.step (fun k => by simp only [galloonlaw06_ShuffleValues.j0]; exact rfl) ?_
    exact Ev.pos (by simp) (Ev.pos (by simp) (Ev.pos (by simp) (Ev.pos (by simp) (Ev.pos (by simp) (Ev.pos (by simp) (Ev.pos (by simp) (Ev.pos (by simp) (Ev.pos (by simp) (Ev.pos (by simp) (Ev.pos (by simp) (Ev.bind awake_ev (Ev.now _))))))))))))
  by_cases hm : 2 ≤ a ∧ a ≤ 64
  · obtain ⟨m, rfl⟩ : ∃ m : Nat, a = (m : Int) := ⟨a.toNat, by omega⟩
    have h : Mod m := ⟨by omega, by omega⟩
    have h2 := h.hi
    have hp := isPoly_gen hm.1 hm.2 l
    have hr := refPoly_ev (m : Int) l (by omega)
    have hmod := refMod_gen (m : Int)
    rw [decide_eq_true hm] at hmod
    cases hb : (decide ((l.length : Int) ≤ 12) && remB (m : Int) l) with
    | false =>
      rw [hb] at hp hr
      obtain ⟨b1, b2, b3, b4⟩ := bad_parts hp
      refine Ev.bind (Ev.from200 fun k _ => b1 k) (Ev.bind (Ev.from200 fun k _ => b2 k) (Ev.bind (Ev.from200 fun k _ => b3 k) (Ev.bind (Ev.from200 fun k _ => b4 k) ?_)))
      refine Ev.bind (Ev.from200 (r := true) fun k _ => hmod) (Ev.pos (by simp) (Ev.bind hr ?_))
      exact bad hp
    | true =>
      rw [hb] at hr
      rw [Bool.and_eq_true, decide_eq_true_iff] at hb
      have hl : Rem m l := (remB_iff l).1 hb.2
      have h12 : l.length ≤ 12 := by omega
      have hv : Ev (fun k => shuffle_Values.f k (m : Int) l) (valS m l, 0) := Ev.from200 fun k hk => values_ev h hl h12 hk
      refine Ev.bind hv (Ev.bind (permutes_ev h hl h12) (Ev.bind (shifts_ev h hl h12) (Ev.bind (split_ev h hl h12) ?_)))
      refine Ev.bind (Ev.from200 (r := true) fun k _ => hmod) (Ev.pos (by simp) (Ev.bind hr ?_))
      refine Ev.step (fun k => by simp only [galloonlaw06_ShuffleValues.j0]; exact rfl) ?_
      refine Ev.neg (by decide) ?_
      refine Ev.bind (refVal_ev h hl (by omega)) (Ev.bind (equal_ev _ (by rw [valS_length]; omega)) (Ev.bind (Ev.from200 fun k hk => parts_ev h hk) ?_))
      refine Ev.bind (ints_self _ (by rw [valS_length]; omega)) (Ev.pos (by simp) (Ev.pos (by simp) (Ev.pos (by simp) (Ev.pos (by simp) (Ev.pos (by simp) ?_)))))
      have hs := shS_length m (valS m l)
      refine Ev.bind (rshifts_ev h (valS_rem h l) (valS_length m l)) (Ev.bind (ints_self _ (by omega)) (Ev.pos (by simp) (Ev.pos (by simp) (Ev.pos (by simp) (Ev.pos (by simp) ?_)))))
      refine Ev.step (fun k => by simp only [galloonlaw06_ShuffleValues.j1]; exact rfl) ?_
      refine Ev.neg (by simp) ?_
      exact values_law_l0 h hl h12 (prt m).length 0 (by omega)
  · have hp := isPoly_not hm l
    obtain ⟨b1, b2, b3, b4⟩ := bad_parts hp
    have hmod := refMod_gen a
    rw [decide_eq_false hm] at hmod
    refine Ev.bind (Ev.from200 fun k _ => b1 k) (Ev.bind (Ev.from200 fun k _ => b2 k) (Ev.bind (Ev.from200 fun k _ => b3 k) (Ev.bind (Ev.from200 fun k _ => b4 k) ?_)))
    exact Ev.bind (Ev.from200 (r := false) fun k _ => hmod) (Ev.neg (by decide) (bad hp))

end Go.Proofs.Ytkjjnfbgcdanmaa.Pure
