/- For every two ints and list, ShuffleParted answers true: a polynomial is a permutation exactly if it is one for each of the prime powers, and its values are joined from theirs. -/
import Derived.Test.YtkjjnfbgcdanmaaPx11 -- @galloonlaw06_ShuffleParted
import Derived.Test.YtkjjnfbgcdanmaaPx10 -- @galloonref06_Product
import Derived.Test.YtkjjnfbgcdanmaaPx10 -- @galloonref06_Permutation
import Derived.Test.YtkjjnfbgcdanmaaPx8 -- @galloonref06_Function
import Derived.Test.YtkjjnfbgcdanmaaMathP
namespace Go.Proofs.Ytkjjnfbgcdanmaa.Pure
open Go.RowKit Go.Proofs.Ytkjjnfbgcdanmaa.P Go.Proofs.YtkjjnfbgcdanmaaW.PrintWords Go.Proofs.YtkjjnfbgcdanmaaW.PrintLast
open Go.Proofs.Ytkjjnfbgcdanmaa.MathA Go.Proofs.Ytkjjnfbgcdanmaa.MathB

theorem prod_all : ∀ t : Fin 63, galloonref06_Product.f 300 ((prt (t.val + 2)).map toS) = some ((t.val + 2 : Nat) : Int) := by decide +kernel
theorem prod_ev {m : Nat} (h : Mod m) : Ev (fun k => galloonref06_Product.f k ((prt m).map toS)) (m : Int) := by
  obtain ⟨t, rfl⟩ := h.fin
  exact Ev.of (fun k => galloonref06_Product.mono _ k) (prod_all t)

theorem fun_self {q : Nat} {f : List Int} (hl : f.length = q) (hf : Rem q f) (h1000 : f.length ≤ 1000) : Ev (fun k => galloonref06_Function.f k (q : Int) f) true := by
  unfold galloonref06_Function.f
  refine Ev.pos (by omega) ?_
  have := listed_ev (q : Int) f h1000
  rw [(remB_iff f).2 hf] at this
  exact Ev.bind this (Ev.now _)
theorem perm_ev (f : List Int) (hl : f.length ≤ 1000) : Ev (fun k => galloonref06_Permutation.f k f) (permB f) := by
  unfold galloonref06_Permutation.f
  exact Ev.bind (equal_ev f hl) (Ev.now _)

theorem parted_l0 {m : Nat} (h : Mod m) {l : List Int} {z : Nat} (hz : z < m) : ∀ (d i : Nat), i + d = (prt m).length →
    Ev (fun k => galloonlaw06_ShuffleParted.l0 k (valS m l) (twiceS 0 (valS m l)).1 ((prt m).map toS) ((prt m).map fun q => valS (pw q) l) (z : Int) (((prt m).take i).all fun q => permB (valS (pw q) l)) (((prt m).take i).map fun q => horn l (z : Int) % (pw q : Int)) (i : Int)) true := by
  have h1 := h.lo
  have h2 := h.hi
  have hL := prt_len h
  intro d
  induction d with
  | zero =>
    intro i hi
    refine Ev.step (fun k => by rw [galloonlaw06_ShuffleParted.l0]) ?_
    refine Ev.neg (by simp; omega) ?_
    rw [List.take_of_length_le (by omega)]
    have b1 := Int.emod_nonneg (horn l (z : Int)) (show (m : Int) ≠ 0 by omega)
    have b2 := Int.emod_lt_of_pos (horn l (z : Int)) (show (0 : Int) < m by omega)
    obtain ⟨n0, hn0⟩ : ∃ n0 : Nat, (n0 : Int) = horn l (z : Int) % (m : Int) := ⟨(horn l (z : Int) % (m : Int)).toNat, by omega⟩
    have hget : ∀ i (hi : i < (prt m).length), ((prt m).map fun q => horn l (z : Int) % (pw q : Int)).getD i 0 = horn l (z : Int) % (pw (prt m)[i] : Int) := fun i hi => by simp [hi]
    have hdv : ∀ q ∈ prt m, (pw q : Int) ∣ (m : Int) := fun q hq => Int.natCast_dvd_natCast.2 (Nat.dvd_of_mod_eq_zero (prt_dvd h hq).1)
    have hfit : ∀ n : Nat, fitS (prt m) ((prt m).map fun q => horn l (z : Int) % (pw q : Int)) n = true ↔ ∀ q ∈ prt m, (n : Int) % (pw q : Int) = horn l (z : Int) % (pw q : Int) := by
      intro n
      unfold fitS
      rw [List.all_eq_true]
      constructor
      · intro ha q hq
        obtain ⟨i, hi, rfl⟩ := List.getElem_of_mem hq
        have := ha i (List.mem_range.2 hi)
        rw [decide_eq_true_iff, hget i hi] at this
        simpa [hi] using this
      · intro ha i hi
        have hi' := List.mem_range.1 hi
        rw [decide_eq_true_iff, hget i hi']
        have := ha _ (List.getElem_mem hi')
        simpa [hi'] using this
    have hj : Ev (fun k => shuffle_Joined.f k ((prt m).map toS) ((prt m).map fun q => horn l (z : Int) % (pw q : Int))) ((n0 : Int), 0) := Ev.from200 fun k hk => by
      refine joined_ev h _ (by simp) (fun i hi => ?_) (by omega) ((hfit n0).2 fun q hq => ?_) (fun n hn => ?_) hk
      · rw [hget i hi]
        have := (prt_ok h (List.getElem_mem hi)).1.lo
        exact ⟨Int.emod_nonneg _ (by omega), Int.emod_lt_of_pos _ (by omega)⟩
      · rw [hn0, Int.emod_emod_of_dvd _ (hdv q hq)]
      · rw [Bool.eq_false_iff]
        intro hc
        have hc := (hfit n).1 hc
        have : n0 - n = 0 := by
          refine prt_zero h (by omega) fun q hq => ?_
          have e1 := hc q hq
          have e2 : (n0 : Int) % (pw q : Int) = horn l (z : Int) % (pw q : Int) := by rw [hn0, Int.emod_emod_of_dvd _ (hdv q hq)]
          have e3 : n0 % pw q = n % pw q := by
            have : ((n0 % pw q : Nat) : Int) = ((n % pw q : Nat) : Int) := by rw [cast_mod, cast_mod, e1, e2]
            omega
          exact Nat.sub_mod_eq_zero_of_mod_eq e3
        omega
    refine Ev.bind hj (Ev.pos rfl (Ev.pos (by omega) (Ev.pos (by rw [valS_length]; omega) (Ev.pos ?_ (Ev.pos ?_ (Ev.bind awake_ev (Ev.now _)))))))
    · rw [rd_nat, valS_get l hz]; exact hn0
    · rw [twice_first, perm_parts h l]; simp
  | succ d ih =>
    intro i hi
    have hlt : i < (prt m).length := by omega
    obtain ⟨hq, _, hp⟩ := prt_ok h (List.getElem_mem hlt)
    have q1 := hq.lo
    have q2 := hq.hi
    have hn := ih (i + 1) (by omega)
    rw [List.take_succ_eq_append_getElem hlt, List.map_append, List.all_append] at hn
    refine Ev.step (fun k => by rw [galloonlaw06_ShuffleParted.l0]) ?_
    refine Ev.pos (by simp; omega) (Ev.pos (by omega) ?_)
    rw [rdT_nat _ hlt]
    refine Ev.bind (Ev.from200 (r := (pw (prt m)[i] : Int)) fun k hk => hp k hk) (Ev.pos (by simp; omega) ?_)
    have ef : rd_L2 ((prt m).map fun q => valS (pw q) l) (i : Int) = valS (pw (prt m)[i]) l := by simp [rd_L2, hlt]
    rw [ef]
    refine Ev.bind (fun_self (valS_length _ _) (valS_rem hq l) (by rw [valS_length]; omega)) (Ev.pos rfl ?_)
    have ez : Int.tmod (z : Int) (pw (prt m)[i] : Int) = ((z % pw (prt m)[i] : Nat) : Int) := by rw [Int.tmod_eq_emod_of_nonneg (by omega), cast_mod]
    have hzl : z % pw (prt m)[i] < pw (prt m)[i] := Nat.mod_lt _ (by omega)
    have hval : rd (valS (pw (prt m)[i]) l) ((z % pw (prt m)[i] : Nat) : Int) = horn l (z : Int) % (pw (prt m)[i] : Int) := by
      rw [rd_nat, valS_get l hzl]
      exact horn_mod (by rw [cast_mod, Int.emod_emod]) l
    have hlen : (((prt m).take i).map fun q => horn l (z : Int) % (pw q : Int)).length ≤ 10 := by simp; omega
    rw [ez, hval, step_nat' (by omega)]
    by_cases hb : (((prt m).take i).all fun q => permB (valS (pw q) l)) = true
    · refine Ev.pos hb (Ev.bind (perm_ev _ (by rw [valS_length]; omega)) ?_)
      refine Ev.neg (by omega) (Ev.pos (by omega) (Ev.pos (by rw [valS_length]; omega) (Ev.pos (by omega) ?_)))
      rw [hb, Bool.true_and] at hn
      simpa using hn
    · have hb' : (((prt m).take i).all fun q => permB (valS (pw q) l)) = false := by simpa using hb
      refine Ev.neg hb ?_
      refine Ev.neg (by omega) (Ev.pos (by omega) (Ev.pos (by rw [valS_length]; omega) (Ev.pos (by omega) ?_)))
      rw [hb', Bool.false_and] at hn
      simpa using hn

theorem ShuffleParted : galloonlaw06_ShuffleParted.Pure := by
  intro a0 l1 a2 _ hl _ _ _
  obtain ⟨m, h, t, ht, hw⟩ := mod_of a0
  have h1 := h.lo
  have h2 := h.hi
  refine Ev.rounds ?_
  unfold galloonlaw06_ShuffleParted.f
  refine Ev.bind (Ev.from200 (r := t) fun k _ => ht) ?_
  rw [hw]
  refine Ev.bind (tame_ev h l1 hl) ?_
  have hr := tameS_rem h l1
  have h12 := tameS_len m l1
  generalize tameS m l1 = l at hr h12
  have hv : Ev (fun k => shuffle_Values.f k (m : Int) l) (valS m l, 0) := Ev.from200 fun k hk => values_ev h hr h12 hk
  refine Ev.bind hv (Ev.bind (permutes_ev h hr h12) (Ev.bind (split_ev h hr h12) (Ev.pos rfl (Ev.pos rfl (Ev.pos rfl (Ev.pos ?_ (Ev.bind (prod_ev h) (Ev.pos rfl ?_))))))))
  · rw [valS_length]
  · have e : ((((prt m).map fun q => valS (pw q) l).length : Int) != (((prt m).map toS).length : Int)) = false := by simp
    dsimp only
    rw [e]
    refine Ev.step (fun k => by rw [galloonlaw06_ShuffleParted.j0]) ?_
    refine Ev.neg (by decide) ?_
    obtain ⟨z, hz, hz0, hz1⟩ := mod_some a2 (m : Int) (by omega) (by omega)
    obtain ⟨z, rfl⟩ := Int.eq_ofNat_of_zero_le hz0
    refine Ev.bind (Ev.from200 (r := (z : Int)) fun k _ => hz) ?_
    exact parted_l0 h (by omega) (prt m).length 0 (by omega)

end Go.Proofs.Ytkjjnfbgcdanmaa.Pure
