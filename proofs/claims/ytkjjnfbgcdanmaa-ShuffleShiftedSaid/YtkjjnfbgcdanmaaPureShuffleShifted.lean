/- For every int, list and pair, ShuffleShifted answers true: the numbers that move along are the multiples of one that divides the modulus. -/
import Derived.Test.YtkjjnfbgcdanmaaPx26 -- @galloonlaw06_ShuffleShifted
import Derived.Test.YtkjjnfbgcdanmaaMathL
namespace Go.Proofs.Ytkjjnfbgcdanmaa.Pure
open Go.RowKit Go.Proofs.Ytkjjnfbgcdanmaa.P Go.Proofs.YtkjjnfbgcdanmaaW.PrintWords Go.Proofs.YtkjjnfbgcdanmaaW.PrintLast
open Go.Proofs.Ytkjjnfbgcdanmaa.MathA Go.Proofs.Ytkjjnfbgcdanmaa.MathB

theorem shS_length_le (m : Nat) (f : List Int) : (shS m f).length ≤ m := by
  unfold shS
  rw [List.length_map]
  exact Nat.le_trans (List.length_filter_le _ _) (by simp)

theorem shS_mem {m : Nat} {f : List Int} {v : Int} : v ∈ shS m f ↔ ∃ a : Nat, a < m ∧ shB m f a = true ∧ v = (a : Int) := by
  unfold shS
  rw [List.mem_map]
  constructor
  · rintro ⟨a, ha, rfl⟩
    rw [List.mem_filter, List.mem_range] at ha
    exact ⟨a, ha.1, ha.2, rfl⟩
  · rintro ⟨a, h1, h2, rfl⟩
    exact ⟨a, by rw [List.mem_filter, List.mem_range]; exact ⟨h1, h2⟩, rfl⟩

theorem shB_zero {m : Nat} (h : Mod m) (f : List Int) : shB m f 0 = true := (shB_iff h f 0).2 (MathK.sh_zero m _)

theorem shS_head {m : Nat} (h : Mod m) (f : List Int) : 0 < (shS m f).length ∧ (shS m f).getD 0 0 = 0 := by
  have h1 := h.lo
  obtain ⟨n, rfl⟩ : ∃ n, m = n + 1 := ⟨m - 1, by omega⟩
  unfold shS
  rw [List.range_succ_eq_map, List.filter_cons, if_pos (shB_zero h f), List.map_cons]
  exact ⟨by simp, by simp⟩

theorem shS_sorted (m : Nat) (f : List Int) {j : Nat} (h0 : 0 < j) (h : j < (shS m f).length) : (shS m f).getD (j - 1) 0 < (shS m f).getD j 0 := by
  have hp : (shS m f).Pairwise (· < ·) := by
    unfold shS
    rw [List.pairwise_map]
    refine List.Pairwise.imp ?_ (List.pairwise_lt_range.filter _)
    intro a b hab
    omega
  rw [List.pairwise_iff_getElem] at hp
  have := hp (j - 1) j (by omega) h (by omega)
  simpa [List.getD_eq_getElem?_getD, h, show j - 1 < (shS m f).length by omega] using this

theorem shS_dvd {m : Nat} (h : Mod m) (f : List Int) : m % (shS m f).length = 0 := by
  have h1 := h.lo
  unfold shS
  rw [List.length_map]
  exact MathK.count_dvd (by omega) (fun x => f.getD x 0) _ (fun a _ => shB_iff h f a)

theorem shS_sum {m : Nat} (h : Mod m) {f : List Int} {u v : Int} (hu : u ∈ shS m f) (hv : v ∈ shS m f) : (u + v) % (m : Int) ∈ shS m f := by
  have h1 := h.lo
  obtain ⟨a, ha, hsa, rfl⟩ := shS_mem.1 hu
  obtain ⟨b, hb, hsb, rfl⟩ := shS_mem.1 hv
  refine shS_mem.2 ⟨(a + b) % m, Nat.mod_lt _ (by omega), ?_, by push_cast; rfl⟩
  rw [shB_iff h] at hsa hsb ⊢
  exact MathK.sh_mod (MathK.sh_add hsa hsb)

theorem line_all {m : Nat} (h : Mod m) (c : Int) : (shS m (valS m [c, 1])).length = m := by
  have h1 := h.lo
  unfold shS
  rw [List.length_map, List.filter_eq_self.2, List.length_range]
  intro a ha
  unfold shB
  rw [List.all_eq_true]
  intro x hx
  have hx' := List.mem_range.1 hx
  unfold moveB
  rw [decide_eq_true_iff, valS_get _ (Nat.mod_lt _ (by omega)), valS_get _ hx']
  refine Int.emod_eq_zero_of_dvd ?_
  simp only [horn]
  have d1 := emod_dvd_sub ((0 * (((x + a) % m : Nat) : Int) + 1) * (((x + a) % m : Nat) : Int) + c) (m : Int)
  have d2 := emod_dvd_sub ((0 * (x : Int) + 1) * (x : Int) + c) (m : Int)
  have d3 := emod_dvd_sub ((x : Int) + (a : Int)) (m : Int)
  have e3 : ((x : Int) + (a : Int)) % (m : Int) = (((x + a) % m : Nat) : Int) := by push_cast; rfl
  rw [e3] at d3
  have := Int.dvd_add (Int.dvd_sub d1 d2) d3
  have e : ∀ X Y Z W V U : Int, X - ((0 * Z + 1) * Z + W) - (Y - ((0 * V + 1) * V + W)) + (Z - (V + U)) = X - Y - U := by intros; grind
  rw [e] at this
  exact this

theorem shifted_l0 {m : Nat} (h : Mod m) (f : List Int) (sum t : Int) (x y : Int) (ht : galloonlaw06_mod.f sum (m : Int) = some t) :
    ∀ (d j : Nat), j + d = (shS m f).length → ∀ b : Bool, (b = true ∨ ∃ i, j ≤ i ∧ i < (shS m f).length ∧ (shS m f).getD i 0 = t) →
    Ev (fun k => galloonlaw06_ShuffleShifted.l0 k (m : Int) (shS m f) sum b (j : Int) x y) true := by
  have h1 := h.lo
  have h2 := h.hi
  have hle := shS_length_le m f
  intro d
  induction d with
  | zero =>
    intro j hj b hb
    refine Ev.step (fun k => by simp only [galloonlaw06_ShuffleShifted.l0]; exact rfl) ?_
    refine Ev.neg (by omega) ?_
    have hbt : b = true := by
      rcases hb with hb | ⟨i, hi1, hi2, _⟩
      · exact hb
      · omega
    obtain ⟨c, hc, hc0, hc1⟩ := mod_some x (m : Int) (by omega) (by omega)
    refine Ev.bind (Ev.from200 (r := c) fun k _ => hc) ?_
    have hr : Rem m [c, 1] := by
      intro v hv
      simp only [List.mem_cons, List.not_mem_nil, or_false] at hv
      rcases hv with rfl | rfl <;> omega
    refine Ev.bind (shifts_ev h hr (by simp)) ?_
    refine Ev.pos hbt (Ev.pos rfl (Ev.pos ?_ (Ev.bind awake_ev (Ev.now _))))
    rw [line_all h c]
  | succ d ih =>
    intro j hj b hb
    have e3 : wrap64 ((j : Int) + 1) = ((j + 1 : Nat) : Int) := by rw [wrap_in (by omega) (by omega)]; push_cast; rfl
    have next : ∀ b' : Bool, (b' = true ∨ ∃ i, j + 1 ≤ i ∧ i < (shS m f).length ∧ (shS m f).getD i 0 = t) → Ev (fun k => galloonlaw06_ShuffleShifted.l0 k (m : Int) (shS m f) sum b' (wrap64 ((j : Int) + 1)) x y) true := fun b' hb' => by
      rw [e3]; exact ih (j + 1) (by omega) b' hb'
    have nextB : b ≠ true → ((rd (shS m f) (j : Int) == t) = true ∨ ∃ i, j + 1 ≤ i ∧ i < (shS m f).length ∧ (shS m f).getD i 0 = t) := fun hbn => by
      rcases hb with hb | ⟨i, hi1, hi2, hi3⟩
      · exact absurd hb hbn
      · rcases Nat.lt_or_ge j i with hlt | hge
        · exact .inr ⟨i, by omega, hi2, hi3⟩
        · obtain rfl : i = j := by omega
          exact .inl (by rw [rd_nat, hi3]; simp)
    refine Ev.step (fun k => by simp only [galloonlaw06_ShuffleShifted.l0]; exact rfl) ?_
    refine Ev.pos (by omega) ?_
    by_cases hj0 : 0 < j
    · have e1 : wrap64 ((j : Int) - 1) = ((j - 1 : Nat) : Int) := by rw [wrap_in (by omega) (by omega)]; omega
      refine Ev.pos (by omega) ?_
      rw [e1]
      refine Ev.pos (by omega) (Ev.pos (by omega) (Ev.pos (by omega) ?_))
      have hs := shS_sorted m f hj0 (by omega)
      refine Ev.neg (by rw [rd_nat, rd_nat]; omega) ?_
      by_cases hbt : b = true
      · exact Ev.pos hbt (next true (.inl rfl))
      · exact Ev.neg hbt (Ev.bind (Ev.from200 (r := t) fun k _ => ht) (next _ (nextB hbt)))
    · refine Ev.neg (by omega) ?_
      by_cases hbt : b = true
      · exact Ev.pos hbt (next true (.inl rfl))
      · exact Ev.neg hbt (Ev.pos (by omega) (Ev.bind (Ev.from200 (r := t) fun k _ => ht) (next _ (nextB hbt))))

theorem ShuffleShifted (a0 : Int) (l1 : List Int) (hl : l1.length ≤ 9223372036854775807) (x y : Int) : ∃ k, galloonlaw06_ShuffleShifted.f k a0 l1 x y = some true := by
  obtain ⟨m, h, t, ht, hw⟩ := mod_of a0
  have h1 := h.lo
  have h2 := h.hi
  refine Ev.rounds ?_
  unfold galloonlaw06_ShuffleShifted.f
  refine Ev.bind (Ev.from200 (r := t) fun k _ => ht) ?_
  rw [hw]
  refine Ev.bind (tame_ev h l1 hl) ?_
  refine Ev.bind (shifts_ev h (tameS_rem h l1) (tameS_len m l1)) ?_
  generalize valS m (tameS m l1) = f
  obtain ⟨hp, h0⟩ := shS_head h f
  have hle := shS_length_le m f
  have hdv := shS_dvd h f
  dsimp only
  refine Ev.pos rfl (Ev.neg (by omega) (Ev.pos (by omega) (Ev.pos ?_ (Ev.neg (by omega) ?_))))
  · have := h0
    unfold rd
    simpa using this
  · have e : (Int.tmod (m : Int) ((shS m f).length : Int) != 0) = false := by
      rw [Int.tmod_eq_emod_of_nonneg (by omega)]
      have : (m : Int) % ((shS m f).length : Int) = ((m % (shS m f).length : Nat) : Int) := by push_cast; rfl
      rw [this, hdv]
      rfl
    show Ev (fun k => galloonlaw06_ShuffleShifted.j0 k (m : Int) (shS m f) (Int.tmod (m : Int) ((shS m f).length : Int) != 0) x y) true
    rw [e]
    refine Ev.step (fun k => by simp only [galloonlaw06_ShuffleShifted.j0]; exact rfl) ?_
    refine Ev.neg (by decide) ?_
    obtain ⟨u, hu, hu0, hu1⟩ := mod_some x ((shS m f).length : Int) (by omega) (by omega)
    obtain ⟨v, hv, hv0, hv1⟩ := mod_some y ((shS m f).length : Int) (by omega) (by omega)
    refine Ev.bind (Ev.from200 (r := u) fun k _ => hu) (Ev.pos hu0 (Ev.pos hu1 ?_))
    refine Ev.bind (Ev.from200 (r := v) fun k _ => hv) (Ev.pos hv0 (Ev.pos hv1 ?_))
    have eu : u = ((u.toNat : Nat) : Int) := by omega
    have ev : v = ((v.toNat : Nat) : Int) := by omega
    rw [eu, ev, rd_nat, rd_nat]
    have mu : (shS m f).getD u.toNat 0 ∈ shS m f := getD_mem (by omega)
    have mv : (shS m f).getD v.toNat 0 ∈ shS m f := getD_mem (by omega)
    generalize (shS m f).getD u.toNat 0 = p at mu
    generalize (shS m f).getD v.toNat 0 = q at mv
    have hpb : 0 ≤ p ∧ p < (m : Int) := by obtain ⟨a, ha, _, rfl⟩ := shS_mem.1 mu; omega
    have hqb : 0 ≤ q ∧ q < (m : Int) := by obtain ⟨a, ha, _, rfl⟩ := shS_mem.1 mv; omega
    rw [wrap_in (n := p + q) (by omega) (by omega)]
    have hm := mod_spec (p + q) (m : Int) (by omega) (by omega)
    rw [Int.emod_eq_of_lt (a := p + q) (by omega) (by omega)] at hm
    refine shifted_l0 h f (p + q) _ x y hm (shS m f).length 0 (by omega) false (.inr ?_)
    obtain ⟨i, hi, e⟩ := List.getElem_of_mem (shS_sum h mu mv)
    exact ⟨i, by omega, hi, by simpa [List.getD_eq_getElem?_getD, hi] using e⟩

end Go.Proofs.Ytkjjnfbgcdanmaa.Pure
