import Derived.Test.YtoecbchfdgbliaaMathF
import Derived.Test.YtoecbchfdgbliaaPx5
namespace Go.Proofs.Ytoecbchfdgbliaa.Pure
open Go.RowKit Go.Proofs.Ytoecbchfdgbliaa.P Go.Proofs.YtoecbchfdgbliaaW.PrintWords Go.Proofs.YtoecbchfdgbliaaW.PrintLast Go.Proofs.YtoecbchfdgbliaaW.PrintMore Go.Proofs.Ytoecbchfdgbliaa.Math
open Go.Proofs.Ytoecbchfdgbliaa.Hand hiding wrap_in

theorem take_sum {l S : List Int} (h : Small l) (hS : ∀ i ∈ S, 0 ≤ i ∧ i < (l.length : Int)) {j : Nat} (hj : j < S.length) (hlen : S.length ≤ 12) :
    (0 ≤ rd S (j : Int) ∧ rd S (j : Int) < (l.length : Int)) ∧ wrap64 (sumL l (S.take j) + rd l (rd S (j : Int))) = sumL l (S.take (j + 1)) := by
  have hr := hS _ (Math.rd_mem hj)
  refine ⟨hr, ?_⟩
  have h1 := sumL_in h (S.take j) (fun i hi => hS i (List.mem_of_mem_take hi))
  have h2 := small_rd h _ hr.1 hr.2
  rw [List.length_take] at h1
  have e : sumL l (S.take (j + 1)) = sumL l (S.take j) + rd l (rd S (j : Int)) := by
    rw [List.take_add_one, List.getElem?_eq_getElem hj, rd_get hj]
    simp only [sumL, Option.toList_some, List.map_append, List.map_cons, List.map_nil, List.sum_append, List.sum_cons, List.sum_nil, Int.add_zero]
  rw [e, wrap_in (by omega) (by omega)]
theorem l0_at {l S : List Int} (h : Small l) (hS : ∀ i ∈ S, 0 ≤ i ∧ i < (l.length : Int)) (hlen : S.length ≤ 12) (x0 x2 x9 x12 x15 x16 : Int) (x11 : List Int) : ∀ (m j : Nat), j + m = S.length → ∀ k,
    galloonlaw09_RemnantDivided.l0 (k + m + 1) x0 x2 l S x9 x11 x12 (sumL l (S.take j)) x15 x16 (j : Int) = galloonlaw09_RemnantDivided.l1 k x0 x2 l S x9 x11 x12 (sumL l S) x15 x16 0 := by
  intro m
  induction m with
  | zero =>
    intro j hj k
    rw [Nat.add_zero, galloonlaw09_RemnantDivided.l0, if_neg (by omega), List.take_of_length_le (by omega)]
  | succ m ih =>
    intro j hj k
    obtain ⟨hr, hw⟩ := take_sum h hS (j := j) (by omega) hlen
    rw [show k + (m + 1) + 1 = (k + m + 1) + 1 by omega, galloonlaw09_RemnantDivided.l0, if_pos (by omega), if_pos (by omega), if_pos hr.1, if_pos hr.2, hw, next (by omega), ih (j + 1) (by omega) k]
theorem l1_at {l R : List Int} (h : Small l) (hR : ∀ i ∈ R, 0 ≤ i ∧ i < (l.length : Int)) (hlen : R.length ≤ 12) (x0 x2 x9 x12 x14 x16 : Int) (x8 : List Int) : ∀ (m j : Nat), j + m = R.length → ∀ k,
    galloonlaw09_RemnantDivided.l1 (k + m + 1) x0 x2 l x8 x9 R x12 x14 (sumL l (R.take j)) x16 (j : Int) = galloonlaw09_RemnantDivided.l2 k x0 x2 l x8 x9 x12 x14 (sumL l R) x16 0 := by
  intro m
  induction m with
  | zero =>
    intro j hj k
    rw [Nat.add_zero, galloonlaw09_RemnantDivided.l1, if_neg (by omega), List.take_of_length_le (by omega)]
  | succ m ih =>
    intro j hj k
    obtain ⟨hr, hw⟩ := take_sum h hR (j := j) (by omega) hlen
    rw [show k + (m + 1) + 1 = (k + m + 1) + 1 by omega, galloonlaw09_RemnantDivided.l1, if_pos (by omega), if_pos (by omega), if_pos hr.1, if_pos hr.2, hw, next (by omega), ih (j + 1) (by omega) k]
theorem l2_at {l : List Int} (h : Small l) (x0 x2 x9 x12 x14 x15 : Int) (x8 : List Int) (M : Nat) (hM : galloonlaw09_mod.f x2 4096 = some (M : Int)) : ∀ (m j : Nat) (s : Int), j + m = l.length → 0 ≤ s → s ≤ 100 * j → ∀ k,
    galloonlaw09_RemnantDivided.l2 (k + m) x0 x2 l x8 x9 x12 x14 x15 s (j : Int) = galloonlaw09_RemnantDivided.l2 k x0 x2 l x8 x9 x12 x14 x15 (s + sumL l (bitsL m j (M / 2 ^ j))) (l.length : Int) := by
  have h12 := h.1
  intro m
  induction m with
  | zero =>
    intro j s hj _ _ k
    rw [bitsL, sumL, List.map_nil, List.sum_nil, Int.add_zero, Nat.add_zero, show (j : Int) = (l.length : Int) by omega]
  | succ m ih =>
    intro j s hj h0 h1 k
    have hr := small_rd h (j : Int) (by omega) (by omega)
    rw [show k + (m + 1) = (k + m) + 1 by omega, galloonlaw09_RemnantDivided.l2, if_pos (by omega), hM]
    simp only [Option.bind_some]
    rw [if_pos (by omega), shr_nat M j (by omega), tmod_nat, next (by omega)]
    have ih1 := ih (j + 1)
    rw [← div_pow] at ih1
    generalize M / 2 ^ j = q at ih1 ⊢
    by_cases hb : q % 2 = 1
    · rw [if_pos (by omega), wrap_in (by omega) (by omega), ih1 _ (by omega) (by omega) (by push_cast; omega) k, bitsL, if_pos hb, sumL_cons]
      congr 1; omega
    · rw [if_neg (by omega), ih1 _ (by omega) (by omega) (by push_cast; omega) k, bitsL, if_neg hb]
theorem even_diff {l : List Int} (h : Small l) {x : List Int} (hx : x ∈ setsF l.length) : Int.tmod (wrap64 (dS l x - sumL l (places l.length))) 2 = 0 := by
  have h1 := dS_eq h hx
  have h2 := places_sum h
  have h3 := dS_nonneg h hx
  have h4 : dS l x ≤ 4000 := by rw [h1.2]; split <;> omega
  rw [wrap_in (by omega) (by omega)]
  apply Int.tmod_eq_zero_of_dvd
  rw [h1.2]
  split <;> omega

theorem RemnantDivided : galloonlaw09_RemnantDivided.Pure := by
  intro a0 l1 a2 _ _ _ _ _
  obtain ⟨room, l, hok, ht⟩ := tame_ok a0 l1
  have hs := small_of hok
  have h12 := hs.1
  have hp := (pie_iff room l).mpr hok
  have hok100 : Ok 100 l := ⟨by decide, by decide, h12, hs.2⟩
  have hp100 := (pie_iff 100 l).mpr hok100
  obtain ⟨x, hx, hbx⟩ := split_go hs
  obtain ⟨y, hy, hby⟩ := rest_go hok
  obtain ⟨hix, hlx, _⟩ := in_sets hbx.1.1
  obtain ⟨hiy, hly, _⟩ := in_sets hby.1.1
  obtain ⟨M, hM, hMe⟩ := mod_some a2 4096 (by decide) (by decide)
  have hnx : l.length = 0 ∨ x ≠ [] := by
    by_cases h0 : l.length = 0
    · exact .inl h0
    · exact .inr fun e => hbx.1.2 ⟨by omega, .inl e⟩
  have hny : l.length = 0 ∨ y ≠ [] := by
    by_cases h0 : l.length = 0
    · exact .inl h0
    · refine .inr fun e => ?_
      have hm1 : bitsL l.length 0 1 ∈ setsF l.length := bits_any _ _
      have h1x : bitsL l.length 0 1 = [0] := by
        obtain ⟨n, hn⟩ : ∃ n, l.length = n + 1 := ⟨l.length - 1, by omega⟩
        rw [hn, bitsL, if_pos (by decide), bitsL_zero]; rfl
      have hr := small_rd hs 0 (by decide) (by omega)
      have hrr := hok.2.2.2 _ (Math.rd_mem (l := l) (j := 0) (by omega))
      have hsum : sumL l (bitsL l.length 0 1) = rd l 0 := by rw [h1x]; simp [sumL]
      have := hby.2 _ ⟨hm1, by rw [hsum]; exact hrr.2⟩
      have hye : sumL l y = 0 := by rw [e]; rfl
      unfold dR at this
      rw [hsum, hye] at this
      rcases this with k | ⟨k, _⟩ <;> omega
  have hsum := sum_ok hs
  have hev := even_diff hs hbx.1.1
  have hsy := sum_sets hs hby.1.1
  have hyr := hby.1.2
  have hbm : bitsL l.length 0 M ∈ setsF l.length := bits_any _ _
  have hle := least_all hs hbx M
  have hsome : sumL l (bitsL l.length 0 M) > room ∨ sumL l (bitsL l.length 0 M) ≤ sumL l y := by
    by_cases c : sumL l (bitsL l.length 0 M) > room
    · exact .inl c
    · have := hby.2 _ ⟨hbm, by omega⟩
      unfold dR at this
      exact .inr (by rcases this with k | ⟨k, _⟩ <;> omega)
  have e0 : galloonlaw09_RemnantDivided.l0 (200 + x.length + 1) room a2 l x (dS l x) y (dR room l y) 0 0 0 0 = galloonlaw09_RemnantDivided.l1 200 room a2 l x (dS l x) y (dR room l y) (sumL l x) 0 0 0 := l0_at hs hix (by omega) room a2 (dS l x) (dR room l y) 0 0 y x.length 0 (by omega) 200
  have e1 : galloonlaw09_RemnantDivided.l1 ((199 - y.length) + y.length + 1) room a2 l x (dS l x) y (dR room l y) (sumL l x) 0 0 0 = galloonlaw09_RemnantDivided.l2 (199 - y.length) room a2 l x (dS l x) (dR room l y) (sumL l x) (sumL l y) 0 0 := l1_at hs hiy (by omega) room a2 (dS l x) (dR room l y) (sumL l x) 0 x y.length 0 (by omega) (199 - y.length)
  have e2 := l2_at hs room a2 (dS l x) (dR room l y) (sumL l x) (sumL l y) x M hMe l.length 0 0 (by omega) (Int.le_refl _) (by omega) (199 - y.length - l.length)
  rw [show 199 - y.length + y.length + 1 = 200 by omega] at e1
  rw [show 199 - y.length - l.length + l.length = 199 - y.length by omega, Nat.pow_zero, Nat.div_one, Int.zero_add, Int.natCast_zero] at e2
  obtain ⟨k, hk⟩ : ∃ k, 199 - y.length - l.length = k + 1 := ⟨198 - y.length - l.length, by omega⟩
  have hk100 : 100 ≤ k := by omega
  refine ⟨200 + x.length + 1 + 1, ?_⟩
  unfold galloonlaw09_RemnantDivided.f remnant_Split.f remnant_Rest.f
  rw [ht _ (by omega)]
  simp only [Option.bind_some]
  rw [splitF, restF, if_pos hp, if_pos hp100, hx, hy]
  simp only [if_true]
  rw [places_ok l x h12 hbx.1.1 hnx _ (by omega), places_ok l y h12 hby.1.1 hny _ (by omega)]
  simp only [Option.bind_some, if_true, Bool.not_true]
  rw [galloonlaw09_RemnantDivided.j0, if_neg (by decide), e0, e1, e2, hk, galloonlaw09_RemnantDivided.l2, if_neg (by omega), hsum k (by omega)]
  have ha := awake_ev k (by omega)
  simp only [Option.bind_some]
  rw [if_pos (show mx (wrap64 ((wrap64 (2 * sumL l x)) - sumL l (places l.length))) (wrap64 (-(wrap64 ((wrap64 (2 * sumL l x)) - sumL l (places l.length))))) = dS l x from rfl), if_pos (show mx (wrap64 ((wrap64 (2 * sumL l (bitsL l.length 0 M))) - sumL l (places l.length))) (wrap64 (-(wrap64 ((wrap64 (2 * sumL l (bitsL l.length 0 M))) - sumL l (places l.length))))) ≥ dS l x from hle), if_pos hev]
  have hr1 := hok.1
  have hr2 := hok.2.1
  have hdr : wrap64 (room - sumL l y) = dR room l y := wrap_in (by omega) (by omega)
  have hd0 : dR room l y ≥ 0 := by unfold dR; omega
  have hend : (if sumL l (bitsL l.length 0 M) > room then (galloonlaw09_awake.f k).bind fun t324 => some t324 else if sumL l (bitsL l.length 0 M) ≤ sumL l y then (galloonlaw09_awake.f k).bind fun t325 => some t325 else none) = some true := by
    rw [ha]
    rcases hsome with c | c
    · rw [if_pos c]; rfl
    · by_cases c' : sumL l (bitsL l.length 0 M) > room
      · rw [if_pos c']; rfl
      · rw [if_neg c', if_pos c]; rfl
  by_cases h0 : (l.length : Int) = 0
  · rw [if_pos h0, if_pos hdr, if_pos hd0, hend]
  · have hx0 : x ≠ [] := hnx.resolve_left (by omega)
    have hxl := List.length_pos_iff.2 hx0
    have hxz : rd x 0 = 0 := by
      by_cases c : rd x 0 = 0
      · exact c
      · exact absurd ⟨by omega, .inr c⟩ hbx.1.2
    rw [if_neg h0, if_pos (by omega), if_pos hxz, if_pos hdr, if_pos hd0, hend]

end Go.Proofs.Ytoecbchfdgbliaa.Pure
