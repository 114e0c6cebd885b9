-- Plain lemmas over the names of the B print: tame rooms and pieces, Weigh, sums, awake; what Fill fills.
import Derived.Test.YtoecbchfdgbliaaMathT
import Derived.Test.YtoecbchfdgbliaaMathU
namespace Go.Proofs.Ytoecbchfdgbliaa.Math
open Go.RowKit Go.Proofs.Ytoecbchfdgbliaa.B Go.Proofs.YtoecbchfdgbliaaW.PrintWords Go.Proofs.YtoecbchfdgbliaaW.PrintLast Go.Proofs.YtoecbchfdgbliaaW.PrintMore
open Go.Proofs.Ytoecbchfdgbliaa.Hand hiding wrap_in look within_iff
set_option linter.unusedVariables false

theorem within_eq (x lo hi : Int) : remnant_within.f x lo hi = some (Hand.within x lo hi) := by
  unfold remnant_within.f Hand.within
  split <;> rfl
theorem within_is (x lo hi : Int) : Hand.within x lo hi = true ↔ lo ≤ x ∧ x ≤ hi := by
  unfold Hand.within
  split
  · simp only [decide_eq_true_eq]; omega
  · constructor
    · intro h; cases h
    · intro h; omega

/-- What pieces are. -/
def Ok (room : Int) (l : List Int) : Prop := 1 ≤ room ∧ room ≤ 100 ∧ l.length ≤ 12 ∧ ∀ x ∈ l, 1 ≤ x ∧ x ≤ room
theorem pie_iff (room : Int) (l : List Int) : Hand.pieF room l = true ↔ Ok room l := by
  unfold Hand.pieF Ok
  simp only [Bool.and_eq_true, within_is, decide_eq_true_eq, List.all_eq_true]
  constructor
  · rintro ⟨⟨h1, h2⟩, h3, h4⟩; exact ⟨h1, h2, by omega, h4⟩
  · rintro ⟨h1, h2, h3, h4⟩; exact ⟨⟨h1, h2⟩, by omega, h4⟩

theorem u64_in {n : Int} (h0 : 0 ≤ n) (h1 : n < 18446744073709551616) : IntKind.u64.wrap n = n := IntWalk.u64_in n ⟨h0, by omega⟩
theorem u64_nonneg (n : Int) : 0 ≤ IntKind.u64.wrap n := by
  have h : IntKind.u64.wrap n = n % 18446744073709551616 := by
    simp [IntKind.wrap, IntKind.bits, IntKind.signed]
  rw [h]; omega
theorem mod_some (x n : Int) (h0 : 1 ≤ n) (h1 : n ≤ 4096) : ∃ r : Nat, (r : Int) < n ∧ galloonlaw09_mod.f x n = some (r : Int) := by
  have hx := u64_nonneg x
  have hr0 := Int.emod_nonneg (IntKind.u64.wrap x) (show n ≠ 0 by omega)
  have hr1 := Int.emod_lt_of_pos (IntKind.u64.wrap x) (show 0 < n by omega)
  obtain ⟨r, hr⟩ := Int.eq_ofNat_of_zero_le hr0
  refine ⟨r, by omega, ?_⟩
  unfold galloonlaw09_mod.f
  rw [u64_in (n := n) (by omega) (by omega), if_neg (by omega), Int.tmod_eq_emod_of_nonneg hx, hr, wrap_in (by omega) (by omega)]

theorem tame_at (room : Int) (l1 : List Int) (h1 : 1 ≤ room) (h100 : room ≤ 100) : ∀ (m j : Nat) (acc : List Int), j + m = 12 → acc.length = j → (∀ x ∈ acc, 1 ≤ x ∧ x ≤ room) →
    ∃ out : List Int, out.length ≤ 12 ∧ (∀ x ∈ out, 1 ≤ x ∧ x ≤ room) ∧ ∀ k, m < k → galloonlaw09_tame.l0 k room l1 12 acc (j : Int) = some (room, out) := by
  intro m
  induction m with
  | zero =>
    intro j acc hj hl ha
    refine ⟨acc, by omega, ha, fun k hk => ?_⟩
    obtain ⟨k, rfl⟩ : ∃ k', k = k' + 1 := ⟨k - 1, by omega⟩
    rw [galloonlaw09_tame.l0]
    split
    · rw [if_neg (by omega)]
    · rfl
  | succ m ih =>
    intro j acc hj hl ha
    by_cases hc : (j : Int) < (l1.length : Int)
    · obtain ⟨r, hr, he⟩ := mod_some (rd l1 (j : Int)) room h1 (by omega)
      have hw : wrap64 (1 + (r : Int)) = 1 + (r : Int) := wrap_in (by omega) (by omega)
      obtain ⟨out, h2, h3, h4⟩ := ih (j + 1) (acc ++ [1 + (r : Int)]) (by omega) (by simp; omega) (fun x hx => by
        rcases List.mem_append.1 hx with hx | hx
        · exact ha x hx
        · rw [List.mem_singleton.1 hx]; omega)
      refine ⟨out, h2, h3, fun k hk => ?_⟩
      obtain ⟨k, rfl⟩ : ∃ k', k = k' + 1 := ⟨k - 1, by omega⟩
      rw [galloonlaw09_tame.l0, if_pos hc, if_pos (by omega), if_pos (by omega), he]
      simp only [Option.bind_some]
      rw [if_pos (by omega), hw, next (by omega), h4 k (by omega)]
    · refine ⟨acc, by omega, ha, fun k hk => ?_⟩
      obtain ⟨k, rfl⟩ : ∃ k', k = k' + 1 := ⟨k - 1, by omega⟩
      rw [galloonlaw09_tame.l0, if_neg hc]
/-- Whatever int and list: tame makes a room and pieces. -/
theorem tame_ok (a0 : Int) (l1 : List Int) : ∃ room l, Ok room l ∧ ∀ k, 20 < k → galloonlaw09_tame.f k a0 l1 12 = some (room, l) := by
  obtain ⟨r, hr, he⟩ := mod_some a0 100 (by decide) (by decide)
  have hw : wrap64 (1 + (r : Int)) = 1 + (r : Int) := wrap_in (by omega) (by omega)
  obtain ⟨out, h2, h3, h4⟩ := tame_at (1 + (r : Int)) l1 (by omega) (by omega) 12 0 [] rfl rfl (by simp)
  refine ⟨1 + (r : Int), out, ⟨by omega, by omega, h2, h3⟩, fun k hk => ?_⟩
  unfold galloonlaw09_tame.f
  rw [he]
  simp only [Option.bind_some]
  rw [hw]
  exact h4 k (by omega)


theorem weighE {room a : Int} {l : List Int} (hok : Hand.pieF room l = true) (h1 : 1 ≤ room) (h2 : room ≤ 100) (ha : 0 ≤ a) (ha2 : 2 * a ≤ room) (h12 : l.length ≤ 12) (hp : ∀ i, i < l.length → 1 ≤ pz l i ∧ pz l i ≤ room) (k : Nat) (hk : 13 ≤ k) : remnant_Weigh.f k room l a = some (wgt room a (pz l) l.length, 0) := by
  unfold remnant_Weigh.f remnant_arePieces.f remnant_within.f
  rw [hok, Option.bind_some, if_pos rfl, half room h1 h2, if_pos ha, Option.bind_some, if_pos (decide_eq_true (by omega)), weigh_val h1 h2 ha ha2 l h12 hp k hk, Option.bind_some]
theorem sum_go {l : List Int} (h12 : l.length ≤ 12) (hp : ∀ i, i < l.length → 0 ≤ pz l i ∧ pz l i ≤ 100) : ∀ (m j : Nat), j + m = l.length → ∀ k, m < k → galloonlaw09_sum.l0 k l (tot (pz l) j) (j : Int) = some (tot (pz l) l.length) := by
  intro m
  induction m with
  | zero =>
    intro j hj k hk
    obtain ⟨k, rfl⟩ : ∃ k', k = k' + 1 := ⟨k - 1, by omega⟩
    rw [galloonlaw09_sum.l0, if_neg (by omega), show j = l.length by omega]
  | succ m ih =>
    intro j hj k hk
    obtain ⟨k, rfl⟩ : ∃ k', k = k' + 1 := ⟨k - 1, by omega⟩
    have hb := tot_bound (pz l) 100 j fun i hi => hp i (by omega)
    have hq := hp j (by omega)
    have e := tot_succ (pz l) j
    have ih1 := ih (j + 1) (by omega) k (by omega)
    rw [e] at ih1
    rw [galloonlaw09_sum.l0, if_pos (by omega), if_pos (by omega), next (by omega), wrap_in (by dsimp only [pz] at *; omega) (by dsimp only [pz] at *; omega)]
    exact ih1
theorem sum_val {l : List Int} (h12 : l.length ≤ 12) (hp : ∀ i, i < l.length → 0 ≤ pz l i ∧ pz l i ≤ 100) (k : Nat) (hk : 13 ≤ k) : galloonlaw09_sum.f k l = some (tot (pz l) l.length) :=
  sum_go h12 hp l.length 0 (by omega) k (by omega)
/-- Boxes that are full are not more than all pieces fill. -/
theorem fill_sum {room cnt : Int} {l o : List Int} (h1 : 1 ≤ room) (hp : ∀ i, i < l.length → 0 ≤ pz l i) (ho : o.length = l.length) (h0 : 0 ≤ cnt) (hob : ∀ b ∈ o, b = -1 ∨ (0 ≤ b ∧ b < cnt)) (hfull : ∀ b : Int, 0 ≤ b → b < cnt → room ≤ inBox l o b (List.range l.length)) : cnt * room ≤ tot (pz l) l.length := by
  obtain ⟨c, rfl⟩ := Int.eq_ofNat_of_zero_le h0
  have hg := bs_total (pz l) (fun i => if rd o (i : Int) = -1 then c else (rd o (i : Int)).toNat) (c + 1) l.length fun i hi => by
    have := hob _ (rd_mem (l := o) (j := i) (by omega))
    try dsimp only
    split <;> omega
  have hbox : ∀ b : Nat, b < c → bs (pz l) (fun i => if rd o (i : Int) = -1 then c else (rd o (i : Int)).toNat) b l.length = inBox l o (b : Int) (List.range l.length) := fun b hb => by
    unfold bs inBox
    congr 1
    refine List.map_congr_left fun i hi => ?_
    have hi := List.mem_range.1 hi
    have := hob _ (rd_mem (l := o) (j := i) (by omega))
    try dsimp only
    by_cases e : rd o (i : Int) = (b : Int)
    · rw [if_pos e, if_pos (by rw [if_neg (by omega)]; omega)]
    · rw [if_neg e, if_neg (by split <;> omega)]
  have hlast : 0 ≤ bs (pz l) (fun i => if rd o (i : Int) = -1 then c else (rd o (i : Int)).toNat) c l.length := sum_nonneg _ _ fun i hi => by
    have := hp i (List.mem_range.1 hi)
    try dsimp only
    split <;> omega
  rw [List.range_succ, List.map_append, List.sum_append] at hg
  have hlow : ∀ (r : List Nat) (f : Nat → Int), (∀ b ∈ r, room ≤ f b) → room * r.length ≤ (r.map f).sum := by
    intro r f
    induction r with
    | nil => intro _; simp
    | cons b r ih =>
      intro h
      have h1 := ih fun b hb => h b (List.mem_cons_of_mem _ hb)
      have h2 := h b List.mem_cons_self
      rw [List.map_cons, List.sum_cons, List.length_cons]
      have : room * ((r.length + 1 : Nat) : Int) = room * r.length + room := by rw [Int.natCast_add, Int.mul_add]; simp
      omega
  have h3 := hlow (List.range c) (fun b => bs (pz l) (fun i => if rd o (i : Int) = -1 then c else (rd o (i : Int)).toNat) b l.length) fun b hb => by
    have hb := List.mem_range.1 hb
    try dsimp only
    rw [hbox b hb]
    exact hfull b (by omega) (by omega)
  rw [List.length_range] at h3
  simp only [List.map_cons, List.map_nil, List.sum_cons, List.sum_nil, Int.add_zero] at hg
  rw [Int.mul_comm]
  omega
theorem awake_ev : ∀ k, 60 ≤ k → galloonlaw09_awake.f k = some true := by
  intro k hk
  exact up (fun k => galloonlaw09_awake.mono k) (k := 60) (by decide +kernel) hk

end Go.Proofs.Ytoecbchfdgbliaa.Math
