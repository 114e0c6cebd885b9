-- Plain lemmas over the names of the B print: tame rooms and pieces, awake; the number of boxes of a packing.
import Derived.Test.YtoecbchfdgbliaaMathS
import Derived.Test.YtoecbchfdgbliaaMathFB
import Derived.Test.YtoecbchfdgbliaaBx4
namespace Go.Proofs.Ytoecbchfdgbliaa.Math
open Go.RowKit Go.Proofs.Ytoecbchfdgbliaa.B Go.Proofs.YtoecbchfdgbliaaW.PrintWords Go.Proofs.YtoecbchfdgbliaaW.PrintLast Go.Proofs.YtoecbchfdgbliaaW.PrintMore
open Go.Proofs.Ytoecbchfdgbliaa.Hand hiding wrap_in look within_iff
set_option linter.unusedVariables false

theorem within_is (x lo hi : Int) : Hand.within x lo hi = true ↔ lo ≤ x ∧ x ≤ hi := by
  unfold Hand.within
  split
  · simp only [decide_eq_true_eq]; omega
  · constructor
    · intro h; cases h
    · intro h; omega

/-- What pieces are. -/
def Ok (room : Int) (l : List Int) : Prop := 1 ≤ room ∧ room ≤ 100 ∧ l.length ≤ 12 ∧ ∀ x ∈ l, 1 ≤ x ∧ x ≤ room
theorem pie_iff (room : Int) (l : List Int) : Hand.pieF room l = true ↔ Ok room l := by
  unfold Hand.pieF Ok
  simp only [Bool.and_eq_true, within_is, decide_eq_true_eq, List.all_eq_true]
  constructor
  · rintro ⟨⟨h1, h2⟩, h3, h4⟩; exact ⟨h1, h2, by omega, h4⟩
  · rintro ⟨h1, h2, h3, h4⟩; exact ⟨⟨h1, h2⟩, by omega, h4⟩


theorem u64_in {n : Int} (h0 : 0 ≤ n) (h1 : n < 18446744073709551616) : IntKind.u64.wrap n = n := IntWalk.u64_in n ⟨h0, by omega⟩
theorem u64_nonneg (n : Int) : 0 ≤ IntKind.u64.wrap n := by
  have h : IntKind.u64.wrap n = n % 18446744073709551616 := by
    simp [IntKind.wrap, IntKind.bits, IntKind.signed]
  rw [h]; omega
theorem mod_some (x n : Int) (h0 : 1 ≤ n) (h1 : n ≤ 4096) : ∃ r : Nat, (r : Int) < n ∧ galloonlaw09_mod.f x n = some (r : Int) := by
  have hx := u64_nonneg x
  have hr0 := Int.emod_nonneg (IntKind.u64.wrap x) (show n ≠ 0 by omega)
  have hr1 := Int.emod_lt_of_pos (IntKind.u64.wrap x) (show 0 < n by omega)
  obtain ⟨r, hr⟩ := Int.eq_ofNat_of_zero_le hr0
  refine ⟨r, by omega, ?_⟩
  unfold galloonlaw09_mod.f
  rw [u64_in (n := n) (by omega) (by omega), if_neg (by omega), Int.tmod_eq_emod_of_nonneg hx, hr, wrap_in (by omega) (by omega)]

theorem tame_at {M : Nat} (hM : M ≤ 12) (room : Int) (l1 : List Int) (h1 : 1 ≤ room) (h100 : room ≤ 100) : ∀ (m j : Nat) (acc : List Int), j + m = M → acc.length = j → (∀ x ∈ acc, 1 ≤ x ∧ x ≤ room) →
    ∃ out : List Int, out.length ≤ M ∧ (∀ x ∈ out, 1 ≤ x ∧ x ≤ room) ∧ ∀ k, m < k → galloonlaw09_tame.l0 k room l1 (M : Int) acc (j : Int) = some (room, out) := by
  intro m
  induction m with
  | zero =>
    intro j acc hj hl ha
    refine ⟨acc, by omega, ha, fun k hk => ?_⟩
    obtain ⟨k, rfl⟩ : ∃ k', k = k' + 1 := ⟨k - 1, by omega⟩
    rw [galloonlaw09_tame.l0]
    split
    · rw [if_neg (by omega)]
    · rfl
  | succ m ih =>
    intro j acc hj hl ha
    by_cases hc : (j : Int) < (l1.length : Int)
    · obtain ⟨r, hr, he⟩ := mod_some (rd l1 (j : Int)) room h1 (by omega)
      have hw : wrap64 (1 + (r : Int)) = 1 + (r : Int) := wrap_in (by omega) (by omega)
      obtain ⟨out, h2, h3, h4⟩ := ih (j + 1) (acc ++ [1 + (r : Int)]) (by omega) (by simp; omega) (fun x hx => by
        rcases List.mem_append.1 hx with hx | hx
        · exact ha x hx
        · rw [List.mem_singleton.1 hx]; omega)
      refine ⟨out, h2, h3, fun k hk => ?_⟩
      obtain ⟨k, rfl⟩ : ∃ k', k = k' + 1 := ⟨k - 1, by omega⟩
      rw [galloonlaw09_tame.l0, if_pos hc, if_pos (by omega), if_pos (by omega), he]
      simp only [Option.bind_some]
      rw [if_pos (by omega), hw, next (by omega), h4 k (by omega)]
    · refine ⟨acc, by omega, ha, fun k hk => ?_⟩
      obtain ⟨k, rfl⟩ : ∃ k', k = k' + 1 := ⟨k - 1, by omega⟩
      rw [galloonlaw09_tame.l0, if_neg hc]
/-- Whatever int and list: tame makes a room and pieces. -/
theorem tame_ok {M : Nat} (hM : M ≤ 12) (a0 : Int) (l1 : List Int) : ∃ room l, Ok room l ∧ l.length ≤ M ∧ ∀ k, 20 < k → galloonlaw09_tame.f k a0 l1 (M : Int) = some (room, l) := by
  obtain ⟨r, hr, he⟩ := mod_some a0 100 (by decide) (by decide)
  have hw : wrap64 (1 + (r : Int)) = 1 + (r : Int) := wrap_in (by omega) (by omega)
  obtain ⟨out, h2, h3, h4⟩ := tame_at hM (1 + (r : Int)) l1 (by omega) (by omega) M 0 [] (by omega) rfl (by simp)
  refine ⟨1 + (r : Int), out, ⟨by omega, by omega, by omega, h3⟩, h2, fun k hk => ?_⟩
  unfold galloonlaw09_tame.f
  rw [he]
  simp only [Option.bind_some]
  rw [hw]
  exact h4 k (by omega)
theorem awake_ev : ∀ k, 60 ≤ k → galloonlaw09_awake.f k = some true := by
  intro k hk
  exact up (fun k => galloonlaw09_awake.mono k) (k := 60) (by decide +kernel) hk

theorem num_at (least : Int) (hle : -1 ≤ least) (l : List Int) (hl : l.length ≤ 1000) : ∀ (m j : Nat) (n : Int), j + m = l.length → 0 ≤ n → n ≤ j → ∀ k, 2 * m < k → galloonref09_numbered.l0 k l least n (j : Int) = some (boxF least n (l.drop j)) := by
  intro m
  induction m with
  | zero =>
    intro j n h h0 h1 k hk
    obtain ⟨k, rfl⟩ : ∃ k', k = k' + 1 := ⟨k - 1, by omega⟩
    rw [galloonref09_numbered.l0, if_neg (by omega), List.drop_of_length_le (by omega)]
    rfl
  | succ m ih =>
    intro j n h h0 h1 k hk
    obtain ⟨k, rfl⟩ : ∃ k', k = k' + 1 + 1 := ⟨k - 2, by omega⟩
    have hj : j < l.length := by omega
    have hd : l.drop j = rd l (j : Int) :: l.drop (j + 1) := rd_dropR l j hj
    rw [galloonref09_numbered.l0, if_pos (by omega), if_pos (by omega), hd, boxF]
    by_cases hlt : rd l (j : Int) < least
    · rw [if_pos hlt, galloonref09_numbered.j1, if_pos rfl, if_neg (by omega)]
    · rw [if_neg hlt, galloonref09_numbered.j1]
      by_cases hgt : rd l (j : Int) > n
      · rw [decide_eq_true hgt, if_pos rfl, if_neg (by omega)]
      · rw [decide_eq_false hgt, if_neg (by decide), if_pos (by omega), if_pos (by omega), if_pos (show least ≤ rd l (j : Int) ∧ rd l (j : Int) ≤ n by omega), next (by omega)]
        by_cases he : rd l (j : Int) = n
        · have hm : mx n (rd l (j : Int) + 1) = n + 1 := by unfold mx; split <;> omega
          rw [if_pos he, hm, wrap_in (n := n + 1) (by omega) (by omega), ih (j + 1) (n + 1) (by omega) (by omega) (by push_cast; omega) k (by omega)]
        · have hm : mx n (rd l (j : Int) + 1) = n := by unfold mx; split <;> omega
          rw [if_neg he, hm, ih (j + 1) n (by omega) h0 (by push_cast; omega) k (by omega)]
theorem num_eq (least : Int) (hle : -1 ≤ least) (l : List Int) (hl : l.length ≤ 1000) (k : Nat) (hk : 2 * l.length < k) : galloonref09_numbered.f k l least = some (boxF least 0 l) :=
  num_at least hle l hl l.length 0 0 (by omega) (Int.le_refl _) (Int.le_refl _) k hk
/-! ### Loads -/
theorem refL_at (ps l : List Int) (hl : l.length ≤ 1000) (hlen : l.length = ps.length) : ∀ (m j : Nat) (x : List Int), j + m = l.length → (∀ b ∈ l, b < (x.length : Int)) → ∀ k, m < k → galloonref09_Loads.l0 k ps l x (j : Int) = some (((List.range l.length).drop j).foldl (loadStep ps l) x) := by
  intro m
  induction m with
  | zero =>
    intro j x h hb k hk
    obtain ⟨k, rfl⟩ : ∃ k', k = k' + 1 := ⟨k - 1, by omega⟩
    rw [galloonref09_Loads.l0, if_neg (by omega), List.drop_of_length_le (by simp; omega)]
    rfl
  | succ m ih =>
    intro j x h hb k hk
    obtain ⟨k, rfl⟩ : ∃ k', k = k' + 1 := ⟨k - 1, by omega⟩
    have hj : j < l.length := by omega
    have hbj := hb _ (rd_memR hj)
    rw [galloonref09_Loads.l0, if_pos (by omega), if_pos (by omega), range_drop _ _ hj, List.foldl_cons]
    by_cases hneg : rd l (j : Int) ≥ 0
    · have e : loadStep ps l x j = x.set (rd l (j : Int)).toNat (wrap64 (rd x (rd l (j : Int)) + rd ps (j : Int))) := if_pos hneg
      rw [if_pos hneg, if_pos hneg, if_pos hbj, if_pos (by omega), next (by omega), ← e]
      exact ih (j + 1) _ (by omega) (fun b hb' => by rw [loadStep_length]; exact hb b hb') k (by omega)
    · have e : loadStep ps l x j = x := if_neg hneg
      rw [if_neg hneg, next (by omega), e]
      exact ih (j + 1) _ (by omega) hb k (by omega)
theorem step_take (ps l : List Int) (n : Nat) (x : List Int) (i : Nat) (hb : rd l (i : Int) < (n : Int)) : (loadStep ps l x i).take n = loadStep ps l (x.take n) i ∧ (loadStep ps l x i).drop n = x.drop n := by
  unfold loadStep
  by_cases h0 : 0 ≤ rd l (i : Int)
  · rw [if_pos h0, if_pos h0]
    have hlt : (rd l (i : Int)).toNat < n := by omega
    refine ⟨?_, List.drop_set_of_lt hlt⟩
    rw [List.take_set]
    congr 2
    rw [List.getD_eq_getElem?_getD, List.getD_eq_getElem?_getD, List.getElem?_take_of_lt hlt]
  · rw [if_neg h0, if_neg h0]
    exact ⟨rfl, rfl⟩
theorem fold_take (ps l : List Int) (n : Nat) : ∀ (r : List Nat) (x : List Int), (∀ i ∈ r, rd l (i : Int) < (n : Int)) → (r.foldl (loadStep ps l) x).take n = r.foldl (loadStep ps l) (x.take n) ∧ (r.foldl (loadStep ps l) x).drop n = x.drop n
  | [], x, _ => ⟨rfl, rfl⟩
  | i :: r, x, h => by
    have h1 := step_take ps l n x i (h i List.mem_cons_self)
    have h2 := fold_take ps l n r (loadStep ps l x i) (fun j hj => h j (List.mem_cons_of_mem _ hj))
    rw [List.foldl_cons, List.foldl_cons]
    exact ⟨by rw [h2.1, h1.1], by rw [h2.2, h1.2]⟩
/-- The loads of n boxes, of both. -/
theorem loads_ref (ps l : List Int) (hlen : l.length = ps.length) (hl : l.length ≤ 12) (least : Int) (hle : -1 ≤ least) {n : Nat} (h : boxF (-1) 0 l = ((n : Int), true)) (k : Nat) (hk : 100 < k) :
    galloonref09_Loads.f k ps l = some ((loadF ps l).take n) ∧ (loadF ps l).drop n = List.replicate (12 - n) 0 ∧ n ≤ 12 := by
  obtain ⟨h1, h2, h3⟩ := boxF_true l 0 n h
  have hn : n ≤ 12 := by omega
  have hr : ∀ i ∈ List.range l.length, rd l (i : Int) < (n : Int) := fun i hi => (h3 _ (rd_memR (by simpa using hi))).2
  have hf := fold_take ps l n (List.range l.length) (List.replicate 12 0) hr
  refine ⟨?_, ?_, hn⟩
  · unfold galloonref09_Loads.f
    rw [num_eq (-1) (by decide) l (by omega) k (by omega), h]
    simp only [Option.bind_some]
    rw [if_pos h1, Int.toNat_natCast, if_pos (by omega), show (0 : Int) = ((0 : Nat) : Int) from rfl, refL_at ps l (by omega) hlen l.length 0 _ (by omega) (fun b hb => by rw [List.length_replicate]; exact (h3 b hb).2) k (by omega)]
    congr 1
    rw [loadF, hf.1, List.take_replicate, Nat.min_eq_left hn]
    rfl
  · rw [loadF, hf.2, List.drop_replicate]


theorem boxF_lower : ∀ (l : List Int) (n r : Int), boxF 0 n l = (r, true) → boxF (-1) n l = (r, true)
  | [], n, r, h => by rw [boxF] at h ⊢; exact h
  | b :: t, n, r, h => by
    rw [boxF] at h ⊢
    by_cases hb : 0 ≤ b ∧ b ≤ n
    · rw [if_pos hb] at h
      rw [if_pos (by omega)]
      exact boxF_lower t _ r h
    · rw [if_neg hb] at h; cases h

theorem right_at (room : Int) (x : List Int) (hl : x.length ≤ 1000) : ∀ (m j : Nat), j + m = x.length → ∀ k, m < k → galloonref09_Right.l0 k room x (j : Int) = some ((x.drop j).all fun v => decide (v ≤ room)) := by
  intro m
  induction m with
  | zero =>
    intro j h k hk
    obtain ⟨k, rfl⟩ : ∃ k', k = k' + 1 := ⟨k - 1, by omega⟩
    rw [galloonref09_Right.l0, if_neg (by omega), List.drop_of_length_le (by omega)]
    rfl
  | succ m ih =>
    intro j h k hk
    obtain ⟨k, rfl⟩ : ∃ k', k = k' + 1 := ⟨k - 1, by omega⟩
    have hj : j < x.length := by omega
    rw [galloonref09_Right.l0, if_pos (by omega), if_pos (by omega), rd_dropR x j hj, List.all_cons]
    by_cases h1 : rd x (j : Int) > room
    · rw [if_pos h1, decide_eq_false (by omega), Bool.false_and]
    · rw [if_neg h1, next (by omega), ih (j + 1) (by omega) k (by omega), decide_eq_true (show rd x (j : Int) ≤ room by omega), Bool.true_and]
theorem right_eq (room : Int) (x : List Int) (hl : x.length ≤ 1000) (k : Nat) (hk : x.length < k) : galloonref09_Right.f k room x = some (x.all fun v => decide (v ≤ room)) := by
  have h := right_at room x hl x.length 0 (by omega) k hk
  rw [List.drop_zero] at h
  exact h

/-- The number of boxes of a right packing. -/
theorem boxes_val {room : Int} {l p : List Int} {n : Nat} (h12 : l.length ≤ 12) (hlen : p.length = l.length) (hb : boxF 0 0 p = ((n : Int), true)) (hle : ∀ v, v < n → (loadF l p).getD v 0 ≤ room) (k : Nat) (hk : 100 < k) : galloonlaw09_boxes.f k room l p = some (n : Int) := by
  obtain ⟨e1, _, e3⟩ := loads_ref l p hlen (by omega) (-1) (by decide) (boxF_lower p 0 n hb) k hk
  have hlf : (loadF l p).length = 12 := by
    have key : ∀ (r : List Nat) (x : List Int), (r.foldl (loadStep l p) x).length = x.length := by
      intro r
      induction r with
      | nil => intro x; rfl
      | cons i r ih => intro x; rw [List.foldl_cons, ih, loadStep_length]
    unfold loadF
    rw [key, List.length_replicate]
  have ht : ((loadF l p).take n).length = n := by rw [List.length_take, hlf]; omega
  have hall : (((loadF l p).take n).all fun v => decide (v ≤ room)) = true := by
    rw [List.all_eq_true]
    intro x hx
    obtain ⟨i, hi, rfl⟩ := List.getElem_of_mem hx
    have h := hle i (by omega)
    rw [List.getElem_take]
    rw [List.getD_eq_getElem?_getD, List.getElem?_eq_getElem (by omega), Option.getD_some] at h
    exact decide_eq_true h
  unfold galloonlaw09_boxes.f galloonref09_Packing.f
  rw [num_eq 0 (by decide) p (by omega) k (by omega), hb]
  simp only [Option.bind_some, if_true]
  rw [hlen, beq_self_eq_true, if_pos rfl, e1]
  simp only [Option.bind_some]
  rw [right_eq room _ (by omega) k (by omega), hall]
  simp only [Option.bind_some, if_true]
  rw [ht]
/-- The number of boxes of Falling. -/
theorem fall_boxes {room : Int} {l : List Int} (h : Ok room l) (hok : pieF room l = true) : (fallF room l).2 = 0 ∧ ∃ N : Nat, N ≤ l.length ∧ (N : Int) = (((((ordT l l.length room room.toNat).map (rd l)).foldl (fitX room fun _ _ => false) (List.replicate 12 0, 0)).2 : Nat) : Int) ∧ ∀ k, 100 < k → galloonlaw09_boxes.f k room l (fallF room l).1 = some (N : Int) := by
  obtain ⟨h1, h2, h12, hall⟩ := h
  obtain ⟨N, O, st, _, e1, hFI, e2, e3, e4, e5, e6, e7, β, e8⟩ := fall_facts h1 h2 h12 hall hok
  have hp := fit_proj room l (fun _ _ => false) O (List.replicate l.length 0, List.replicate 12 0, 0)
  rw [← e2] at hp
  refine ⟨by rw [e5], N, e4, ?_, fun k hk => ?_⟩
  · rw [e3, hp, e1]
  · rw [e5]
    exact boxes_val h12 e6 e7 (fun v hv => by
      obtain ⟨hb, e, _⟩ := e8 v hv
      rw [e]
      exact (hFI.ok.2.2.2.1 (β v) (by omega)).2) k hk

end Go.Proofs.Ytoecbchfdgbliaa.Math
