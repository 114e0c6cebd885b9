-- Plain lemmas for RemnantFills' own print: pieces, numbers of boxes, loads (as MathA, MathG over the names of F).
import Derived.Test.YtoecbchfdgbliaaMathK
import Derived.Test.YtoecbchfdgbliaaFx5
namespace Go.Proofs.Ytoecbchfdgbliaa.Math
open Go.RowKit Go.Proofs.Ytoecbchfdgbliaa.F Go.Proofs.YtoecbchfdgbliaaW.PrintWords Go.Proofs.YtoecbchfdgbliaaW.PrintLast Go.Proofs.YtoecbchfdgbliaaW.PrintMore
open Go.Proofs.Ytoecbchfdgbliaa.Hand hiding wrap_in look
set_option linter.unusedVariables false

theorem wrap_in {n : Int} (h0 : -9223372036854775808 ≤ n) (h1 : n ≤ 9223372036854775807) : wrap64 n = n := by
  unfold wrap64
  omega
theorem next {j : Nat} (h : j ≤ 1000000) : wrap64 ((j : Int) + 1) = ((j + 1 : Nat) : Int) := by
  rw [wrap_in (by omega) (by omega)]; push_cast; rfl
theorem rd_mem {l : List Int} {j : Nat} (h : j < l.length) : rd l (j : Int) ∈ l := by
  simp only [rd, Int.toNat_natCast, List.getD_eq_getElem?_getD, List.getElem?_eq_getElem h, Option.getD_some]
  exact List.getElem_mem h

/-- Once a round is enough, more are. -/
theorem up {α : Type} {g : Nat → Option α} (h : ∀ k, LeO (g k) (g (k + 1))) {k : Nat} {r : α} (hr : g k = some r) {k' : Nat} (hk : k ≤ k') : g k' = some r := at_rounds h hk hr

theorem within_eq (x lo hi : Int) : remnant_within.f x lo hi = some (Hand.within x lo hi) := by
  unfold remnant_within.f Hand.within
  split <;> rfl
theorem within_is (x lo hi : Int) : Hand.within x lo hi = true ↔ lo ≤ x ∧ x ≤ hi := by
  unfold Hand.within
  split
  · simp only [decide_eq_true_eq]; omega
  · constructor
    · intro h; cases h
    · intro h; omega

/-- What pieces are. -/
def Ok (room : Int) (l : List Int) : Prop := 1 ≤ room ∧ room ≤ 100 ∧ l.length ≤ 12 ∧ ∀ x ∈ l, 1 ≤ x ∧ x ≤ room
theorem pie_iff (room : Int) (l : List Int) : Hand.pieF room l = true ↔ Ok room l := by
  unfold Hand.pieF Ok
  simp only [Bool.and_eq_true, within_is, decide_eq_true_eq, List.all_eq_true]
  constructor
  · rintro ⟨⟨h1, h2⟩, h3, h4⟩; exact ⟨h1, h2, by omega, h4⟩
  · rintro ⟨h1, h2, h3, h4⟩; exact ⟨⟨h1, h2⟩, by omega, h4⟩

theorem pieces_at (room : Int) (l : List Int) (hl : l.length ≤ 100000) : ∀ (m j : Nat), j + m = l.length → ∀ k, m < k →
    galloonref09_Pieces.l0 k room l (j : Int) = some (((l.drop j).all fun x => decide (1 ≤ x ∧ x ≤ room)) && decide (1 ≤ room ∧ room ≤ 100 ∧ l.length ≤ 12)) := by
  intro m
  induction m with
  | zero =>
    intro j h k hk
    obtain ⟨k, rfl⟩ : ∃ k', k = k' + 1 := ⟨k - 1, by omega⟩
    rw [galloonref09_Pieces.l0, if_neg (by omega), List.drop_of_length_le (by omega)]
    simp only [List.all_nil, Bool.true_and]
    by_cases h1 : room ≥ 1
    · rw [if_pos h1]
      by_cases h2 : room ≤ 100
      · rw [if_pos h2]
        congr 1
        apply decide_eq_decide.mpr
        omega
      · rw [if_neg h2]; congr 1; symm; apply decide_eq_false; omega
    · rw [if_neg h1]; congr 1; symm; apply decide_eq_false; omega
  | succ m ih =>
    intro j h k hk
    obtain ⟨k, rfl⟩ : ∃ k', k = k' + 1 := ⟨k - 1, by omega⟩
    have hj : j < l.length := by omega
    have hd : l.drop j = rd l (j : Int) :: l.drop (j + 1) := by rw [List.drop_eq_getElem_cons hj]; simp [rd, hj]
    rw [galloonref09_Pieces.l0, if_pos (by omega), if_pos (by omega), hd, List.all_cons]
    by_cases h1 : rd l (j : Int) < 1
    · rw [if_pos h1, decide_eq_false (by omega)]; rfl
    · rw [if_neg h1]
      by_cases h2 : rd l (j : Int) > room
      · rw [if_pos h2, decide_eq_false (by omega)]; rfl
      · rw [if_neg h2, next (by omega), ih (j + 1) (by omega) k (by omega), decide_eq_true (p := 1 ≤ rd l (j : Int) ∧ rd l (j : Int) ≤ room) (by omega), Bool.true_and]
theorem pieces_eq (room : Int) (l : List Int) (hl : l.length ≤ 100000) (k : Nat) (hk : l.length < k) : galloonref09_Pieces.f k room l = some (Hand.pieF room l) := by
  have h := pieces_at room l hl l.length 0 (by omega) k hk
  rw [show galloonref09_Pieces.f k room l = galloonref09_Pieces.l0 k room l ((0 : Nat) : Int) from rfl, h, List.drop_zero]
  congr 1
  rw [Bool.eq_iff_iff, pie_iff, Bool.and_eq_true, List.all_eq_true, decide_eq_true_eq]
  simp only [decide_eq_true_eq]
  unfold Ok
  constructor
  · rintro ⟨h1, h2, h3, h4⟩; exact ⟨h2, h3, h4, h1⟩
  · rintro ⟨h2, h3, h4, h1⟩; exact ⟨h1, h2, h3, h4⟩
theorem awake_ev : ∀ k, 60 ≤ k → galloonlaw09_awake.f k = some true := by
  intro k hk
  exact up (fun k => galloonlaw09_awake.mono k) (k := 60) (by decide +kernel) hk

theorem num_at (least : Int) (hle : -1 ≤ least) (l : List Int) (hl : l.length ≤ 1000) : ∀ (m j : Nat) (n : Int), j + m = l.length → 0 ≤ n → n ≤ j → ∀ k, 2 * m < k → galloonref09_numbered.l0 k l least n (j : Int) = some (boxF least n (l.drop j)) := by
  intro m
  induction m with
  | zero =>
    intro j n h h0 h1 k hk
    obtain ⟨k, rfl⟩ : ∃ k', k = k' + 1 := ⟨k - 1, by omega⟩
    rw [galloonref09_numbered.l0, if_neg (by omega), List.drop_of_length_le (by omega)]
    rfl
  | succ m ih =>
    intro j n h h0 h1 k hk
    obtain ⟨k, rfl⟩ : ∃ k', k = k' + 1 + 1 := ⟨k - 2, by omega⟩
    have hj : j < l.length := by omega
    have hd : l.drop j = rd l (j : Int) :: l.drop (j + 1) := rd_dropR l j hj
    rw [galloonref09_numbered.l0, if_pos (by omega), if_pos (by omega), hd, boxF]
    by_cases hlt : rd l (j : Int) < least
    · rw [if_pos hlt, galloonref09_numbered.j1, if_pos rfl, if_neg (by omega)]
    · rw [if_neg hlt, galloonref09_numbered.j1]
      by_cases hgt : rd l (j : Int) > n
      · rw [decide_eq_true hgt, if_pos rfl, if_neg (by omega)]
      · rw [decide_eq_false hgt, if_neg (by decide), if_pos (by omega), if_pos (by omega), if_pos (show least ≤ rd l (j : Int) ∧ rd l (j : Int) ≤ n by omega), next (by omega)]
        by_cases he : rd l (j : Int) = n
        · have hm : mx n (rd l (j : Int) + 1) = n + 1 := by unfold mx; split <;> omega
          rw [if_pos he, hm, wrap_in (n := n + 1) (by omega) (by omega), ih (j + 1) (n + 1) (by omega) (by omega) (by push_cast; omega) k (by omega)]
        · have hm : mx n (rd l (j : Int) + 1) = n := by unfold mx; split <;> omega
          rw [if_neg he, hm, ih (j + 1) n (by omega) h0 (by push_cast; omega) k (by omega)]
theorem num_eq (least : Int) (hle : -1 ≤ least) (l : List Int) (hl : l.length ≤ 1000) (k : Nat) (hk : 2 * l.length < k) : galloonref09_numbered.f k l least = some (boxF least 0 l) :=
  num_at least hle l hl l.length 0 0 (by omega) (Int.le_refl _) (Int.le_refl _) k hk
/-! ### Loads -/
theorem refL_at (ps l : List Int) (hl : l.length ≤ 1000) (hlen : l.length = ps.length) : ∀ (m j : Nat) (x : List Int), j + m = l.length → (∀ b ∈ l, b < (x.length : Int)) → ∀ k, m < k → galloonref09_Loads.l0 k ps l x (j : Int) = some (((List.range l.length).drop j).foldl (loadStep ps l) x) := by
  intro m
  induction m with
  | zero =>
    intro j x h hb k hk
    obtain ⟨k, rfl⟩ : ∃ k', k = k' + 1 := ⟨k - 1, by omega⟩
    rw [galloonref09_Loads.l0, if_neg (by omega), List.drop_of_length_le (by simp; omega)]
    rfl
  | succ m ih =>
    intro j x h hb k hk
    obtain ⟨k, rfl⟩ : ∃ k', k = k' + 1 := ⟨k - 1, by omega⟩
    have hj : j < l.length := by omega
    have hbj := hb _ (rd_memR hj)
    rw [galloonref09_Loads.l0, if_pos (by omega), if_pos (by omega), range_drop _ _ hj, List.foldl_cons]
    by_cases hneg : rd l (j : Int) ≥ 0
    · have e : loadStep ps l x j = x.set (rd l (j : Int)).toNat (wrap64 (rd x (rd l (j : Int)) + rd ps (j : Int))) := if_pos hneg
      rw [if_pos hneg, if_pos hneg, if_pos hbj, if_pos (by omega), next (by omega), ← e]
      exact ih (j + 1) _ (by omega) (fun b hb' => by rw [loadStep_length]; exact hb b hb') k (by omega)
    · have e : loadStep ps l x j = x := if_neg hneg
      rw [if_neg hneg, next (by omega), e]
      exact ih (j + 1) _ (by omega) hb k (by omega)
theorem step_take (ps l : List Int) (n : Nat) (x : List Int) (i : Nat) (hb : rd l (i : Int) < (n : Int)) : (loadStep ps l x i).take n = loadStep ps l (x.take n) i ∧ (loadStep ps l x i).drop n = x.drop n := by
  unfold loadStep
  by_cases h0 : 0 ≤ rd l (i : Int)
  · rw [if_pos h0, if_pos h0]
    have hlt : (rd l (i : Int)).toNat < n := by omega
    refine ⟨?_, List.drop_set_of_lt hlt⟩
    rw [List.take_set]
    congr 2
    rw [List.getD_eq_getElem?_getD, List.getD_eq_getElem?_getD, List.getElem?_take_of_lt hlt]
  · rw [if_neg h0, if_neg h0]
    exact ⟨rfl, rfl⟩
theorem fold_take (ps l : List Int) (n : Nat) : ∀ (r : List Nat) (x : List Int), (∀ i ∈ r, rd l (i : Int) < (n : Int)) → (r.foldl (loadStep ps l) x).take n = r.foldl (loadStep ps l) (x.take n) ∧ (r.foldl (loadStep ps l) x).drop n = x.drop n
  | [], x, _ => ⟨rfl, rfl⟩
  | i :: r, x, h => by
    have h1 := step_take ps l n x i (h i List.mem_cons_self)
    have h2 := fold_take ps l n r (loadStep ps l x i) (fun j hj => h j (List.mem_cons_of_mem _ hj))
    rw [List.foldl_cons, List.foldl_cons]
    exact ⟨by rw [h2.1, h1.1], by rw [h2.2, h1.2]⟩
/-- The loads of n boxes, of both. -/
theorem loads_ref (ps l : List Int) (hlen : l.length = ps.length) (hl : l.length ≤ 12) (least : Int) (hle : -1 ≤ least) {n : Nat} (h : boxF (-1) 0 l = ((n : Int), true)) (k : Nat) (hk : 100 < k) :
    galloonref09_Loads.f k ps l = some ((loadF ps l).take n) ∧ (loadF ps l).drop n = List.replicate (12 - n) 0 ∧ n ≤ 12 := by
  obtain ⟨h1, h2, h3⟩ := boxF_true l 0 n h
  have hn : n ≤ 12 := by omega
  have hr : ∀ i ∈ List.range l.length, rd l (i : Int) < (n : Int) := fun i hi => (h3 _ (rd_memR (by simpa using hi))).2
  have hf := fold_take ps l n (List.range l.length) (List.replicate 12 0) hr
  refine ⟨?_, ?_, hn⟩
  · unfold galloonref09_Loads.f
    rw [num_eq (-1) (by decide) l (by omega) k (by omega), h]
    simp only [Option.bind_some]
    rw [if_pos h1, Int.toNat_natCast, if_pos (by omega), show (0 : Int) = ((0 : Nat) : Int) from rfl, refL_at ps l (by omega) hlen l.length 0 _ (by omega) (fun b hb => by rw [List.length_replicate]; exact (h3 b hb).2) k (by omega)]
    congr 1
    rw [loadF, hf.1, List.take_replicate, Nat.min_eq_left hn]
    rfl
  · rw [loadF, hf.2, List.drop_replicate]


theorem filled_at (room : Int) (x : List Int) (hl : x.length ≤ 1000) : ∀ (m j : Nat), j + m = x.length → ∀ k, m < k → galloonref09_Filled.l0 k room x (j : Int) = some ((x.drop j).all fun v => decide (room ≤ v)) := by
  intro m
  induction m with
  | zero =>
    intro j h k hk
    obtain ⟨k, rfl⟩ : ∃ k', k = k' + 1 := ⟨k - 1, by omega⟩
    rw [galloonref09_Filled.l0, if_neg (by omega), List.drop_of_length_le (by omega)]
    rfl
  | succ m ih =>
    intro j h k hk
    obtain ⟨k, rfl⟩ : ∃ k', k = k' + 1 := ⟨k - 1, by omega⟩
    have hj : j < x.length := by omega
    rw [galloonref09_Filled.l0, if_pos (by omega), if_pos (by omega), rd_dropR x j hj, List.all_cons]
    by_cases h1 : rd x (j : Int) < room
    · rw [if_pos h1, decide_eq_false (by omega), Bool.false_and]
    · rw [if_neg h1, next (by omega), ih (j + 1) (by omega) k (by omega), decide_eq_true (show room ≤ rd x (j : Int) by omega), Bool.true_and]
theorem filled_eq (room : Int) (x : List Int) (hl : x.length ≤ 1000) (k : Nat) (hk : x.length < k) : galloonref09_Filled.f k room x = some (x.all fun v => decide (room ≤ v)) := by
  have h := filled_at room x hl x.length 0 (by omega) k hk
  rw [List.drop_zero] at h
  exact h
theorem listed_eq (ps l : List Int) (hl : l.length ≤ 100) (k : Nat) (hk : 1000 < k) : galloonref09_Listed.f k ps l = some (if (boxF (-1) 0 l).2 = true then ((l.length : Int) == (ps.length : Int)) else false) := by
  unfold galloonref09_Listed.f
  rw [num_eq (-1) (by decide) l (by omega) k (by omega), Option.bind_some]
  split <;> rfl

/-! ### The boxes that Fill answers -/
theorem inBox_mem (ps o : List Int) (b : Int) (hb : b ≠ 0 ∨ True) : ∀ r : List Nat, inBox ps o b r ≠ 0 → ∃ i ∈ r, rd o (i : Int) = b
  | [], h => absurd rfl h
  | i :: r, h => by
    by_cases he : rd o (i : Int) = b
    · exact ⟨i, List.mem_cons_self, he⟩
    · rw [inBox_cons, if_neg he, Int.zero_add] at h
      obtain ⟨j, hj, e⟩ := inBox_mem ps o b hb r h
      exact ⟨j, List.mem_cons_of_mem _ hj, e⟩
/-- The names are as many as the full boxes. -/
theorem names_count {ps o K : List Int} {room cnt : Int} (hr : 1 ≤ room) (ho : o.length = ps.length) (h0 : 0 ≤ cnt) (hn : K.Nodup) (hm : (-1 : Int) ∉ K) (hall : ∀ b ∈ o, b = -1 ∨ b ∈ K) (hsub : ∀ k ∈ K, k ∈ o)
    (hob : ∀ b ∈ o, b = -1 ∨ (0 ≤ b ∧ b < cnt)) (hfull : ∀ b : Int, 0 ≤ b → b < cnt → room ≤ inBox ps o b (List.range ps.length)) : (∀ k ∈ K, 0 ≤ k ∧ k < cnt) ∧ (K.length : Int) = cnt := by
  have h1 : ∀ k ∈ K, 0 ≤ k ∧ k < cnt := fun k hk => by
    rcases hob k (hsub k hk) with e | e
    · exact absurd (e ▸ hk) hm
    · exact e
  have h2 : ∀ b : Int, 0 ≤ b → b < cnt → b ∈ K := fun b hb0 hb1 => by
    have hf := hfull b hb0 hb1
    obtain ⟨i, hi, e⟩ := inBox_mem ps o b (.inr trivial) (List.range ps.length) (by omega)
    have hi' : i < o.length := by rw [ho]; exact List.mem_range.1 hi
    rcases hall _ (rd_memR hi') with e2 | e2
    · omega
    · rw [e] at e2; exact e2
  refine ⟨h1, ?_⟩
  obtain ⟨c, rfl⟩ := Int.eq_ofNat_of_zero_le h0
  have hnr : ((List.range c).map fun (i : Nat) => (i : Int)).Nodup := by
    unfold List.Nodup
    rw [List.pairwise_map]
    exact (List.nodup_range (n := c)).imp fun h e => h (by omega)
  have a1 := hn.length_le_of_subset (l₂ := (List.range c).map fun (i : Nat) => (i : Int)) (fun k hk => by
    have := h1 k hk
    exact List.mem_map.2 ⟨k.toNat, List.mem_range.2 (by omega), by omega⟩)
  have a2 := hnr.length_le_of_subset (l₂ := K) (fun k hk => by
    obtain ⟨i, hi, rfl⟩ := List.mem_map.1 hk
    have := List.mem_range.1 hi
    exact h2 _ (by omega) (by omega))
  rw [List.length_map, List.length_range] at a1 a2
  omega
theorem inBox_code (ps o K : List Int) (hn : K.Nodup) (hm : (-1 : Int) ∉ K) (hall : ∀ b ∈ o, b = -1 ∨ b ∈ K) {v : Nat} (hv : v < K.length) : ∀ r : List Nat, (∀ i ∈ r, i < o.length) →
    inBox ps (o.map (code K)) (v : Int) r = inBox ps o K[v] r
  | [], _ => rfl
  | i :: r, h => by
    have ih := inBox_code ps o K hn hm hall hv r (fun j hj => h j (List.mem_cons_of_mem _ hj))
    have hi := h i List.mem_cons_self
    have e : rd (o.map (code K)) (i : Int) = code K (rd o (i : Int)) := by simp [rd, hi]
    have hiff : rd (o.map (code K)) (i : Int) = (v : Int) ↔ rd o (i : Int) = K[v] := by
      rw [e]
      unfold code
      rcases hall _ (rd_memR hi) with h1 | h1
      · rw [if_pos h1, h1]
        exact ⟨fun k => by omega, fun k => absurd (k ▸ List.getElem_mem hv) hm⟩
      · rw [if_neg (fun k : rd o (i : Int) = -1 => hm (k ▸ h1))]
        have hlt := List.idxOf_lt_length_iff.2 h1
        constructor
        · intro k
          have k2 : K.idxOf (rd o (i : Int)) = v := by omega
          have := List.getElem_idxOf hlt
          simp only [k2] at this
          exact this.symm
        · intro k
          rw [k, hn.idxOf_getElem v hv]
    rw [inBox_cons, inBox_cons, ih]
    by_cases hc : rd o (i : Int) = K[v]
    · rw [if_pos hc, if_pos (hiff.mpr hc)]
    · rw [if_neg hc, if_neg (fun k => hc (hiff.mp k))]

end Go.Proofs.Ytoecbchfdgbliaa.Math
