-- Plain lemmas: Fill's loops make the table, and read the boxes off it.
import Derived.Test.YtoecbchfdgbliaaMathI
import Derived.Test.YtoecbchfdgbliaaBx2
namespace Go.Proofs.Ytoecbchfdgbliaa.Math
open Go.RowKit Go.Proofs.Ytoecbchfdgbliaa.B Go.Proofs.YtoecbchfdgbliaaW.PrintWords Go.Proofs.YtoecbchfdgbliaaW.PrintLast Go.Proofs.YtoecbchfdgbliaaW.PrintMore
open Go.Proofs.Ytoecbchfdgbliaa.Hand hiding look
set_option linter.unusedVariables false

theorem nextF {j : Nat} (h : j ≤ 1000000) : wrap64 ((j : Int) + 1) = ((j + 1 : Nat) : Int) := by
  rw [wrap_in (by omega) (by omega)]; push_cast; rfl
theorem shrF (m j : Nat) (hj : j ≤ 60) : shr .i64 (m : Int) (j : Int) = ((m / 2 ^ j : Nat) : Int) := by
  unfold shr
  rw [Int.toNat_natCast, Nat.min_eq_left (show j ≤ IntKind.i64.bits from Nat.le_trans hj (by decide))]
  push_cast
  rfl
theorem shlF (n : Nat) (hn : n ≤ 12) : shl .i64 1 (n : Int) = ((2 ^ n : Nat) : Int) := by
  have h : ∀ n : Fin 13, shl .i64 1 ((n.val : Nat) : Int) = ((2 ^ n.val : Nat) : Int) := by decide +kernel
  exact h ⟨n, by omega⟩
theorem more_eq (a b c d : Int) (k : Nat) (hk : 5 ≤ k) : remnant_more.f k [a, b, c, d] = some (decide (Better (a, c) (b, d))) := by
  obtain ⟨k, rfl⟩ : ∃ k', k = k' + 1 + 1 + 1 := ⟨k - 3, by omega⟩
  have w1 : wrap64 ((0 : Int) + 1) = 1 := by rw [wrap_in (by decide) (by decide)]; rfl
  have w2 : wrap64 ((0 : Int) + 2) = 2 := by rw [wrap_in (by decide) (by decide)]; rfl
  have w3 : wrap64 ((2 : Int) + 1) = 3 := by rw [wrap_in (by decide) (by decide)]; rfl
  have w4 : wrap64 ((2 : Int) + 2) = 4 := by rw [wrap_in (by decide) (by decide)]; rfl
  have w5 : wrap64 ((4 : Int) + 1) = 5 := by rw [wrap_in (by decide) (by decide)]; rfl
  have r0 : rd [a, b, c, d] 0 = a := rfl
  have r1 : rd [a, b, c, d] 1 = b := rfl
  have r2 : rd [a, b, c, d] 2 = c := rfl
  have r3 : rd [a, b, c, d] 3 = d := rfl
  have hl : (([a, b, c, d] : List Int).length : Int) = 4 := rfl
  unfold remnant_more.f
  rw [remnant_more.l0, w1, w2, hl, r0, r1, if_pos (by decide), if_pos (by decide), if_pos (by decide), if_pos (by decide)]
  by_cases h : a = b
  · rw [if_pos h, remnant_more.l0, w3, w4, hl, r2, r3, if_pos (by decide), if_pos (by decide), if_pos (by decide), if_pos (by decide)]
    by_cases h2 : c = d
    · rw [if_pos h2, remnant_more.l0, w5, hl, if_neg (by decide)]
      congr 1; symm; apply decide_eq_false; unfold Better; dsimp only; omega
    · rw [if_neg h2]
      congr 1; apply decide_eq_decide.mpr; unfold Better; dsimp only; omega
  · rw [if_neg h]
    congr 1; apply decide_eq_decide.mpr; unfold Better; dsimp only; omega

def toS (e : Ent) : S68 := ⟨e.1, e.2.1, e.2.2⟩
theorem rdT_lt (room : Int) (l : List Int) {s u : Nat} (h : u < s) (R : List S68) : rd_T68 ((tab room l s).map toS ++ R) (u : Int) = toS (B room l u) := by
  have hl : u < ((tab room l s).map toS).length := by rw [List.length_map, tab_length]; exact h
  unfold rd_T68
  rw [Int.toNat_natCast, List.getD_eq_getElem?_getD, List.getElem?_append_left hl, List.getElem?_map, ← tab_get room l s u h, List.getD_eq_getElem?_getD]
  have h2 : u < (tab room l s).length := by rw [tab_length]; exact h
  rw [List.getElem?_eq_getElem h2]
  rfl
theorem rdT_at (room : Int) (l : List Int) (s : Nat) (c : S68) (R : List S68) : rd_T68 ((tab room l s).map toS ++ c :: R) (s : Int) = c := by
  unfold rd_T68
  rw [Int.toNat_natCast, List.getD_eq_getElem?_getD, List.getElem?_append_right (by rw [List.length_map, tab_length]; omega), List.length_map, tab_length, Nat.sub_self]
  rfl
theorem setT (room : Int) (l : List Int) (s : Nat) (c d : S68) (R : List S68) : ((tab room l s).map toS ++ c :: R).set ((s : Int)).toNat d = (tab room l s).map toS ++ d :: R := by
  rw [Int.toNat_natCast, List.set_append_right _ _ (by rw [List.length_map, tab_length]; omega), List.length_map, tab_length, Nat.sub_self]
  rfl
theorem lenT (room : Int) (l : List Int) (s m : Nat) (c : S68) : (((tab room l s).map toS ++ c :: List.replicate m z68).length : Int) = ((s + 1 + m : Nat) : Int) := by
  rw [List.length_append, List.length_map, tab_length, List.length_cons, List.length_replicate]; push_cast; omega

/-- The entries are small. -/
theorem B_small (room : Int) (l : List Int) (hl : ∀ i : Nat, i < l.length → 1 ≤ rd l (i : Int)) (hr : 1 ≤ room) : ∀ (N s : Nat), s < N → s < 2 ^ l.length → (B room l s).1 ≤ s ∧ (B room l s).2.1 < room
  | 0, s, h, _ => by omega
  | N + 1, s, h, hs => by
    by_cases h0 : 0 < s
    · obtain ⟨i, hi, hb, hB⟩ := (B_last room l hl hr (s + 1) s (by omega) hs).2 h0
      have h2 := two_le hb
      have hp : 0 < 2 ^ i := Nat.pow_pos (by decide)
      have ih := B_small room l hl hr N (s - 2 ^ i) (by omega) (by omega)
      rw [hB]
      unfold nxt fo
      split <;> dsimp only <;> dsimp only at * <;> omega
    · obtain rfl : s = 0 := by omega
      rw [B_zero]; exact ⟨by decide, by dsimp only; omega⟩

/-- The pieces of one set, tried from j on. -/
theorem l1_go {room : Int} {l : List Int} (hl : ∀ i : Nat, i < l.length → 1 ≤ rd l (i : Int) ∧ rd l (i : Int) ≤ 100) (hr : 1 ≤ room) (hr2 : room ≤ 100) (h12 : l.length ≤ 12) {s : Nat} (h0 : 0 < s) (hs : s < 2 ^ l.length) (m' : Nat) (hm' : s + 1 + m' = 2 ^ l.length) :
    ∀ (m j : Nat), j + m = l.length → ∀ k, 10 ≤ k → remnant_Fill.l1 (k + m + 1) room l ((tab room l s).map toS ++ toS (inner room l s j) :: List.replicate m' z68) (s : Int) l (l.length : Int) (j : Int) =
      remnant_Fill.l0 k room l ((tab room l s).map toS ++ toS (inner room l s l.length) :: List.replicate m' z68) ((s + 1 : Nat) : Int) := by
  have hpow : 2 ^ l.length ≤ 4096 := Nat.le_trans (Nat.pow_le_pow_right (by decide) h12) (by decide)
  have hl1 : ∀ i : Nat, i < l.length → 1 ≤ rd l (i : Int) := fun i hi => (hl i hi).1
  intro m
  induction m with
  | zero =>
    intro j hj k hk
    rw [Nat.add_zero, remnant_Fill.l1, if_neg (by omega), nextF (by omega), show j = l.length by omega]
  | succ m ih =>
    intro j hj k hk
    have ih1 := ih (j + 1) (by omega) k hk
    rw [inner_succ] at ih1
    have hbit : Go.bits .and .i64 (shr .i64 (s : Int) (j : Int)) 1 = (((s / 2 ^ j) % 2 : Nat) : Int) := by
      rw [shrF s j (by omega)]; exact and_one (Nat.lt_of_le_of_lt (Nat.div_le_self _ _) (by omega))
    rw [show k + (m + 1) + 1 = (k + m + 1) + 1 by omega, remnant_Fill.l1, if_pos (by omega), if_pos (by omega), if_pos (by omega), hbit, nextF (by omega)]
    by_cases hb : (s / 2 ^ j) % 2 = 1
    · have h2 := two_le hb
      have hp : 0 < 2 ^ j := Nat.pow_pos (by decide)
      have hu : s - 2 ^ j < s := by omega
      have hlen := lenT room l s m' (toS (inner room l s j))
      have hsm := B_small room l hl1 hr (s + 1) (s - 2 ^ j) (by omega) (by omega)
      have hnn := (B_last room l hl1 hr (s + 1) (s - 2 ^ j) (by omega) (by omega)).1
      have hlj := hl j (by omega)
      rw [if_neg (by omega), andNot_bit (by omega) (by omega) hb, rdT_lt room l hu, rdT_at, if_pos (by omega), if_pos (by omega)]
      rw [tryOne, if_pos hb] at ih1
      have e1 : (toS (B room l (s - 2 ^ j))).f1 = (B room l (s - 2 ^ j)).2.1 := rfl
      have e0 : (toS (B room l (s - 2 ^ j))).f0 = (B room l (s - 2 ^ j)).1 := rfl
      have c0 : (toS (inner room l s j)).f0 = (inner room l s j).1 := rfl
      have c1 : (toS (inner room l s j)).f1 = (inner room l s j).2.1 := rfl
      have hfo : fo (B room l (s - 2 ^ j)) = ((B room l (s - 2 ^ j)).1, (B room l (s - 2 ^ j)).2.1) := rfl
      have hcur : fo (inner room l s j) = ((inner room l s j).1, (inner room l s j).2.1) := rfl
      rw [e0, e1, c0, c1, wrap_in (n := (B room l (s - 2 ^ j)).2.1 + rd l (j : Int)) (by omega) (by omega), wrap_in (n := (B room l (s - 2 ^ j)).1 + 1) (by omega) (by omega), setT, setT]
      rw [hfo, hcur] at ih1
      by_cases hc : (B room l (s - 2 ^ j)).2.1 + rd l (j : Int) ≥ room
      · have hn : nxt room ((B room l (s - 2 ^ j)).1, (B room l (s - 2 ^ j)).2.1) (rd l (j : Int)) = ((B room l (s - 2 ^ j)).1 + 1, 0) := if_pos hc
        rw [hn] at ih1
        rw [if_pos hc, if_pos (by omega), if_pos (by omega), more_eq _ _ _ _ _ (by omega), Option.bind_some]
        by_cases hbt : Better ((B room l (s - 2 ^ j)).1 + 1, 0) ((inner room l s j).1, (inner room l s j).2.1)
        · rw [if_pos hbt] at ih1
          rw [decide_eq_true hbt, if_pos rfl]
          exact ih1
        · rw [if_neg hbt] at ih1
          rw [decide_eq_false hbt, if_neg (by decide)]
          exact ih1
      · have hn : nxt room ((B room l (s - 2 ^ j)).1, (B room l (s - 2 ^ j)).2.1) (rd l (j : Int)) = ((B room l (s - 2 ^ j)).1, (B room l (s - 2 ^ j)).2.1 + rd l (j : Int)) := if_neg hc
        rw [hn] at ih1
        rw [if_neg hc, if_pos (by omega), if_pos (by omega), more_eq _ _ _ _ _ (by omega), Option.bind_some]
        by_cases hbt : Better ((B room l (s - 2 ^ j)).1, (B room l (s - 2 ^ j)).2.1 + rd l (j : Int)) ((inner room l s j).1, (inner room l s j).2.1)
        · rw [if_pos hbt] at ih1
          rw [decide_eq_true hbt, if_pos rfl]
          exact ih1
        · rw [if_neg hbt] at ih1
          rw [decide_eq_false hbt, if_neg (by decide)]
          exact ih1
    · rw [if_pos (by omega)]
      rw [tryOne, if_neg hb] at ih1
      exact ih1
/-- All sets. -/
theorem l0_go {room : Int} {l : List Int} (hl : ∀ i : Nat, i < l.length → 1 ≤ rd l (i : Int) ∧ rd l (i : Int) ≤ 100) (hr : 1 ≤ room) (hr2 : room ≤ 100) (h12 : l.length ≤ 12) :
    ∀ (t s : Nat), s + t = 2 ^ l.length → 0 < s → ∀ k, 10 ≤ k → remnant_Fill.l0 (k + t * (l.length + 2)) room l ((tab room l s).map toS ++ List.replicate t z68) (s : Int) = remnant_Fill.l0 k room l ((tab room l (2 ^ l.length)).map toS) ((2 ^ l.length : Nat) : Int) := by
  intro t
  induction t with
  | zero =>
    intro s hs h0 k hk
    rw [Nat.zero_mul, Nat.add_zero, List.replicate_zero, List.append_nil, show s = 2 ^ l.length by omega]
  | succ t ih =>
    intro s hs h0 k hk
    have hpow : 2 ^ l.length ≤ 4096 := Nat.le_trans (Nat.pow_le_pow_right (by decide) h12) (by decide)
    have hlen := lenT room l s t z68
    have hst : (⟨-1, z68.f1, z68.f2⟩ : S68) = toS (inner room l s 0) := rfl
    have ih1 := ih (s + 1) (by omega) (by omega) k hk
    rw [tab_succ room l h0, List.map_append, List.map_cons, List.map_nil, List.append_assoc, List.singleton_append] at ih1
    rw [show k + (t + 1) * (l.length + 2) = (k + t * (l.length + 2)) + l.length + 1 + 1 by rw [Nat.succ_mul]; omega, List.replicate_succ, remnant_Fill.l0, if_pos (by omega), if_pos (by omega), rdT_at, setT, hst]
    exact (l1_go hl hr hr2 h12 h0 (by omega) t (by omega) l.length 0 (by omega) (k + t * (l.length + 2)) (by omega)).trans ih1

theorem rd_set (x : List Int) (i j : Nat) (v : Int) (hi : i < x.length) : rd (x.set i v) (j : Int) = if j = i then v else rd x (j : Int) := by
  unfold rd
  rw [Int.toNat_natCast, List.getD_eq_getElem?_getD, List.getD_eq_getElem?_getD, List.getElem?_set]
  by_cases h : i = j
  · subst h; simp [hi]
  · rw [if_neg h, if_neg (Ne.symm h)]
/-- The boxes, read off the table from a set on. -/
theorem l2_go {room : Int} {l : List Int} (hl : ∀ i : Nat, i < l.length → 1 ≤ rd l (i : Int) ∧ rd l (i : Int) ≤ 100) (hr : 1 ≤ room) (h12 : l.length ≤ 12) (cnt : Int) :
    ∀ (N s : Nat) (x : List Int), s ≤ N → s < 2 ^ l.length → x.length = l.length → ∃ o : List Int, o.length = l.length ∧
      (∀ i : Nat, i < l.length → rd o (i : Int) = if (s / 2 ^ i) % 2 = 1 ∧ boxOf room l N s i < cnt then boxOf room l N s i else rd x (i : Int)) ∧
      ∀ k, s < k → remnant_Fill.l2 k ((tab room l (2 ^ l.length)).map toS) x cnt (s : Int) = (remnant_used.f o).bind fun t154 => (some (t154, cnt, 0)) := by
  have hpow : 2 ^ l.length ≤ 4096 := Nat.le_trans (Nat.pow_le_pow_right (by decide) h12) (by decide)
  have hl1 : ∀ i : Nat, i < l.length → 1 ≤ rd l (i : Int) := fun i hi => (hl i hi).1
  have zero : ∀ (N : Nat) (x : List Int), x.length = l.length → ∃ o : List Int, o.length = l.length ∧
      (∀ i : Nat, i < l.length → rd o (i : Int) = if (0 / 2 ^ i) % 2 = 1 ∧ boxOf room l N 0 i < cnt then boxOf room l N 0 i else rd x (i : Int)) ∧
      ∀ k, 0 < k → remnant_Fill.l2 k ((tab room l (2 ^ l.length)).map toS) x cnt ((0 : Nat) : Int) = (remnant_used.f o).bind fun t154 => (some (t154, cnt, 0)) := by
    intro N x hx
    refine ⟨x, hx, fun i hi => by rw [if_neg (fun h => by rw [Nat.zero_div] at h; exact absurd h.1 (by decide))], fun k hk => ?_⟩
    obtain ⟨k, rfl⟩ : ∃ k', k = k' + 1 := ⟨k - 1, by omega⟩
    rw [remnant_Fill.l2, if_neg (by omega)]
  intro N
  induction N with
  | zero =>
    intro s x h hs hx
    obtain rfl : s = 0 := by omega
    exact zero 0 x hx
  | succ N ih =>
    intro s x h hs hx
    by_cases h0 : 0 < s
    · obtain ⟨i, hi, hb, hB⟩ := (B_last room l hl1 hr (s + 1) s (by omega) hs).2 h0
      have hlast : (B room l s).2.2 = (i : Int) := by rw [hB]
      have hp : 0 < 2 ^ i := Nat.pow_pos (by decide)
      have h2 := two_le hb
      have hrd : ∀ u : Nat, u < 2 ^ l.length → rd_T68 ((tab room l (2 ^ l.length)).map toS) (u : Int) = toS (B room l u) := fun u hu => by
        have := rdT_lt room l hu []
        rwa [List.append_nil] at this
      have hlen : (((tab room l (2 ^ l.length)).map toS).length : Int) = ((2 ^ l.length : Nat) : Int) := by rw [List.length_map, tab_length]
      have hboxi : boxOf room l (N + 1) s i = (B room l (s - 2 ^ i)).1 := by rw [boxOf, if_neg (by omega), if_pos hlast]
      have hbox : ∀ j : Nat, j ≠ i → boxOf room l (N + 1) s j = boxOf room l N (s - 2 ^ i) j := fun j hj => by
        rw [boxOf, if_neg (by omega), hlast, if_neg (by omega), Int.toNat_natCast]
      have hbits : ∀ j : Nat, ((s - 2 ^ i) / 2 ^ j) % 2 = if j = i then 0 else (s / 2 ^ j) % 2 := fun j => bit_sub hb
      have f2 : (toS (B room l s)).f2 = (i : Int) := hlast
      have f0 : (toS (B room l (s - 2 ^ i))).f0 = (B room l (s - 2 ^ i)).1 := rfl
      obtain ⟨o, ho, hoi, hok⟩ := ih (s - 2 ^ i) (if (B room l (s - 2 ^ i)).1 < cnt then x.set i (B room l (s - 2 ^ i)).1 else x) (by omega) (by omega) (by split <;> simp [hx])
      refine ⟨o, ho, fun j hj => ?_, fun k hk => ?_⟩
      · rw [hoi j hj, hbits j]
        by_cases hji : j = i
        · subst hji
          rw [if_neg (by rw [if_pos rfl]; omega), hboxi]
          by_cases hc : (B room l (s - 2 ^ j)).1 < cnt
          · rw [if_pos hc, if_pos ⟨hb, hc⟩, rd_set _ _ _ _ (by omega), if_pos rfl]
          · rw [if_neg hc, if_neg (fun k => hc k.2)]
        · rw [if_neg hji, hbox j hji]
          congr 1
          split
          · rw [rd_set _ _ _ _ (by omega), if_neg hji]
          · rfl
      · obtain ⟨k, rfl⟩ : ∃ k', k = k' + 1 := ⟨k - 1, by omega⟩
        have hok' := hok k (by omega)
        rw [remnant_Fill.l2, hrd s hs, f2, andNot_bit (by omega) (by omega) hb, hrd (s - 2 ^ i) (by omega), f0, hlen, if_pos (by omega), if_pos (by omega), if_pos (by omega), if_pos (by omega), if_pos (by omega), if_pos (by omega), Int.toNat_natCast]
        by_cases hc : (B room l (s - 2 ^ i)).1 < cnt
        · rw [if_pos hc] at hok'
          rw [if_pos hc, if_pos (by omega)]
          exact hok'
        · rw [if_neg hc] at hok'
          rw [if_neg hc]
          exact hok'
    · obtain rfl : s = 0 := by omega
      exact zero _ x hx

theorem all_bits (n i : Nat) (h : i < n) : ((2 ^ n - 1) / 2 ^ i) % 2 = 1 := by
  have := Nat.testBit_two_pow_sub_one n i
  rw [Nat.testBit_eq_decide_div_mod_eq] at this
  simpa [h] using this
/-- What Fill answers: boxes that are all full, and their number. -/
theorem fill_go {room : Int} {l : List Int} (hok : Hand.pieF room l = true) (hl : ∀ i : Nat, i < l.length → 1 ≤ rd l (i : Int) ∧ rd l (i : Int) ≤ 100) (hr : 1 ≤ room) (hr2 : room ≤ 100) (h12 : l.length ≤ 12) :
    ∃ o : List Int, o.length = l.length ∧ (∀ b ∈ o, b = -1 ∨ (0 ≤ b ∧ b < (B room l (2 ^ l.length - 1)).1)) ∧ (∀ b : Int, 0 ≤ b → b < (B room l (2 ^ l.length - 1)).1 → room ≤ inBox l o b (List.range l.length)) ∧
      ∀ k, 100000 ≤ k → remnant_Fill.f k room l = some (usedF o, (B room l (2 ^ l.length - 1)).1, 0) := by
  have hpow : 2 ^ l.length ≤ 4096 := Nat.le_trans (Nat.pow_le_pow_right (by decide) h12) (by decide)
  have hpos : 0 < 2 ^ l.length := Nat.pow_pos (by decide)
  have hl1 : ∀ i : Nat, i < l.length → 1 ≤ rd l (i : Int) := fun i hi => (hl i hi).1
  obtain ⟨o, ho, hoi, hk⟩ := l2_go hl hr h12 (B room l (2 ^ l.length - 1)).1 (2 ^ l.length) (2 ^ l.length - 1) (List.replicate l.length (-1)) (by omega) (by omega) (by simp)
  obtain ⟨i1, i2, i3, i4⟩ := held_inv room l hl1 hr (2 ^ l.length) (2 ^ l.length - 1) (by omega) (by omega)
  have hrep : ∀ i : Nat, i < l.length → rd (List.replicate l.length (-1 : Int)) (i : Int) = -1 := fun i hi => by
    unfold rd; rw [Int.toNat_natCast, List.getD_eq_getElem?_getD, List.getElem?_replicate, if_pos hi]; rfl
  have hval : ∀ i : Nat, i < l.length → rd o (i : Int) = if boxOf room l (2 ^ l.length) (2 ^ l.length - 1) i < (B room l (2 ^ l.length - 1)).1 then boxOf room l (2 ^ l.length) (2 ^ l.length - 1) i else -1 := fun i hi => by
    rw [hoi i hi, hrep i hi]
    by_cases hc : boxOf room l (2 ^ l.length) (2 ^ l.length - 1) i < (B room l (2 ^ l.length - 1)).1
    · rw [if_pos ⟨all_bits _ _ hi, hc⟩, if_pos hc]
    · rw [if_neg (fun k => hc k.2), if_neg hc]
  refine ⟨o, ho, fun b hb => ?_, fun b h0 h1 => ?_, fun k hk' => ?_⟩
  · obtain ⟨i, hi, rfl⟩ := List.getElem_of_mem hb
    have hi' : i < l.length := by omega
    have e : o[i] = rd o (i : Int) := by simp [rd, hi]
    rw [e, hval i hi']
    split
    · exact .inr ⟨(i4 i (all_bits _ _ hi') hi').1, by assumption⟩
    · exact .inl rfl
  · have h := i1 b h0 h1
    have e : inBox l o b (List.range l.length) = held room l (2 ^ l.length) (2 ^ l.length - 1) b (List.range l.length) := by
      unfold inBox held
      congr 1
      refine List.map_congr_left fun i hi => ?_
      have hi' : i < l.length := List.mem_range.1 hi
      rw [hval i hi']
      have hb := all_bits _ _ hi'
      by_cases hc : boxOf room l (2 ^ l.length) (2 ^ l.length - 1) i = b
      · rw [if_pos (by rw [if_pos (by omega)]; exact hc), if_pos ⟨hb, hc⟩]
      · rw [if_neg (fun k => by
          by_cases hlt : boxOf room l (2 ^ l.length) (2 ^ l.length - 1) i < (B room l (2 ^ l.length - 1)).1
          · rw [if_pos hlt] at k; exact hc k
          · rw [if_neg hlt] at k; omega), if_neg (fun k => hc k.2)]
    rw [e]; exact h
  · have hT : List.replicate (2 ^ l.length) z68 = (tab room l 1).map toS ++ List.replicate (2 ^ l.length - 1) z68 := by
      obtain ⟨m, hm⟩ : ∃ m, 2 ^ l.length = m + 1 := ⟨2 ^ l.length - 1, by omega⟩
      rw [hm, List.replicate_succ]
      rfl
    have hmul : (2 ^ l.length - 1) * (l.length + 2) ≤ 4095 * 14 := Nat.mul_le_mul (by omega) (by omega)
    obtain ⟨k, rfl⟩ : ∃ k', k = k' + (2 ^ l.length - 1) * (l.length + 2) := ⟨k - (2 ^ l.length - 1) * (l.length + 2), by omega⟩
    have h0 := l0_go hl hr hr2 h12 (2 ^ l.length - 1) 1 (by omega) (by decide) k (by omega)
    have hlen : (((tab room l (2 ^ l.length)).map toS).length : Int) = ((2 ^ l.length : Nat) : Int) := by rw [List.length_map, tab_length]
    unfold remnant_Fill.f remnant_arePieces.f
    rw [hok, Option.bind_some, if_pos rfl, shlF l.length h12, if_pos (by omega), Int.toNat_natCast, if_pos (by omega), hT]
    refine Eq.trans h0 ?_
    obtain ⟨k, rfl⟩ : ∃ k', k = k' + 1 := ⟨k - 1, by omega⟩
    have hrd : rd_T68 ((tab room l (2 ^ l.length)).map toS) ((2 ^ l.length - 1 : Nat) : Int) = toS (B room l (2 ^ l.length - 1)) := by
      have := rdT_lt room l (show 2 ^ l.length - 1 < 2 ^ l.length by omega) []
      rwa [List.append_nil] at this
    have hw : wrap64 (((2 ^ l.length : Nat) : Int) - 1) = ((2 ^ l.length - 1 : Nat) : Int) := by rw [wrap_in (by omega) (by omega)]; omega
    have hre : slices_Repeat_int_int.f [(-1 : Int)] (l.length : Int) = some (List.replicate l.length (-1)) := by
      unfold slices_Repeat_int_int.f
      rw [if_pos ⟨rfl, by omega, by omega⟩, Int.toNat_natCast]
      rfl
    have f0 : (toS (B room l (2 ^ l.length - 1))).f0 = (B room l (2 ^ l.length - 1)).1 := rfl
    rw [remnant_Fill.l0, hlen, if_neg (by omega), hre, Option.bind_some, hw, if_pos (by omega), if_pos (by omega), hrd, f0, hk k (by omega)]
    unfold remnant_used.f
    rw [if_pos (by omega), Option.bind_some]

end Go.Proofs.Ytoecbchfdgbliaa.Math
