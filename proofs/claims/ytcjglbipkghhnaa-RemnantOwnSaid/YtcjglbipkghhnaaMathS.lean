-- Plain lemmas over the names of the B print: weights, the greatest one.
import Derived.Test.YtcjglbipkghhnaaMathV
import Derived.Test.YtcjglbipkghhnaaBx1
namespace Go.Proofs.Ytcjglbipkghhnaa.Math
open Go.RowKit Go.Proofs.Ytcjglbipkghhnaa.B Go.Proofs.YtcjglbipkghhnaaW.PrintWords Go.Proofs.YtcjglbipkghhnaaW.PrintLast Go.Proofs.YtcjglbipkghhnaaW.PrintMore
open Go.Proofs.Ytcjglbipkghhnaa.Hand hiding wrap_in look
set_option linter.unusedVariables false

theorem wrap_in {n : Int} (h0 : -9223372036854775808 ≤ n) (h1 : n ≤ 9223372036854775807) : wrap64 n = n := by
  unfold wrap64
  omega
theorem next {j : Nat} (h : j ≤ 1000000) : wrap64 ((j : Int) + 1) = ((j + 1 : Nat) : Int) := by
  rw [wrap_in (by omega) (by omega)]; push_cast; rfl
theorem rd_mem {l : List Int} {j : Nat} (h : j < l.length) : rd l (j : Int) ∈ l := by
  simp only [rd, Int.toNat_natCast, List.getD_eq_getElem?_getD, List.getElem?_eq_getElem h, Option.getD_some]
  exact List.getElem_mem h
theorem up {α : Type} {g : Nat → Option α} (h : ∀ k, LeO (g k) (g (k + 1))) {k : Nat} {r : α} (hr : g k = some r) {k' : Nat} (hk : k ≤ k') : g k' = some r := at_rounds h hk hr

/-- The sizes, by their places. -/
abbrev pz (l : List Int) : Nat → Int := fun i => rd l (i : Int)
theorem tot_bound (f : Nat → Int) (c : Int) : ∀ n, (∀ i, i < n → 0 ≤ f i ∧ f i ≤ c) → 0 ≤ tot f n ∧ tot f n ≤ c * n
  | 0, _ => by unfold tot; simp
  | n + 1, h => by
    have h1 := tot_bound f c n fun i hi => h i (by omega)
    have h2 := h n (by omega)
    rw [tot_succ]
    have : c * ((n + 1 : Nat) : Int) = c * n + c := by rw [Int.natCast_add, Int.mul_add]; simp
    omega
theorem big01 (room a q : Int) : 0 ≤ bigW room a q ∧ bigW room a q ≤ 1 := by
  unfold bigW; split
  · omega
  · split <;> omega
theorem wgt_nonneg (room a : Int) (p : Nat → Int) (n : Nat) : 0 ≤ wgt room a p n :=
  Int.le_trans (tot_bound _ 1 n fun i _ => big01 room a (p i)).1 (le_mx1 _ _)

theorem weigh_end {room C D G : Int} (h1 : 1 ≤ room) (h2 : room ≤ 100) (hC : 0 ≤ C ∧ C ≤ 12) (hD : -1200 ≤ D ∧ D ≤ 1200) (hG : room * C + D = G) :
    wrap64 (C + wrap64 (Int.tdiv (wrap64 (wrap64 (mx 0 D + room) - 1)) room)) = mx C ((G + room - 1) / room) := by
  have hm : 0 ≤ mx 0 D ∧ mx 0 D ≤ 1200 := by unfold mx; split <;> omega
  rw [wrap_in (n := mx 0 D + room) (by omega) (by omega), wrap_in (n := mx 0 D + room - 1) (by omega) (by omega), Int.tdiv_eq_ediv_of_nonneg (by omega)]
  have e : (G + room - 1) / room = C + (D + room - 1) / room := by
    rw [← hG, show room * C + D + room - 1 = (D + room - 1) + room * C by omega, Int.add_mul_ediv_left _ _ (by omega)]
    omega
  have q1 : 0 ≤ (mx 0 D + room - 1) / room := Int.ediv_nonneg (by omega) (by omega)
  have q2 : (mx 0 D + room - 1) / room ≤ mx 0 D + room - 1 := Int.ediv_le_self _ (by omega)
  rw [wrap_in (n := (mx 0 D + room - 1) / room) (by omega) (by omega), wrap_in (by omega) (by omega), e]
  by_cases hd : 0 < D
  · have e2 : mx 0 D = D := by unfold mx; split <;> omega
    rw [e2] at q1 ⊢
    unfold mx; split <;> omega
  · have e2 : mx 0 D = 0 := by unfold mx; split <;> omega
    have e3 : ((0 : Int) + room - 1) / room = 0 := Int.ediv_eq_zero_of_lt (by omega) (by omega)
    have e4 : (D + room - 1) / room < 1 := Int.ediv_lt_of_lt_mul (by omega) (by omega)
    rw [e2, e3]
    unfold mx; split <;> omega
theorem weigh_go {room a : Int} (h1 : 1 ≤ room) (h2 : room ≤ 100) (ha : 0 ≤ a) (ha2 : 2 * a ≤ room) (l : List Int) (h12 : l.length ≤ 12) (hp : ∀ i, i < l.length → 1 ≤ pz l i ∧ pz l i ≤ room) : ∀ (m j : Nat) (x7 x8 x9 x10 : Int), j + m = l.length →
    0 ≤ x7 → 0 ≤ x8 → x7 + x8 ≤ j → 0 ≤ x9 → x9 ≤ 100 * j → 0 ≤ x10 → x10 ≤ 100 * j → x7 + x8 = tot (fun i => bigW room a (pz l i)) j → room * (x7 + x8) + (x10 - x9) = tot (fun i => gW room a (pz l i)) j →
    ∀ k, m < k → remnant_weigh.l0 k room a x7 x8 x9 x10 l (l.length : Int) (j : Int) = some (wgt room a (pz l) l.length) := by
  intro m
  induction m with
  | zero =>
    intro j x7 x8 x9 x10 hj p7 p8 p78 p9 q9 p10 q10 hC hT k hk
    obtain ⟨k, rfl⟩ : ∃ k', k = k' + 1 := ⟨k - 1, by omega⟩
    rw [remnant_weigh.l0, if_neg (by omega), if_neg (by omega), wrap_in (n := x10 - x9) (by omega) (by omega), wrap_in (n := x7 + x8) (by omega) (by omega), weigh_end h1 h2 (by omega) (by omega) hT]
    rw [show j = l.length by omega] at hC
    unfold wgt
    rw [hC, show j = l.length by omega]
  | succ m ih =>
    intro j x7 x8 x9 x10 hj p7 p8 p78 p9 q9 p10 q10 hC hT k hk
    obtain ⟨k, rfl⟩ : ∃ k', k = k' + 1 := ⟨k - 1, by omega⟩
    have hq := hp j (by omega)
    have t1 := tot_succ (fun i => bigW room a (pz l i)) j
    have t2 := tot_succ (fun i => gW room a (pz l i)) j
    dsimp only [pz] at hq t1 t2
    have hmul : ∀ c : Int, room * (c + 1) = room * c + room := fun c => by rw [Int.mul_add, Int.mul_one]
    rw [remnant_weigh.l0, if_pos (by omega), if_pos (by omega), if_pos (by omega), wrap_in (n := room - a) (by omega) (by omega), wrap_in (n := 2 * rd l (j : Int)) (by omega) (by omega), next (by omega)]
    have hmx : rd l (j : Int) ≥ mx a 1 ↔ rd l (j : Int) ≥ a := by unfold mx; split <;> omega
    unfold bigW at t1
    unfold gW at t2
    by_cases c1 : rd l (j : Int) > room - a
    · rw [if_pos c1] at t1 t2
      rw [if_pos c1, wrap_in (by omega) (by omega)]
      have := hmul (x7 + x8)
      refine ih (j + 1) _ _ _ _ (by omega) (by omega) (by omega) (by push_cast; omega) (by omega) (by push_cast; omega) (by omega) (by push_cast; omega) ?_ ?_ k (by omega)
      · show x7 + 1 + x8 = tot (fun i => bigW room a (rd l (i : Int))) (j + 1)
        have hC' : x7 + x8 = tot (fun i => bigW room a (rd l (i : Int))) j := hC
        unfold bigW at hC' ⊢; omega
      · show room * (x7 + 1 + x8) + (x10 - x9) = tot (fun i => gW room a (rd l (i : Int))) (j + 1)
        have hT' : room * (x7 + x8) + (x10 - x9) = tot (fun i => gW room a (rd l (i : Int))) j := hT
        rw [show x7 + 1 + x8 = x7 + x8 + 1 by omega]
        unfold gW at hT' ⊢; omega
    · rw [if_neg c1] at t1 t2
      rw [if_neg c1]
      by_cases c2 : 2 * rd l (j : Int) > room
      · rw [if_pos c2] at t1 t2
        rw [if_pos c2, wrap_in (n := x8 + 1) (by omega) (by omega), wrap_in (n := room - rd l (j : Int)) (by omega) (by omega), wrap_in (n := x9 + (room - rd l (j : Int))) (by omega) (by omega)]
        have := hmul (x7 + x8)
        refine ih (j + 1) _ _ _ _ (by omega) (by omega) (by omega) (by push_cast; omega) (by omega) (by push_cast; omega) (by omega) (by push_cast; omega) ?_ ?_ k (by omega)
        · show x7 + (x8 + 1) = tot (fun i => bigW room a (rd l (i : Int))) (j + 1)
          have hC' : x7 + x8 = tot (fun i => bigW room a (rd l (i : Int))) j := hC
          unfold bigW at hC' ⊢; omega
        · show room * (x7 + (x8 + 1)) + (x10 - (x9 + (room - rd l (j : Int)))) = tot (fun i => gW room a (rd l (i : Int))) (j + 1)
          have hT' : room * (x7 + x8) + (x10 - x9) = tot (fun i => gW room a (rd l (i : Int))) j := hT
          rw [show x7 + (x8 + 1) = x7 + x8 + 1 by omega]
          unfold gW at hT' ⊢; omega
      · rw [if_neg c2] at t1 t2
        rw [if_neg c2]
        by_cases c3 : rd l (j : Int) ≥ a
        · rw [if_pos c3] at t2
          rw [if_pos (hmx.2 c3), wrap_in (n := x10 + rd l (j : Int)) (by omega) (by omega)]
          refine ih (j + 1) _ _ _ _ (by omega) (by omega) (by omega) (by push_cast; omega) (by omega) (by push_cast; omega) (by omega) (by push_cast; omega) ?_ ?_ k (by omega)
          · show x7 + x8 = tot (fun i => bigW room a (rd l (i : Int))) (j + 1)
            have hC' : x7 + x8 = tot (fun i => bigW room a (rd l (i : Int))) j := hC
            unfold bigW at hC' ⊢; omega
          · show room * (x7 + x8) + (x10 + rd l (j : Int) - x9) = tot (fun i => gW room a (rd l (i : Int))) (j + 1)
            have hT' : room * (x7 + x8) + (x10 - x9) = tot (fun i => gW room a (rd l (i : Int))) j := hT
            unfold gW at hT' ⊢; omega
        · rw [if_neg c3] at t2
          rw [if_neg (fun k => c3 (hmx.1 k))]
          refine ih (j + 1) _ _ _ _ (by omega) (by omega) (by omega) (by push_cast; omega) (by omega) (by push_cast; omega) (by omega) (by push_cast; omega) ?_ ?_ k (by omega)
          · show x7 + x8 = tot (fun i => bigW room a (rd l (i : Int))) (j + 1)
            have hC' : x7 + x8 = tot (fun i => bigW room a (rd l (i : Int))) j := hC
            unfold bigW at hC' ⊢; omega
          · show room * (x7 + x8) + (x10 - x9) = tot (fun i => gW room a (rd l (i : Int))) (j + 1)
            have hT' : room * (x7 + x8) + (x10 - x9) = tot (fun i => gW room a (rd l (i : Int))) j := hT
            unfold gW at hT' ⊢; omega
theorem weigh_val {room a : Int} (h1 : 1 ≤ room) (h2 : room ≤ 100) (ha : 0 ≤ a) (ha2 : 2 * a ≤ room) (l : List Int) (h12 : l.length ≤ 12) (hp : ∀ i, i < l.length → 1 ≤ pz l i ∧ pz l i ≤ room) (k : Nat) (hk : 13 ≤ k) : remnant_weigh.f k room l a = some (wgt room a (pz l) l.length) := by
  have h := weigh_go h1 h2 ha ha2 l h12 hp l.length 0 0 0 0 0 (by omega) (by omega) (by omega) (by omega) (by omega) (by omega) (by omega) (by omega) rfl (by unfold tot; simp) k (by omega)
  exact h
/-- The greatest weight. -/
theorem weight_go {room : Int} (h1 : 1 ≤ room) (h2 : room ≤ 100) (l : List Int) (h12 : l.length ≤ 12) (hp : ∀ i, i < l.length → 1 ≤ pz l i ∧ pz l i ≤ room) : ∀ (m j : Nat) (x7 x8 : Int), (j : Int) + m = room / 2 + 1 →
    (j = 0 ∧ x7 = -1 ∨ (0 ≤ x8 ∧ 2 * x8 ≤ room ∧ x7 = wgt room x8 (pz l) l.length ∧ ∀ a : Int, 0 ≤ a → a < j → wgt room a (pz l) l.length ≤ x7)) →
    ∃ w at_ : Int, (0 ≤ at_ ∧ 2 * at_ ≤ room ∧ w = wgt room at_ (pz l) l.length ∧ ∀ a : Int, 0 ≤ a → 2 * a ≤ room → wgt room a (pz l) l.length ≤ w) ∧ ∀ k, m + 13 < k → remnant_Weight.l0 k room l x7 x8 (room / 2 + 1) (j : Int) = some (w, at_, 0) := by
  intro m
  induction m with
  | zero =>
    intro j x7 x8 hj hI
    rcases hI with ⟨rfl, _⟩ | ⟨i1, i2, i3, i4⟩
    · omega
    · refine ⟨x7, x8, ⟨i1, i2, i3, fun a ha ha2 => i4 a ha (by omega)⟩, fun k hk => ?_⟩
      obtain ⟨k, rfl⟩ : ∃ k', k = k' + 1 := ⟨k - 1, by omega⟩
      rw [remnant_Weight.l0, if_neg (by omega)]
  | succ m ih =>
    intro j x7 x8 hj hI
    have hw := fun k hk => weigh_val h1 h2 (a := (j : Int)) (by omega) (by omega) l h12 hp k hk
    have hn := wgt_nonneg room (j : Int) (pz l) l.length
    obtain ⟨w, at_, hP, hk⟩ := ih (j + 1) (if wgt room (j : Int) (pz l) l.length > x7 then wgt room (j : Int) (pz l) l.length else x7) (if wgt room (j : Int) (pz l) l.length > x7 then (j : Int) else x8) (by push_cast; omega) (by
      right
      rcases hI with ⟨rfl, rfl⟩ | ⟨i1, i2, i3, i4⟩
      · rw [if_pos (by omega), if_pos (by omega)]
        exact ⟨by omega, by omega, rfl, fun a h0 h1 => by rw [show a = ((0 : Nat) : Int) by omega]; exact Int.le_refl _⟩
      · by_cases c : wgt room (j : Int) (pz l) l.length > x7
        · rw [if_pos c, if_pos c]
          refine ⟨by omega, by omega, rfl, fun a h0 h1 => ?_⟩
          by_cases e : a = (j : Int)
          · rw [e]; exact Int.le_refl _
          · have := i4 a h0 (by omega); omega
        · rw [if_neg c, if_neg c]
          refine ⟨i1, i2, i3, fun a h0 h1 => ?_⟩
          by_cases e : a = (j : Int)
          · rw [e]; omega
          · exact i4 a h0 (by omega))
    refine ⟨w, at_, hP, fun k hk' => ?_⟩
    obtain ⟨k, rfl⟩ : ∃ k', k = k' + 1 := ⟨k - 1, by omega⟩
    have h := hk k (by omega)
    rw [remnant_Weight.l0, if_pos (by omega), hw k (by omega), Option.bind_some, next (by omega)]
    split at h
    · rename_i c; rw [if_pos c]; exact h
    · rename_i c; rw [if_neg c]; exact h
theorem half (room : Int) (h1 : 1 ≤ room) (h100 : room ≤ 100) : wrap64 (Int.tdiv room 2) = room / 2 := by
  rw [Int.tdiv_eq_ediv_of_nonneg (by omega), wrap_in (by omega) (by omega)]

end Go.Proofs.Ytcjglbipkghhnaa.Math
