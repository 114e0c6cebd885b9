-- Plain lemmas: the reference's number of full boxes is the table's.
import Derived.Test.YtoecbchfdgbliaaMathJ
import Derived.Test.YtoecbchfdgbliaaFx4
namespace Go.Proofs.Ytoecbchfdgbliaa.Math
open Go.RowKit Go.Proofs.Ytoecbchfdgbliaa.F Go.Proofs.YtoecbchfdgbliaaW.PrintWords Go.Proofs.YtoecbchfdgbliaaW.PrintLast Go.Proofs.YtoecbchfdgbliaaW.PrintMore
open Go.Proofs.Ytoecbchfdgbliaa.Hand hiding look
set_option linter.unusedVariables false

theorem tmodF (m : Nat) : Int.tmod (m : Int) 2 = ((m % 2 : Nat) : Int) := by
  rw [Int.tmod_eq_emod_of_nonneg (by omega)]; push_cast; rfl
def refC (room : Int) (l : List Int) (s m : Nat) : Int × Int := if (inner room l s m).1 < 0 then (0, 0) else fo (inner room l s m)
theorem rdI_lt (room : Int) (l : List Int) (f : Ent → Int) {s u : Nat} (h : u < s) (R : List Int) : rd ((tab room l s).map f ++ R) (u : Int) = f (B room l u) := by
  have hl : u < ((tab room l s).map f).length := by rw [List.length_map, tab_length]; exact h
  have h2 : u < (tab room l s).length := by rw [tab_length]; exact h
  unfold rd
  rw [Int.toNat_natCast, List.getD_eq_getElem?_getD, List.getElem?_append_left hl, List.getElem?_map, ← tab_get room l s u h, List.getD_eq_getElem?_getD, List.getElem?_eq_getElem h2]
  rfl
theorem rdI_at (room : Int) (l : List Int) (f : Ent → Int) (s : Nat) (c : Int) (R : List Int) : rd ((tab room l s).map f ++ c :: R) (s : Int) = c := by
  unfold rd
  rw [Int.toNat_natCast, List.getD_eq_getElem?_getD, List.getElem?_append_right (by rw [List.length_map, tab_length]; omega), List.length_map, tab_length, Nat.sub_self]
  rfl
theorem setI (room : Int) (l : List Int) (f : Ent → Int) (s : Nat) (c d : Int) (R : List Int) : ((tab room l s).map f ++ c :: R).set ((s : Int)).toNat d = (tab room l s).map f ++ d :: R := by
  rw [Int.toNat_natCast, List.set_append_right _ _ (by rw [List.length_map, tab_length]; omega), List.length_map, tab_length, Nat.sub_self]
  rfl
theorem lenI (room : Int) (l : List Int) (f : Ent → Int) (s m : Nat) (c : Int) : (((tab room l s).map f ++ c :: List.replicate m (0 : Int)).length : Int) = ((s + 1 + m : Nat) : Int) := by
  rw [List.length_append, List.length_map, tab_length, List.length_cons, List.length_replicate]; push_cast; omega
def eF (e : Ent) : Int := e.1
def eO (e : Ent) : Int := e.2.1
theorem refC_step {room : Int} {l : List Int} (hl : ∀ i : Nat, i < l.length → 1 ≤ rd l (i : Int)) (hr : 1 ≤ room) {s : Nat} (hs : s < 2 ^ l.length) {j : Nat} (hj : j < l.length) :
    refC room l s (j + 1) = if (s / 2 ^ j) % 2 = 1 then (if Better (nxt room (fo (B room l (s - 2 ^ j))) (rd l (j : Int))) (refC room l s j) then nxt room (fo (B room l (s - 2 ^ j))) (rd l (j : Int)) else refC room l s j) else refC room l s j := by
  have hT : ∀ u, u < s → 0 ≤ (B room l u).1 ∧ 0 ≤ (B room l u).2.1 := fun u hu => (B_last room l hl hr (u + 1) u (by omega) (by omega)).1
  have hlj := hl j hj
  unfold refC
  rw [inner_succ, tryOne]
  by_cases hb : (s / 2 ^ j) % 2 = 1
  · have h2 := two_le hb
    have hp : 0 < 2 ^ j := Nat.pow_pos (by decide)
    have hu := hT (s - 2 ^ j) (by omega)
    have hx : 0 ≤ (nxt room (fo (B room l (s - 2 ^ j))) (rd l (j : Int))).1 ∧ ((nxt room (fo (B room l (s - 2 ^ j))) (rd l (j : Int))).1 > 0 ∨ (nxt room (fo (B room l (s - 2 ^ j))) (rd l (j : Int))).2 > 0) := by
      unfold nxt fo; split <;> dsimp only <;> omega
    generalize nxt room (fo (B room l (s - 2 ^ j))) (rd l (j : Int)) = x at hx
    rw [if_pos hb, if_pos hb]
    rcases inner_inv room l s hT j (by omega) with ⟨_, e⟩ | ⟨i, hi, hbi, e⟩
    · have hn : (inner room l s j).1 < 0 := by rw [e]; decide
      have hbt : Better x (fo (inner room l s j)) := .inl (by rw [e]; show x.1 > -1; omega)
      have hbt0 : Better x (0, 0) := by unfold Better; dsimp only; omega
      rw [if_pos hbt, if_pos hn, if_pos hbt0, if_neg (show ¬ x.1 < 0 by omega)]
      rfl
    · have hn : ¬ (inner room l s j).1 < 0 := by
        rw [e]
        have h3 := two_le hbi
        have hp3 : 0 < 2 ^ i := Nat.pow_pos (by decide)
        have := hT (s - 2 ^ i) (by omega)
        unfold nxt fo; split <;> dsimp only <;> omega
      rw [if_neg hn]
      by_cases hbt : Better x (fo (inner room l s j))
      · rw [if_pos hbt, if_pos hbt, if_neg (show ¬ x.1 < 0 by omega)]
        rfl
      · rw [if_neg hbt, if_neg hbt, if_neg hn]
  · rw [if_neg hb, if_neg hb]
theorem refC_end {room : Int} {l : List Int} (hl : ∀ i : Nat, i < l.length → 1 ≤ rd l (i : Int)) (hr : 1 ≤ room) {s : Nat} (h0 : 0 < s) (hs : s < 2 ^ l.length) : refC room l s l.length = fo (B room l s) := by
  have h := (B_last room l hl hr (s + 1) s (by omega) hs).1.1
  unfold refC
  rw [← B_eq room l h0, if_neg (by omega)]
/-- One set's pieces, in the reference. -/
theorem r1_go {room : Int} {l : List Int} (hl : ∀ i : Nat, i < l.length → 1 ≤ rd l (i : Int) ∧ rd l (i : Int) ≤ 100) (hr : 1 ≤ room) (hr2 : room ≤ 100) (h12 : l.length ≤ 12) {s : Nat} (h0 : 0 < s) (hs : s < 2 ^ l.length) (m' : Nat) (hm' : s + 1 + m' = 2 ^ l.length) :
    ∀ (m j : Nat), j + m = l.length → ∀ k, galloonref09_Fill.l1 (k + m + 1) room l ((tab room l s).map eF ++ (refC room l s j).1 :: List.replicate m' 0) ((tab room l s).map eO ++ (refC room l s j).2 :: List.replicate m' 0) (s : Int) (j : Int) =
      galloonref09_Fill.l0 k room l ((tab room l s).map eF ++ (refC room l s l.length).1 :: List.replicate m' 0) ((tab room l s).map eO ++ (refC room l s l.length).2 :: List.replicate m' 0) ((s + 1 : Nat) : Int) := by
  have hpow : 2 ^ l.length ≤ 4096 := Nat.le_trans (Nat.pow_le_pow_right (by decide) h12) (by decide)
  have hl1 : ∀ i : Nat, i < l.length → 1 ≤ rd l (i : Int) := fun i hi => (hl i hi).1
  intro m
  induction m with
  | zero =>
    intro j hj k
    rw [Nat.add_zero, galloonref09_Fill.l1, if_neg (by omega), nextF (by omega), show j = l.length by omega]
  | succ m ih =>
    intro j hj k
    have ih1 := ih (j + 1) (by omega) k
    rw [refC_step hl1 hr hs (by omega)] at ih1
    rw [show k + (m + 1) + 1 = (k + m + 1) + 1 by omega, galloonref09_Fill.l1, if_pos (by omega), if_pos (by omega), shrF s j (by omega), tmodF, nextF (by omega)]
    by_cases hb : (s / 2 ^ j) % 2 = 1
    · have h2 := two_le hb
      have hp : 0 < 2 ^ j := Nat.pow_pos (by decide)
      have hu : s - 2 ^ j < s := by omega
      have hlF := lenI room l eF s m' (refC room l s j).1
      have hlO := lenI room l eO s m' (refC room l s j).2
      have hsm := B_small room l hl1 hr (s + 1) (s - 2 ^ j) (by omega) (by omega)
      have hnn := (B_last room l hl1 hr (s + 1) (s - 2 ^ j) (by omega) (by omega)).1
      have hlj := hl j (by omega)
      have hw : wrap64 ((s : Int) - ((2 ^ j : Nat) : Int)) = ((s - 2 ^ j : Nat) : Int) := by rw [wrap_in (by omega) (by omega)]; omega
      rw [if_pos hb] at ih1
      have e0 : eF (B room l (s - 2 ^ j)) = (B room l (s - 2 ^ j)).1 := rfl
      have e1 : eO (B room l (s - 2 ^ j)) = (B room l (s - 2 ^ j)).2.1 := rfl
      have hfo : fo (B room l (s - 2 ^ j)) = ((B room l (s - 2 ^ j)).1, (B room l (s - 2 ^ j)).2.1) := rfl
      rw [if_neg (by omega), shlF j (by omega), hw, rdI_lt room l eF hu, rdI_lt room l eO hu, rdI_at, rdI_at, e0, e1, if_pos (by omega), if_pos (by omega), if_pos (by omega), wrap_in (n := (B room l (s - 2 ^ j)).2.1 + rd l (j : Int)) (by omega) (by omega), wrap_in (n := (B room l (s - 2 ^ j)).1 + 1) (by omega) (by omega), setI, setI, setI, setI]
      rw [hfo] at ih1
      generalize refC room l s j = p at ih1 hlF hlO ⊢
      by_cases hc : (B room l (s - 2 ^ j)).2.1 + rd l (j : Int) ≥ room
      · have hn : nxt room ((B room l (s - 2 ^ j)).1, (B room l (s - 2 ^ j)).2.1) (rd l (j : Int)) = ((B room l (s - 2 ^ j)).1 + 1, 0) := if_pos hc
        rw [hn] at ih1
        rw [if_pos hc, if_pos (by omega), if_pos (by omega)]
        by_cases hg : (B room l (s - 2 ^ j)).1 + 1 > p.1
        · rw [if_pos (show Better ((B room l (s - 2 ^ j)).1 + 1, 0) p from .inl hg)] at ih1
          rw [if_pos hg, if_pos (by omega)]
          exact ih1
        · rw [if_neg hg]
          by_cases he : (B room l (s - 2 ^ j)).1 + 1 = p.1
          · rw [if_pos he, if_pos (by omega)]
            by_cases hg2 : 0 > p.2
            · rw [if_pos (show Better ((B room l (s - 2 ^ j)).1 + 1, 0) p from .inr ⟨he, hg2⟩)] at ih1
              rw [if_pos hg2]
              exact ih1
            · rw [if_neg (show ¬ Better ((B room l (s - 2 ^ j)).1 + 1, 0) p from fun k => k.elim hg (fun k => hg2 k.2))] at ih1
              rw [if_neg hg2]
              exact ih1
          · rw [if_neg (show ¬ Better ((B room l (s - 2 ^ j)).1 + 1, 0) p from fun k => k.elim hg (fun k => he k.1))] at ih1
            rw [if_neg he]
            exact ih1
      · have hn : nxt room ((B room l (s - 2 ^ j)).1, (B room l (s - 2 ^ j)).2.1) (rd l (j : Int)) = ((B room l (s - 2 ^ j)).1, (B room l (s - 2 ^ j)).2.1 + rd l (j : Int)) := if_neg hc
        rw [hn] at ih1
        rw [if_neg hc, if_pos (by omega), if_pos (by omega)]
        by_cases hg : (B room l (s - 2 ^ j)).1 > p.1
        · rw [if_pos (show Better ((B room l (s - 2 ^ j)).1, (B room l (s - 2 ^ j)).2.1 + rd l (j : Int)) p from .inl hg)] at ih1
          rw [if_pos hg, if_pos (by omega)]
          exact ih1
        · rw [if_neg hg]
          by_cases he : (B room l (s - 2 ^ j)).1 = p.1
          · rw [if_pos he, if_pos (by omega)]
            by_cases hg2 : (B room l (s - 2 ^ j)).2.1 + rd l (j : Int) > p.2
            · rw [if_pos (show Better ((B room l (s - 2 ^ j)).1, (B room l (s - 2 ^ j)).2.1 + rd l (j : Int)) p from .inr ⟨he, hg2⟩)] at ih1
              rw [if_pos hg2]
              exact ih1
            · rw [if_neg (show ¬ Better ((B room l (s - 2 ^ j)).1, (B room l (s - 2 ^ j)).2.1 + rd l (j : Int)) p from fun k => k.elim hg (fun k => hg2 k.2))] at ih1
              rw [if_neg hg2]
              exact ih1
          · rw [if_neg (show ¬ Better ((B room l (s - 2 ^ j)).1, (B room l (s - 2 ^ j)).2.1 + rd l (j : Int)) p from fun k => k.elim hg (fun k => he k.1))] at ih1
            rw [if_neg he]
            exact ih1
    · rw [if_pos (by omega)]
      rw [if_neg hb] at ih1
      exact ih1
theorem r0_go {room : Int} {l : List Int} (hl : ∀ i : Nat, i < l.length → 1 ≤ rd l (i : Int) ∧ rd l (i : Int) ≤ 100) (hr : 1 ≤ room) (hr2 : room ≤ 100) (h12 : l.length ≤ 12) :
    ∀ (t s : Nat), s + t = 2 ^ l.length → 0 < s → ∀ k, galloonref09_Fill.l0 (k + t * (l.length + 2)) room l ((tab room l s).map eF ++ List.replicate t 0) ((tab room l s).map eO ++ List.replicate t 0) (s : Int) = galloonref09_Fill.l0 k room l ((tab room l (2 ^ l.length)).map eF) ((tab room l (2 ^ l.length)).map eO) ((2 ^ l.length : Nat) : Int) := by
  have hl1 : ∀ i : Nat, i < l.length → 1 ≤ rd l (i : Int) := fun i hi => (hl i hi).1
  intro t
  induction t with
  | zero =>
    intro s hs h0 k
    rw [Nat.zero_mul, Nat.add_zero, List.replicate_zero, List.append_nil, List.append_nil, show s = 2 ^ l.length by omega]
  | succ t ih =>
    intro s hs h0 k
    have ih1 := ih (s + 1) (by omega) (by omega) k
    rw [tab_succ room l h0, List.map_append, List.map_cons, List.map_nil, List.append_assoc, List.singleton_append, List.map_append, List.map_cons, List.map_nil, List.append_assoc, List.singleton_append] at ih1
    have he := refC_end hl1 hr h0 (show s < 2 ^ l.length by omega)
    rw [B_eq room l h0] at he
    have r := r1_go hl hr hr2 h12 h0 (show s < 2 ^ l.length by omega) t (by omega) l.length 0 (by omega) (k + t * (l.length + 2))
    have hc0 : refC room l s 0 = (0, 0) := rfl
    rw [he, hc0] at r
    rw [show k + (t + 1) * (l.length + 2) = (k + t * (l.length + 2)) + l.length + 1 + 1 by rw [Nat.succ_mul]; omega, List.replicate_succ, galloonref09_Fill.l0, shlF l.length h12, if_pos (by omega)]
    exact r.trans ih1
/-- The reference's answer. -/
theorem fill_ref {room : Int} {l : List Int} (hl : ∀ i : Nat, i < l.length → 1 ≤ rd l (i : Int) ∧ rd l (i : Int) ≤ 100) (hr : 1 ≤ room) (hr2 : room ≤ 100) (h12 : l.length ≤ 12) (k : Nat) (hk : 100000 ≤ k) : galloonref09_Fill.f k room l = some (B room l (2 ^ l.length - 1)).1 := by
  have hpow : 2 ^ l.length ≤ 4096 := Nat.le_trans (Nat.pow_le_pow_right (by decide) h12) (by decide)
  have hpos : 0 < 2 ^ l.length := Nat.pow_pos (by decide)
  have hmul : (2 ^ l.length - 1) * (l.length + 2) ≤ 4095 * 14 := Nat.mul_le_mul (by omega) (by omega)
  obtain ⟨k, rfl⟩ : ∃ k', k = k' + 1 + (2 ^ l.length - 1) * (l.length + 2) := ⟨k - (2 ^ l.length - 1) * (l.length + 2) - 1, by omega⟩
  have h0 := r0_go hl hr hr2 h12 (2 ^ l.length - 1) 1 (by omega) (by decide) (k + 1)
  have hT : ∀ f : Ent → Int, f (0, 0, 0) = 0 → List.replicate (2 ^ l.length) (0 : Int) = (tab room l 1).map f ++ List.replicate (2 ^ l.length - 1) 0 := fun f hf => by
    obtain ⟨m, hm⟩ : ∃ m, 2 ^ l.length = m + 1 := ⟨2 ^ l.length - 1, by omega⟩
    rw [hm, List.replicate_succ]
    show _ = f (0, 0, 0) :: List.replicate m 0
    rw [hf]
  have hw : wrap64 (((2 ^ l.length : Nat) : Int) - 1) = ((2 ^ l.length - 1 : Nat) : Int) := by rw [wrap_in (by omega) (by omega)]; omega
  have hrd := rdI_lt room l eF (show 2 ^ l.length - 1 < 2 ^ l.length by omega) []
  rw [List.append_nil] at hrd
  have hlen : (((tab room l (2 ^ l.length)).map eF).length : Int) = ((2 ^ l.length : Nat) : Int) := by rw [List.length_map, tab_length]
  unfold galloonref09_Fill.f
  rw [shlF l.length h12, if_pos (by omega), Int.toNat_natCast, if_pos (by omega)]
  have e1 := hT eF rfl
  have e2 := hT eO rfl
  have h1 : galloonref09_Fill.l0 (k + 1 + (2 ^ l.length - 1) * (l.length + 2)) room l (List.replicate (2 ^ l.length) 0) (List.replicate (2 ^ l.length) 0) 1 = galloonref09_Fill.l0 (k + 1) room l ((tab room l (2 ^ l.length)).map eF) ((tab room l (2 ^ l.length)).map eO) ((2 ^ l.length : Nat) : Int) := by
    refine Eq.trans ?_ h0
    rw [← e1, ← e2]
    rfl
  rw [h1, galloonref09_Fill.l0, shlF l.length h12, if_neg (by omega), hw, if_pos (by omega), hlen, if_pos (by omega), hrd]
  rfl

end Go.Proofs.Ytoecbchfdgbliaa.Math
