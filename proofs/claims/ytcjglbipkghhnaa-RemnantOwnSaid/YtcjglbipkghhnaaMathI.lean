-- Plain lemmas: the table of what each set of pieces fills, and the boxes that it tells.
import Derived.Test.YtcjglbipkghhnaaMathH
namespace Go.Proofs.Ytcjglbipkghhnaa.Math
open Go.RowKit Go.Proofs.YtcjglbipkghhnaaW.PrintWords Go.Proofs.YtcjglbipkghhnaaW.PrintLast Go.Proofs.YtcjglbipkghhnaaW.PrintMore
set_option linter.unusedVariables false

abbrev Ent := Int × Int × Int
def nxt (room : Int) (fo : Int × Int) (sz : Int) : Int × Int := if fo.2 + sz ≥ room then (fo.1 + 1, 0) else (fo.1, fo.2 + sz)
def Better (a b : Int × Int) : Prop := a.1 > b.1 ∨ (a.1 = b.1 ∧ a.2 > b.2)
instance (a b : Int × Int) : Decidable (Better a b) := inferInstanceAs (Decidable (_ ∨ _))
def fo (e : Ent) : Int × Int := (e.1, e.2.1)
/-- One piece more of a set is tried as the last one. -/
def tryOne (room : Int) (l : List Int) (T : Nat → Ent) (s : Nat) (cur : Ent) (i : Nat) : Ent :=
  if (s / 2 ^ i) % 2 = 1 then (if Better (nxt room (fo (T (s - 2 ^ i))) (rd l (i : Int))) (fo cur) then ((nxt room (fo (T (s - 2 ^ i))) (rd l (i : Int))).1, (nxt room (fo (T (s - 2 ^ i))) (rd l (i : Int))).2, (i : Int)) else cur) else cur
def tab (room : Int) (l : List Int) : Nat → List Ent
  | 0 => []
  | s + 1 => tab room l s ++ [if s = 0 then (0, 0, 0) else (List.range l.length).foldl (tryOne room l (fun u => (tab room l s).getD u (0, 0, 0)) s) (-1, 0, 0)]
theorem tab_length (room : Int) (l : List Int) : ∀ s, (tab room l s).length = s
  | 0 => rfl
  | s + 1 => by rw [tab, List.length_append, tab_length room l s]; rfl
def B (room : Int) (l : List Int) (s : Nat) : Ent := (tab room l (s + 1)).getD s (0, 0, 0)
theorem tab_get (room : Int) (l : List Int) : ∀ (s u : Nat), u < s → (tab room l s).getD u (0, 0, 0) = B room l u
  | 0, _, h => by omega
  | s + 1, u, h => by
    by_cases hu : u = s
    · subst hu; rfl
    · have hlt : u < (tab room l s).length := by rw [tab_length]; omega
      rw [tab, List.getD_eq_getElem?_getD, List.getElem?_append_left hlt, ← List.getD_eq_getElem?_getD]
      exact tab_get room l s u (by omega)
theorem two_le {s i : Nat} (h : (s / 2 ^ i) % 2 = 1) : 2 ^ i ≤ s := by
  rcases Nat.lt_or_ge s (2 ^ i) with hlt | hge
  · rw [Nat.div_eq_of_lt hlt] at h; cases h
  · exact hge
theorem try_same (room : Int) (l : List Int) (s : Nat) (cur : Ent) (i : Nat) : tryOne room l (fun u => (tab room l s).getD u (0, 0, 0)) s cur i = tryOne room l (B room l) s cur i := by
  unfold tryOne
  by_cases h : (s / 2 ^ i) % 2 = 1
  · have := two_le h
    have hp : 0 < 2 ^ i := Nat.pow_pos (by decide)
    have e := tab_get room l s (s - 2 ^ i) (by omega)
    rw [if_pos h, if_pos h]
    simp only [e]
  · rw [if_neg h, if_neg h]
theorem foldl_ext {σ β : Type} {f g : σ → β → σ} : ∀ (xs : List β) (s : σ), (∀ s, ∀ x ∈ xs, f s x = g s x) → xs.foldl f s = xs.foldl g s
  | [], _, _ => rfl
  | x :: xs, s, h => by
    rw [List.foldl_cons, List.foldl_cons, h s x List.mem_cons_self]
    exact foldl_ext xs _ (fun s y hy => h s y (List.mem_cons_of_mem _ hy))
def inner (room : Int) (l : List Int) (s m : Nat) : Ent := (List.range m).foldl (tryOne room l (B room l) s) (-1, 0, 0)
theorem inner_succ (room : Int) (l : List Int) (s m : Nat) : inner room l s (m + 1) = tryOne room l (B room l) s (inner room l s m) m := by
  unfold inner; rw [List.range_succ, List.foldl_append]; rfl
theorem tab_succ (room : Int) (l : List Int) {s : Nat} (h : 0 < s) : tab room l (s + 1) = tab room l s ++ [inner room l s l.length] := by
  rw [tab, if_neg (by omega)]
  congr 2
  exact foldl_ext _ _ (fun st i _ => try_same room l s st i)
theorem B_zero (room : Int) (l : List Int) : B room l 0 = (0, 0, 0) := rfl
theorem B_eq (room : Int) (l : List Int) {s : Nat} (h : 0 < s) : B room l s = inner room l s l.length := by
  rw [B, tab_succ room l h, List.getD_eq_getElem?_getD, List.getElem?_append_right (by rw [tab_length]; omega), tab_length]
  simp

/-- A set has a piece below n if it is none of the numbers whose bits below n are 0. -/
theorem has_bit : ∀ (n s : Nat), 0 < s → s < 2 ^ n → ∃ i, i < n ∧ (s / 2 ^ i) % 2 = 1
  | 0, s, h0, h1 => by rw [Nat.pow_zero] at h1; omega
  | n + 1, s, h0, h1 => by
    have hp : 2 ^ (n + 1) = 2 * 2 ^ n := by rw [Nat.pow_succ]; omega
    by_cases ho : s % 2 = 1
    · exact ⟨0, by omega, by rw [Nat.pow_zero, Nat.div_one]; exact ho⟩
    · obtain ⟨i, hi, hb⟩ := has_bit n (s / 2) (by omega) (by omega)
      exact ⟨i + 1, by omega, by rw [Nat.pow_succ, Nat.mul_comm, ← Nat.div_div_eq_div_mul]; exact hb⟩
/-- What is known of an entry while the pieces up to m are tried. -/
theorem inner_inv (room : Int) (l : List Int) (s : Nat) (hT : ∀ u, u < s → 0 ≤ (B room l u).1 ∧ 0 ≤ (B room l u).2.1) : ∀ m, m ≤ l.length →
    ((∀ i, i < m → (s / 2 ^ i) % 2 ≠ 1) ∧ inner room l s m = (-1, 0, 0)) ∨
    (∃ i : Nat, i < m ∧ (s / 2 ^ i) % 2 = 1 ∧ inner room l s m = ((nxt room (fo (B room l (s - 2 ^ i))) (rd l (i : Int))).1, (nxt room (fo (B room l (s - 2 ^ i))) (rd l (i : Int))).2, (i : Int)))
  | 0, _ => .inl ⟨fun i hi => by omega, rfl⟩
  | m + 1, hm => by
    rw [inner_succ]
    by_cases hb : (s / 2 ^ m) % 2 = 1
    · have hx : 0 ≤ (nxt room (fo (B room l (s - 2 ^ m))) (rd l (m : Int))).1 := by
        have h2 := two_le hb
        have hp : 0 < 2 ^ m := Nat.pow_pos (by decide)
        have := (hT (s - 2 ^ m) (by omega)).1
        unfold nxt fo; split <;> dsimp only <;> omega
      rcases inner_inv room l s hT m (by omega) with ⟨h1, h2⟩ | ⟨i, hi, hbi, h2⟩
      · refine .inr ⟨m, by omega, hb, ?_⟩
        rw [tryOne, if_pos hb, h2, if_pos (.inl (by show _ > (-1 : Int); omega))]
      · by_cases hbt : Better (nxt room (fo (B room l (s - 2 ^ m))) (rd l (m : Int))) (fo (inner room l s m))
        · exact .inr ⟨m, by omega, hb, by rw [tryOne, if_pos hb, if_pos hbt]⟩
        · exact .inr ⟨i, by omega, hbi, by rw [tryOne, if_pos hb, if_neg hbt, h2]⟩
    · rcases inner_inv room l s hT m (by omega) with ⟨h1, h2⟩ | ⟨i, hi, hbi, h2⟩
      · refine .inl ⟨fun i hi => ?_, by rw [tryOne, if_neg hb, h2]⟩
        rcases Nat.lt_or_eq_of_le (Nat.lt_succ_iff.1 hi) with hi | rfl
        · exact h1 i hi
        · exact hb
      · exact .inr ⟨i, by omega, hbi, by rw [tryOne, if_neg hb, h2]⟩
/-- Every entry is that of a smaller set and one piece. -/
theorem B_last (room : Int) (l : List Int) (hl : ∀ i : Nat, i < l.length → 1 ≤ rd l (i : Int)) (hr : 1 ≤ room) : ∀ (N s : Nat), s < N → s < 2 ^ l.length → (0 ≤ (B room l s).1 ∧ 0 ≤ (B room l s).2.1) ∧ (0 < s → ∃ i : Nat, i < l.length ∧ (s / 2 ^ i) % 2 = 1 ∧ B room l s = ((nxt room (fo (B room l (s - 2 ^ i))) (rd l (i : Int))).1, (nxt room (fo (B room l (s - 2 ^ i))) (rd l (i : Int))).2, (i : Int)))
  | 0, s, h, _ => by omega
  | N + 1, s, h, hs => by
    by_cases h0 : 0 < s
    · have hT : ∀ u, u < s → 0 ≤ (B room l u).1 ∧ 0 ≤ (B room l u).2.1 := fun u hu => (B_last room l hl hr N u (by omega) (by omega)).1
      rcases inner_inv room l s hT l.length (Nat.le_refl _) with ⟨h1, _⟩ | ⟨i, hi, hb, h2⟩
      · obtain ⟨i, hi, hb⟩ := has_bit l.length s h0 hs
        exact absurd hb (h1 i hi)
      · rw [← B_eq room l h0] at h2
        have h3 := two_le hb
        have hp : 0 < 2 ^ i := Nat.pow_pos (by decide)
        have h4 := hT (s - 2 ^ i) (by omega)
        have h5 := hl i hi
        refine ⟨?_, fun _ => ⟨i, hi, hb, h2⟩⟩
        rw [h2]
        unfold nxt fo
        split <;> dsimp only <;> omega
    · obtain rfl : s = 0 := by omega
      exact ⟨by rw [B_zero]; exact ⟨by decide, by decide⟩, fun k => by omega⟩

/-! ### The boxes that the table tells -/
/-- The box of piece i among those of a set. -/
def boxOf (room : Int) (l : List Int) : Nat → Nat → Nat → Int
  | 0, _, _ => -1
  | fuel + 1, s, i => if s = 0 then -1 else if (B room l s).2.2 = (i : Int) then (B room l (s - 2 ^ i)).1 else boxOf room l fuel (s - 2 ^ (B room l s).2.2.toNat) i
/-- What box b holds of a set's pieces. -/
def held (room : Int) (l : List Int) (fuel s : Nat) (b : Int) (r : List Nat) : Int := (r.map fun (i : Nat) => if (s / 2 ^ i) % 2 = 1 ∧ boxOf room l fuel s i = b then rd l (i : Int) else 0).sum
theorem sum_one (r : List Nat) (hr : r.Nodup) (j : Nat) (hj : j ∈ r) (f g : Nat → Int) (v : Int) (he : ∀ i, i ≠ j → f i = g i) (hv : f j = g j + v) : (r.map f).sum = (r.map g).sum + v := by
  induction r with
  | nil => cases hj
  | cons a r ih =>
    rw [List.nodup_cons] at hr
    simp only [List.map_cons, List.sum_cons]
    by_cases ha : a = j
    · subst ha
      have e : r.map f = r.map g := List.map_congr_left fun i hi => he i (fun e => hr.1 (e ▸ hi))
      rw [e, hv]; omega
    · rw [ih hr.2 ((List.mem_cons.1 hj).resolve_left (Ne.symm ha)), he a ha]; omega
theorem bit_sub {s i j : Nat} (h : (s / 2 ^ i) % 2 = 1) : ((s - 2 ^ i) / 2 ^ j) % 2 = if j = i then 0 else (s / 2 ^ j) % 2 := by
  have hle := two_le h
  rcases Nat.lt_trichotomy j i with hj | hj | hj
  · obtain ⟨k, rfl⟩ : ∃ k, i = j + 1 + k := ⟨i - j - 1, by omega⟩
    have e : 2 ^ (j + 1 + k) = 2 ^ j * (2 * 2 ^ k) := by rw [Nat.pow_add, Nat.pow_succ, Nat.mul_assoc]
    rw [if_neg (by omega), e, Nat.sub_mul_div_of_le _ _ _ (by rw [← e]; exact hle)]
    have hd : 2 * 2 ^ k ≤ s / 2 ^ j := by
      rw [Nat.le_div_iff_mul_le (Nat.pow_pos (by decide)), Nat.mul_comm, ← e]; exact hle
    generalize s / 2 ^ j = a at hd ⊢
    omega
  · subst hj
    have e := Nat.sub_mul_div_of_le s (2 ^ j) 1 (by omega)
    rw [Nat.mul_one] at e
    rw [if_pos rfl, e]
    omega
  · obtain ⟨k, rfl⟩ : ∃ k, j = i + 1 + k := ⟨j - i - 1, by omega⟩
    have e : 2 ^ (i + 1 + k) = 2 ^ i * (2 * 2 ^ k) := by rw [Nat.pow_add, Nat.pow_succ, Nat.mul_assoc]
    have e2 := Nat.sub_mul_div_of_le s (2 ^ i) 1 (by omega)
    rw [Nat.mul_one] at e2
    have e3 : (s / 2 ^ i - 1) / 2 = s / 2 ^ i / 2 := by generalize s / 2 ^ i = q at h; omega
    rw [if_neg (by omega), e, ← Nat.div_div_eq_div_mul, ← Nat.div_div_eq_div_mul, ← Nat.div_div_eq_div_mul, ← Nat.div_div_eq_div_mul, e2, e3]

theorem held_none (room : Int) (l : List Int) (fuel : Nat) (b : Int) : ∀ r : List Nat, held room l fuel 0 b r = 0
  | [] => rfl
  | i :: r => by
    have h := held_none room l fuel b r
    unfold held at h ⊢
    rw [List.map_cons, List.sum_cons, h, if_neg (by rw [Nat.zero_div]; omega), Int.zero_add]
/-- One piece more is in its box. -/
theorem held_step (room : Int) (l : List Int) {fuel s i : Nat} (hs : 0 < s) (hi : i < l.length) (hb : (s / 2 ^ i) % 2 = 1) (hlast : (B room l s).2.2 = (i : Int)) (b : Int) :
    held room l (fuel + 1) s b (List.range l.length) = held room l fuel (s - 2 ^ i) b (List.range l.length) + (if (B room l (s - 2 ^ i)).1 = b then rd l (i : Int) else 0) := by
  refine sum_one _ List.nodup_range i (List.mem_range.2 hi) _ _ _ (fun j hj => ?_) ?_
  · have e1 := bit_sub (j := j) hb
    rw [if_neg hj] at e1
    have e2 : boxOf room l (fuel + 1) s j = boxOf room l fuel (s - 2 ^ i) j := by
      rw [boxOf, if_neg (by omega), hlast, if_neg (by omega), Int.toNat_natCast]
    simp only [e1, e2]
  · have e1 := bit_sub (j := i) hb
    rw [if_pos rfl] at e1
    have e2 : boxOf room l (fuel + 1) s i = (B room l (s - 2 ^ i)).1 := by rw [boxOf, if_neg (by omega), if_pos hlast]
    simp only [e1, e2, hb]
    simp
/-- Boxes that are full hold enough, the next one what is open, the others nothing. -/
theorem held_inv (room : Int) (l : List Int) (hl : ∀ i : Nat, i < l.length → 1 ≤ rd l (i : Int)) (hr : 1 ≤ room) : ∀ (fuel s : Nat), s ≤ fuel → s < 2 ^ l.length →
    (∀ b : Int, 0 ≤ b → b < (B room l s).1 → room ≤ held room l fuel s b (List.range l.length)) ∧ held room l fuel s (B room l s).1 (List.range l.length) = (B room l s).2.1 ∧
    (∀ b : Int, b > (B room l s).1 → held room l fuel s b (List.range l.length) = 0) ∧ (∀ i : Nat, (s / 2 ^ i) % 2 = 1 → i < l.length → 0 ≤ boxOf room l fuel s i ∧ boxOf room l fuel s i ≤ (B room l s).1) := by
  intro fuel
  have zero : ∀ fuel, (∀ b : Int, 0 ≤ b → b < (B room l 0).1 → room ≤ held room l fuel 0 b (List.range l.length)) ∧ held room l fuel 0 (B room l 0).1 (List.range l.length) = (B room l 0).2.1 ∧
    (∀ b : Int, b > (B room l 0).1 → held room l fuel 0 b (List.range l.length) = 0) ∧ (∀ i : Nat, (0 / 2 ^ i) % 2 = 1 → i < l.length → 0 ≤ boxOf room l fuel 0 i ∧ boxOf room l fuel 0 i ≤ (B room l 0).1) := by
    intro fuel
    refine ⟨fun b h0 h1 => ?_, held_none _ _ _ _ _, fun b _ => held_none _ _ _ _ _, fun i hi => by rw [Nat.zero_div] at hi; cases hi⟩
    rw [B_zero] at h1
    dsimp only at h1
    omega
  induction fuel with
  | zero =>
    intro s h hs
    obtain rfl : s = 0 := by omega
    exact zero 0
  | succ fuel ih =>
    intro s h hs
    by_cases h0 : 0 < s
    · obtain ⟨i, hi, hb, hB⟩ := (B_last room l hl hr (s + 1) s (by omega) hs).2 h0
      have hlast : (B room l s).2.2 = (i : Int) := by rw [hB]
      have hp : 0 < 2 ^ i := Nat.pow_pos (by decide)
      have h2 := two_le hb
      obtain ⟨i1, i2, i3, i4⟩ := ih (s - 2 ^ i) (by omega) (by omega)
      have hnn := (B_last room l hl hr (s - 2 ^ i + 1) (s - 2 ^ i) (by omega) (by omega)).1
      have hst := fun b => held_step (fuel := fuel) room l h0 hi hb hlast b
      have hboxi : boxOf room l (fuel + 1) s i = (B room l (s - 2 ^ i)).1 := by rw [boxOf, if_neg (by omega), if_pos hlast]
      have hbox : ∀ j : Nat, j ≠ i → boxOf room l (fuel + 1) s j = boxOf room l fuel (s - 2 ^ i) j := fun j hj => by
        rw [boxOf, if_neg (by omega), hlast, if_neg (by omega), Int.toNat_natCast]
      have hbits : ∀ j : Nat, j ≠ i → ((s - 2 ^ i) / 2 ^ j) % 2 = (s / 2 ^ j) % 2 := fun j hj => by
        have e := bit_sub (j := j) hb
        rwa [if_neg hj] at e
      generalize hF : (B room l (s - 2 ^ i)).1 = F at i1 i2 i3 i4 hnn hst hboxi
      generalize hO : (B room l (s - 2 ^ i)).2.1 = O at i2 hnn
      have hfo : fo (B room l (s - 2 ^ i)) = (F, O) := by unfold fo; rw [hF, hO]
      rw [hfo] at hB
      by_cases hc : O + rd l (i : Int) ≥ room
      · have hn : nxt room (F, O) (rd l (i : Int)) = (F + 1, 0) := if_pos hc
        rw [hn] at hB
        have e1 : (B room l s).1 = F + 1 := by rw [hB]
        have e2 : (B room l s).2.1 = 0 := by rw [hB]
        rw [e1, e2]
        refine ⟨fun b hb0 hb1 => ?_, ?_, fun b hb1 => ?_, fun j hj hjl => ?_⟩
        · rw [hst]
          by_cases e : F = b
          · rw [if_pos e, ← e, i2]; omega
          · rw [if_neg e]; have := i1 b hb0 (by omega); omega
        · rw [hst, if_neg (by omega), i3 _ (by omega)]; rfl
        · rw [hst, if_neg (by omega), i3 _ (by omega)]; rfl
        · by_cases e : j = i
          · subst e; rw [hboxi]; omega
          · rw [hbox j e]; have := i4 j (by rw [hbits j e]; exact hj) hjl; omega
      · have hn : nxt room (F, O) (rd l (i : Int)) = (F, O + rd l (i : Int)) := if_neg hc
        rw [hn] at hB
        have e1 : (B room l s).1 = F := by rw [hB]
        have e2 : (B room l s).2.1 = O + rd l (i : Int) := by rw [hB]
        rw [e1, e2]
        refine ⟨fun b hb0 hb1 => ?_, ?_, fun b hb1 => ?_, fun j hj hjl => ?_⟩
        · rw [hst, if_neg (by omega)]; have := i1 b hb0 hb1; omega
        · rw [hst, if_pos rfl, i2]
        · rw [hst, if_neg (by omega), i3 _ hb1]; rfl
        · by_cases e : j = i
          · subst e; rw [hboxi]; omega
          · rw [hbox j e]; exact i4 j (by rw [hbits j e]; exact hj) hjl
    · obtain rfl : s = 0 := by omega
      exact zero _

/-! ### Bits, as the program reckons them -/
set_option maxRecDepth 100000 in
theorem andNot_all : ∀ a : Fin 64, ∀ b : Fin 64, ∀ i : Fin 12, ((64 * a.val + b.val) / 2 ^ i.val) % 2 = 1 → Go.bits .andNot .i64 (((64 * a.val + b.val : Nat)) : Int) (shl .i64 1 ((i.val : Nat) : Int)) = ((64 * a.val + b.val - 2 ^ i.val : Nat) : Int) := by decide +kernel
theorem andNot_bit {s i : Nat} (hs : s < 4096) (hi : i < 12) (h : (s / 2 ^ i) % 2 = 1) : Go.bits .andNot .i64 (s : Int) (shl .i64 1 (i : Int)) = ((s - 2 ^ i : Nat) : Int) := by
  have e : s = 64 * (s / 64) + s % 64 := by omega
  have := andNot_all ⟨s / 64, by omega⟩ ⟨s % 64, by omega⟩ ⟨i, hi⟩ (by show ((64 * (s / 64) + s % 64) / 2 ^ i) % 2 = 1; rw [← e]; exact h)
  show Go.bits .andNot .i64 (s : Int) (shl .i64 1 (i : Int)) = _
  rw [show (⟨s / 64, by omega⟩ : Fin 64).val = s / 64 from rfl, show (⟨s % 64, by omega⟩ : Fin 64).val = s % 64 from rfl, show (⟨i, hi⟩ : Fin 12).val = i from rfl, ← e] at this
  exact this
set_option maxRecDepth 100000 in
theorem and_all : ∀ a : Fin 64, ∀ b : Fin 64, Go.bits .and .i64 (((64 * a.val + b.val : Nat)) : Int) 1 = (((64 * a.val + b.val) % 2 : Nat) : Int) := by decide +kernel
theorem and_one {x : Nat} (hx : x < 4096) : Go.bits .and .i64 (x : Int) 1 = ((x % 2 : Nat) : Int) := by
  have e : x = 64 * (x / 64) + x % 64 := by omega
  have := and_all ⟨x / 64, by omega⟩ ⟨x % 64, by omega⟩
  rw [show (⟨x / 64, by omega⟩ : Fin 64).val = x / 64 from rfl, show (⟨x % 64, by omega⟩ : Fin 64).val = x % 64 from rfl, ← e] at this
  exact this

end Go.Proofs.Ytcjglbipkghhnaa.Math
