-- Plain lemmas: falling has at most one box more than so many that do, for at most 12 pieces.
import Derived.Test.YtoecbchfdgbliaaMathV
import Derived.Test.YtoecbchfdgbliaaMathFB
namespace Go.Proofs.Ytoecbchfdgbliaa.Math
open Go.RowKit Go.Proofs.YtoecbchfdgbliaaW.PrintWords Go.Proofs.YtoecbchfdgbliaaW.PrintLast Go.Proofs.YtoecbchfdgbliaaW.PrintMore
open Go.Proofs.Ytoecbchfdgbliaa.Hand hiding wrap_in look
set_option linter.unusedVariables false


/-- What a function of the sizes adds up to in a box. -/
def lo (ps out : List Int) (f : Int → Int) (b : Nat) (A : List Int) : Int := (A.map fun i => if rd out i = (b : Int) then f (rd ps i) else 0).sum
theorem lo_cons (ps out : List Int) (f : Int → Int) (b : Nat) (i : Int) (A : List Int) : lo ps out f b (i :: A) = (if rd out i = (b : Int) then f (rd ps i) else 0) + lo ps out f b A := by unfold lo; rw [List.map_cons, List.sum_cons]
def su (ps : List Int) (f : Int → Int) (A : List Int) : Int := (A.map fun i => f (rd ps i)).sum
theorem su_nonneg {ps : List Int} {f : Int → Int} : ∀ {A : List Int}, (∀ i ∈ A, 0 ≤ f (rd ps i)) → 0 ≤ su ps f A
  | [], _ => Int.le_refl _
  | i :: A, h => by
    have h1 := h i List.mem_cons_self
    have h2 := su_nonneg fun j hj => h j (List.mem_cons_of_mem _ hj)
    unfold su at *
    rw [List.map_cons, List.sum_cons]; omega
/-- The boxes hold no more than all. -/
theorem lo_sum {ps out : List Int} {f : Int → Int} (M : Nat) : ∀ {A : List Int}, (∀ i ∈ A, 0 ≤ f (rd ps i)) → ((List.range M).map fun b => lo ps out f b A).sum ≤ su ps f A
  | [], _ => by
    have : ((List.range M).map fun b => lo ps out f b []).sum = 0 := sum_zero _ _ fun b _ => rfl
    rw [this]; exact Int.le_refl _
  | i :: A, h => by
    have h1 := h i List.mem_cons_self
    have ih := lo_sum (out := out) M fun j hj => h j (List.mem_cons_of_mem _ hj)
    have e : su ps f (i :: A) = f (rd ps i) + su ps f A := by unfold su; rw [List.map_cons, List.sum_cons]
    rw [e]
    by_cases hb : ∃ b : Nat, b < M ∧ rd out i = (b : Int)
    · obtain ⟨b, hbM, hb⟩ := hb
      have := sum_one (List.range M) List.nodup_range b (List.mem_range.2 hbM) (fun c => lo ps out f c (i :: A)) (fun c => lo ps out f c A) (f (rd ps i)) (fun c hc => by
        show lo ps out f c (i :: A) = lo ps out f c A
        rw [lo_cons, if_neg (by omega), Int.zero_add]) (by
        show lo ps out f b (i :: A) = lo ps out f b A + f (rd ps i)
        rw [lo_cons, if_pos hb, Int.add_comm])
      omega
    · have : ((List.range M).map fun b => lo ps out f b (i :: A)) = (List.range M).map fun b => lo ps out f b A := List.map_congr_left fun b hbM => by
        rw [lo_cons, if_neg (fun k => hb ⟨b, List.mem_range.1 hbM, k⟩), Int.zero_add]
      rw [this]; omega
/-! ### The first box too many is opened by a small piece -/
def w2 (room e q : Int) : Int := if q < e then 0 else if q > room - e then 2 else 1
theorem w2_nonneg (room e q : Int) : 0 ≤ w2 room e q := by unfold w2; split <;> (try split) <;> omega
theorem w2_bin {room e : Int} (he : room < 3 * e) (p : Nat → Int) (g : Nat → Nat) (b : Nat) : ∀ n, (∀ i, i < n → 1 ≤ p i) → bs p g b n ≤ room →
    0 ≤ bs p g b n ∧ 0 ≤ bs (fun i => w2 room e (p i)) g b n ∧ bs (fun i => w2 room e (p i)) g b n ≤ 2 ∧ (1 ≤ bs (fun i => w2 room e (p i)) g b n → e ≤ bs p g b n) ∧ (2 ≤ bs (fun i => w2 room e (p i)) g b n → room - e < bs p g b n)
  | 0, _, _ => ⟨Int.le_refl _, Int.le_refl _, (show (0 : Int) ≤ 2 by decide), fun h => absurd (show (1 : Int) ≤ 0 from h) (by decide), fun h => absurd (show (2 : Int) ≤ 0 from h) (by decide)⟩
  | n + 1, hp, h => by
    have e1 := bs_succ p g b n
    have e2 := bs_succ (fun i => w2 room e (p i)) g b n
    have hpn := hp n (by omega)
    by_cases hg : g n = b
    · rw [if_pos hg] at e1 e2
      obtain ⟨i1, i2, i3, i4, i5⟩ := w2_bin he p g b n (fun i hi => hp i (by omega)) (by omega)
      rw [e1, e2]
      rw [e1] at h
      clear e1 e2
      generalize bs p g b n = P at *
      generalize bs (fun i => w2 room e (p i)) g b n = K at *
      try dsimp only
      generalize p n = q at *
      unfold w2
      by_cases c1 : q < e
      · rw [if_pos c1]; omega
      · rw [if_neg c1]
        by_cases c2 : q > room - e
        · rw [if_pos c2]; omega
        · rw [if_neg c2]; omega
    · rw [if_neg hg, Int.add_zero] at e1 e2
      rw [e1, e2]
      exact w2_bin he p g b n (fun i hi => hp i (by omega)) (by omega)
theorem w2_box {room e : Int} {ps out : List Int} (b : Nat) : ∀ {A : List Int}, (∀ i ∈ A, e ≤ rd ps i) → (lo ps out (w2 room e) b A = 0 ∧ lo ps out (fun q => q) b A = 0) ∨ (lo ps out (w2 room e) b A = 1 ∧ lo ps out (fun q => q) b A ≤ room - e) ∨ 2 ≤ lo ps out (w2 room e) b A
  | [], _ => .inl ⟨rfl, rfl⟩
  | i :: A, h => by
    have h1 := h i List.mem_cons_self
    have ih := w2_box (room := room) (out := out) b fun j hj => h j (List.mem_cons_of_mem _ hj)
    rw [lo_cons, lo_cons]
    by_cases hb : rd out i = (b : Int)
    · rw [if_pos hb, if_pos hb]
      have hw : w2 room e (rd ps i) = if rd ps i > room - e then 2 else 1 := by unfold w2; rw [if_neg (show ¬ rd ps i < e by omega)]
      rw [hw]
      generalize rd ps i = q at *
      by_cases c : q > room - e
      · rw [if_pos c]; omega
      · rw [if_neg c]; omega
    · rw [if_neg hb, if_neg hb, Int.zero_add, Int.zero_add]
      exact ih
/-- What all pieces weigh is at most the room of the boxes that do. -/
theorem bins_tot {ps : List Int} {m : Nat} {f : Int → Int} {c : Int} {g : Nat → Nat} (hg : ∀ i, i < ps.length → g i < m) (hb : ∀ b, b < m → bs (fun i => f (rd ps (i : Int))) g b ps.length ≤ c) : su ps f (places ps.length) ≤ c * m := by
  have t := bs_total (fun i => f (rd ps (i : Int))) g m ps.length hg
  have s := sum_le c (List.range m) (fun b => bs (fun i => f (rd ps (i : Int))) g b ps.length) fun b h => hb b (List.mem_range.1 h)
  rw [t, List.length_range] at s
  have e : su ps f (places ps.length) = tot (fun i => f (rd ps (i : Int))) ps.length := by
    unfold su tot places
    rw [List.map_map]
    rfl
  rw [e]; exact s
theorem su_split {ps : List Int} {f : Int → Int} {A R : List Int} {i : Int} (hO : (A ++ i :: R).Perm (places ps.length)) (hf : ∀ q, 0 ≤ f q) : su ps f A + f (rd ps i) ≤ su ps f (places ps.length) := by
  have e : su ps f (places ps.length) = su ps f (A ++ i :: R) := by
    unfold su
    exact (perm_sum (hO.map _)).symm
  have e2 : su ps f (A ++ i :: R) = su ps f A + (f (rd ps i) + su ps f R) := by
    unfold su
    rw [List.map_append, List.sum_append, List.map_cons, List.sum_cons]
  have := su_nonneg (ps := ps) (f := f) (A := R) fun j _ => hf _
  omega
theorem first_small {room : Int} {ps : List Int} {m : Nat} {g : Nat → Nat} (hp : ∀ i : Nat, i < ps.length → 1 ≤ rd ps (i : Int)) (hg : ∀ i, i < ps.length → g i < m) (hl : ∀ b, bs (fun i => rd ps (i : Int)) g b ps.length ≤ room) {A R out : List Int} {i : Int} (hO : (A ++ i :: R).Perm (places ps.length))
    (hi : rd ps i ≤ room) (hA : ∀ j ∈ A, rd ps i ≤ rd ps j) (hbox : ∀ b, b < m → room < lo ps out (fun q => q) b A + rd ps i) : 3 * rd ps i ≤ room := by
  apply Classical.byContradiction
  intro hc
  have he : room < 3 * rd ps i := by omega
  have hup := bins_tot (f := w2 room (rd ps i)) (c := 2) hg fun b _ => (w2_bin he (fun i => rd ps (i : Int)) g b ps.length hp (hl b)).2.2.1
  have hsp := su_split (f := w2 room (rd ps i)) hO fun q => w2_nonneg _ _ q
  have hlow := lo_sum (ps := ps) (out := out) (f := w2 room (rd ps i)) m (A := A) fun j _ => w2_nonneg _ _ _
  have hge : ∀ M, M ≤ m → (2 : Int) * M ≤ ((List.range M).map fun b => lo ps out (w2 room (rd ps i)) b A).sum := by
    intro M
    induction M with
    | zero => intro _; exact Int.le_refl _
    | succ M ih =>
      intro hM
      have h1 := ih (by omega)
      have h2 := w2_box (room := room) (out := out) M hA
      have h3 := hbox M (by omega)
      rw [List.range_succ, List.map_append, List.sum_append, List.map_singleton, List.sum_singleton]
      try dsimp only
      rcases h2 with h2 | h2 | h2 <;> push_cast <;> omega
  have h1 := hge m (Nat.le_refl _)
  have h2 : 1 ≤ w2 room (rd ps i) (rd ps i) := by unfold w2; split <;> (try split) <;> omega
  omega

/-! ### No second box too many -/
def w3 (room e q : Int) : Int := if q < e then 0 else if q > room - e then room else q
theorem w3_nonneg {room e : Int} (hr : 0 ≤ room) (he : 0 ≤ e) (q : Int) : 0 ≤ w3 room e q := by unfold w3; split <;> (try split) <;> omega
theorem w3_bin {room e : Int} (hr : 0 ≤ room) (he : 1 ≤ e) (p : Nat → Int) (g : Nat → Nat) (b : Nat) : ∀ n, (∀ i, i < n → 1 ≤ p i) → bs p g b n ≤ room →
    0 ≤ bs p g b n ∧ 0 ≤ bs (fun i => w3 room e (p i)) g b n ∧ (bs (fun i => w3 room e (p i)) g b n ≤ bs p g b n ∨ (bs (fun i => w3 room e (p i)) g b n ≤ room ∧ room - e < bs p g b n)) ∧ (1 ≤ bs (fun i => w3 room e (p i)) g b n → e ≤ bs p g b n)
  | 0, _, _ => ⟨Int.le_refl _, Int.le_refl _, .inl (Int.le_refl _), fun h => absurd (show (1 : Int) ≤ 0 from h) (by decide)⟩
  | n + 1, hp, h => by
    have e1 := bs_succ p g b n
    have e2 := bs_succ (fun i => w3 room e (p i)) g b n
    have hpn := hp n (by omega)
    by_cases hg : g n = b
    · rw [if_pos hg] at e1 e2
      obtain ⟨i1, i2, i3, i4⟩ := w3_bin hr he p g b n (fun i hi => hp i (by omega)) (by omega)
      rw [e1, e2]
      rw [e1] at h
      clear e1 e2
      generalize bs p g b n = P at *
      generalize bs (fun i => w3 room e (p i)) g b n = K at *
      try dsimp only
      generalize p n = q at *
      unfold w3
      by_cases c1 : q < e
      · rw [if_pos c1]; omega
      · rw [if_neg c1]
        by_cases c2 : q > room - e
        · rw [if_pos c2]; omega
        · rw [if_neg c2]; omega
    · rw [if_neg hg, Int.add_zero] at e1 e2
      rw [e1, e2]
      exact w3_bin hr he p g b n (fun i hi => hp i (by omega)) (by omega)
/-- A box that is behind: one piece that is great, or two. -/
theorem w3_box {room e : Int} {ps out : List Int} (b : Nat) : ∀ {A : List Int}, (∀ i ∈ A, e ≤ rd ps i ∧ rd ps i ≤ room) → lo ps out (fun q => q) b A ≤ lo ps out (w3 room e) b A ∧ e * lo ps out (fun _ => 1) b A ≤ lo ps out (w3 room e) b A ∧
    ((lo ps out (fun _ => 1) b A = 0 ∧ lo ps out (fun q => q) b A = 0) ∨ (lo ps out (fun _ => 1) b A = 1 ∧ (room - e < lo ps out (fun q => q) b A → room ≤ lo ps out (w3 room e) b A)) ∨ 2 ≤ lo ps out (fun _ => 1) b A)
  | [], _ => ⟨Int.le_refl _, by show e * 0 ≤ 0; rw [Int.mul_zero]; exact Int.le_refl _, .inl ⟨rfl, rfl⟩⟩
  | i :: A, h => by
    have h1 := h i List.mem_cons_self
    have ih := w3_box (out := out) b fun j hj => h j (List.mem_cons_of_mem _ hj)
    rw [lo_cons, lo_cons, lo_cons]
    by_cases hb : rd out i = (b : Int)
    · rw [if_pos hb, if_pos hb, if_pos hb]
      have hw : w3 room e (rd ps i) = if rd ps i > room - e then room else rd ps i := by unfold w3; rw [if_neg (show ¬ rd ps i < e by omega)]
      rw [hw, Int.mul_add, Int.mul_one]
      generalize rd ps i = q at *
      generalize e * lo ps out (fun _ => 1) b A = z at *
      by_cases c : q > room - e
      · rw [if_pos c]; omega
      · rw [if_neg c]; omega
    · rw [if_neg hb, if_neg hb, if_neg hb, Int.zero_add, Int.zero_add, Int.zero_add]
      exact ih
theorem lo_le {ps out : List Int} {b : Nat} {c : Int} : ∀ {A : List Int}, (∀ i ∈ A, rd out i = (b : Int) → rd ps i ≤ c) → lo ps out (fun q => q) b A ≤ c * lo ps out (fun _ => 1) b A
  | [], _ => by show (0 : Int) ≤ c * 0; rw [Int.mul_zero]; exact Int.le_refl _
  | i :: A, h => by
    have ih := lo_le (c := c) (b := b) (out := out) fun j hj => h j (List.mem_cons_of_mem _ hj)
    rw [lo_cons, lo_cons]
    by_cases hb : rd out i = (b : Int)
    · have h1 := h i List.mem_cons_self hb
      rw [if_pos hb, if_pos hb, Int.mul_add, Int.mul_one]
      omega
    · rw [if_neg hb, if_neg hb, Int.zero_add, Int.zero_add]
      exact ih
theorem su_one (ps : List Int) : ∀ A : List Int, su ps (fun _ => 1) A = A.length
  | [] => rfl
  | i :: A => by
    have := su_one ps A
    unfold su at this ⊢
    rw [List.map_cons, List.sum_cons, this, List.length_cons]
    show (1 : Int) + (A.length : Int) = ((A.length + 1 : Nat) : Int)
    omega
theorem no_second {room : Int} {ps : List Int} {m : Nat} {g : Nat → Nat} (h12 : ps.length ≤ 12) (hp : ∀ i : Nat, i < ps.length → 1 ≤ rd ps (i : Int)) (hg : ∀ i, i < ps.length → g i < m) (hl : ∀ b, bs (fun i => rd ps (i : Int)) g b ps.length ≤ room) {A R out : List Int} {i : Int} (hO : (A ++ i :: R).Perm (places ps.length))
    (hi : 1 ≤ rd ps i ∧ rd ps i ≤ room) (hA : ∀ j ∈ A, rd ps i ≤ rd ps j ∧ rd ps j ≤ room) (hbox : ∀ b, b < m + 1 → room < lo ps out (fun q => q) b A + rd ps i) {e1 : Int} (he1 : 3 * e1 ≤ room) (hie : rd ps i ≤ e1) (hm : ∀ j ∈ A, rd out j = (m : Int) → rd ps j ≤ e1) : False := by
  have hr : 0 ≤ room := by omega
  have hup := bins_tot (f := w3 room (rd ps i)) (c := room) hg fun b _ => by
    have h := (w3_bin hr hi.1 (fun i => rd ps (i : Int)) g b ps.length hp (hl b)).2.2.1
    have h2 := hl b
    omega
  have hsp := su_split (f := w3 room (rd ps i)) hO fun q => w3_nonneg hr (by omega) q
  have hlow := lo_sum (ps := ps) (out := out) (f := w3 room (rd ps i)) (m + 1) (A := A) fun j _ => w3_nonneg hr (by omega) _
  have hcnt := lo_sum (ps := ps) (out := out) (f := fun _ => 1) (m + 1) (A := A) fun j _ => (by decide : (0 : Int) ≤ 1)
  rw [su_one] at hcnt
  have hlen : A.length + 1 ≤ 12 := by
    have := hO.length_eq
    rw [List.length_append, List.length_cons, placesLen] at this
    omega
  have hge : ∀ M : Nat, M ≤ m → ∃ D : Int, 0 ≤ D ∧ D ≤ M ∧ D + M ≤ ((List.range M).map fun b => lo ps out (fun _ => 1) b A).sum ∧ room * M - D * (rd ps i - 1) ≤ ((List.range M).map fun b => lo ps out (w3 room (rd ps i)) b A).sum := by
    intro M
    induction M with
    | zero => intro _; exact ⟨0, Int.le_refl _, Int.le_refl _, Int.le_refl _, by rw [Int.zero_mul]; show room * 0 - 0 ≤ 0; omega⟩
    | succ M ih =>
      intro hM
      obtain ⟨D, d0, d1, d2, d3⟩ := ih (by omega)
      obtain ⟨b1, b2, b3⟩ := w3_box (room := room) (out := out) M hA
      have h3 := hbox M (by omega)
      have er : room * ((M + 1 : Nat) : Int) = room * M + room := by push_cast; rw [Int.mul_add, Int.mul_one]
      rw [List.range_succ, List.map_append, List.sum_append, List.map_singleton, List.sum_singleton, List.map_append, List.sum_append, List.map_singleton, List.sum_singleton, er]
      by_cases c : lo ps out (fun _ => 1) M A = 1
      · exact ⟨D, d0, by push_cast; omega, by push_cast; omega, by omega⟩
      · refine ⟨D + 1, by omega, by push_cast; omega, by push_cast; omega, ?_⟩
        rw [Int.add_mul, Int.one_mul]
        omega
  obtain ⟨D, d0, d1, d2, d3⟩ := hge m (Nat.le_refl _)
  obtain ⟨b1, b2, b3⟩ := w3_box (room := room) (out := out) m hA
  have hbm := hbox m (by omega)
  have hle := lo_le (ps := ps) (out := out) (b := m) (c := e1) (A := A) hm
  rw [List.range_succ, List.map_append, List.sum_append, List.map_singleton, List.sum_singleton] at hlow hcnt
  have h3 : 3 ≤ lo ps out (fun _ => 1) m A := by
    apply Classical.byContradiction
    intro k
    have k1 : lo ps out (fun _ => 1) m A = 0 ∨ lo ps out (fun _ => 1) m A = 1 ∨ lo ps out (fun _ => 1) m A = 2 := by omega
    rcases k1 with k1 | k1 | k1 <;> rw [k1] at hle <;> omega
  have h4 : rd ps i * 3 ≤ rd ps i * lo ps out (fun _ => 1) m A := Int.mul_le_mul_of_nonneg_left h3 (by omega)
  have h5 : rd ps i ≤ w3 room (rd ps i) (rd ps i) := by unfold w3; split <;> (try split) <;> omega
  have h6 : D * (rd ps i - 1) ≤ 4 * (rd ps i - 1) := Int.mul_le_mul_of_nonneg_right (by omega) (by omega)
  omega

/-! ### Falling -/
/-- What is known while falling: at most one box too many. -/
structure Few (room : Int) (ps : List Int) (m : Nat) (A : List Int) (st : List Int × List Int × Nat) : Prop where
  fi : FI room ps A st
  few : st.2.2 ≤ m + 1
  small : st.2.2 = m + 1 → ∃ e1, 3 * e1 ≤ room ∧ (∃ j ∈ A, rd ps j = e1) ∧ ∀ j ∈ A, rd st.1 j = (m : Int) → rd ps j ≤ e1
theorem few_fold {room : Int} {ps : List Int} {m : Nat} (hF : ∃ g : Nat → Nat, (∀ i, i < ps.length → g i < m) ∧ ∀ b, bs (fun i => rd ps (i : Int)) g b ps.length ≤ room) (h12 : ps.length ≤ 12) (hs : ∀ i : Nat, i < ps.length → 1 ≤ rd ps (i : Int) ∧ rd ps (i : Int) ≤ room) :
    ∀ (R A : List Int) (st : List Int × List Int × Nat), Few room ps m A st → (A ++ R).Perm (places ps.length) → List.Pairwise (fun a b => rd ps b ≤ rd ps a) (A ++ R) → Few room ps m (A ++ R) (R.foldl (fitStep room ps fun _ _ => false) st)
  | [], A, st, h, _, _ => by rw [List.append_nil]; exact h
  | i :: R, A, st, h, hO, hd => by
    have hmem : ∀ j ∈ A ++ i :: R, 0 ≤ j ∧ j < (ps.length : Int) := fun j hj => places_memF.1 (hO.mem_iff.1 hj)
    have hnd : (A ++ i :: R).Nodup := hO.symm.nodup (places_nodup _)
    obtain ⟨mi, rfl⟩ := Int.eq_ofNat_of_zero_le (hmem i (by simp)).1
    have hi := (hmem (mi : Int) (by simp)).2
    have hlen := hO.length_eq
    rw [List.length_append, List.length_cons, placesLen] at hlen
    have hA0 : ∀ j ∈ A, 0 ≤ j := fun j hj => (hmem j (List.mem_append_left _ hj)).1
    have hnA : (mi : Int) ∉ A := fun k => (List.nodup_append.1 hnd).2.2 _ k _ List.mem_cons_self rfl
    have hszA : ∀ j ∈ A, rd ps (mi : Int) ≤ rd ps j ∧ rd ps j ≤ room := fun j hj => by
      obtain ⟨q, rfl⟩ := Int.eq_ofNat_of_zero_le (hA0 j hj)
      exact ⟨(List.pairwise_append.1 hd).2.2 _ hj _ List.mem_cons_self, (hs q (by have := (hmem _ (List.mem_append_left _ hj)).2; omega)).2⟩
    have hsi := hs mi (by omega)
    have hFI := h.fi.step (p := fun _ _ => false) hA0 hnA (by omega) (by omega) ⟨by omega, hsi.2⟩
    obtain ⟨g, hg1, hg2⟩ := hF
    have e : A ++ (mi : Int) :: R = (A ++ [(mi : Int)]) ++ R := by simp
    rw [e, List.foldl_cons]
    refine few_fold ⟨g, hg1, hg2⟩ h12 hs R (A ++ [(mi : Int)]) _ ⟨hFI, ?_, ?_⟩ (by rw [← e]; exact hO) (by rw [← e]; exact hd)
    all_goals obtain ⟨out, x, n⟩ := st
    all_goals have hn : n ≤ A.length := h.fi.ok.2.2.1
    all_goals have hol : out.length = ps.length := h.fi.ok.1
    all_goals have hsame : ∀ v : Int, ∀ j ∈ A, rd (out.set mi v) j = rd out j := fun v j hj => by rw [rd_setI out mi v j (hA0 j hj) (by omega), if_neg (fun e : j = (mi : Int) => hnA (by rw [← e]; exact hj))]
    all_goals have hself : ∀ v : Int, rd (out.set mi v) (mi : Int) = v := fun v => by rw [rd_setI out mi v _ (by omega) (by omega), if_pos rfl]
    all_goals have hload : ∀ b : Nat, b < 12 → x.getD b 0 = lo ps out (fun q => q) b A := fun b hb => h.fi.load b hb
    all_goals have hfew : n ≤ m + 1 := h.few
    · rcases scan_inv x room (rd ps (mi : Int)) (fun _ _ => false) n with hc | ⟨hc1, hc2, hc3⟩
      · rw [fitStep_new hc]
        show n + 1 ≤ m + 1
        apply Classical.byContradiction
        intro k
        have hnm : n = m + 1 := by omega
        obtain ⟨e1, q1, ⟨j1, q2, q2'⟩, q3⟩ := h.small hnm
        have hno := scan_none x room (rd ps (mi : Int)) _ n hc
        refine no_second h12 (fun i hi => (hs i hi).1) hg1 hg2 hO hsi hszA (out := out) (fun b hb => ?_) q1 (by rw [← q2']; exact (hszA j1 q2).1) q3
        rw [← hload b (by omega)]
        exact hno b (by omega)
      · obtain ⟨b, hb⟩ := Int.eq_ofNat_of_zero_le hc1
        rw [fitStep_old hb]
        exact hfew
    · rcases scan_inv x room (rd ps (mi : Int)) (fun _ _ => false) n with hc | ⟨hc1, hc2, hc3⟩
      · rw [fitStep_new hc, Int.toNat_natCast]
        intro hnm
        have hnm' : n = m := by have : n + 1 = m + 1 := hnm; omega
        have hno := scan_none x room (rd ps (mi : Int)) _ n hc
        refine ⟨rd ps (mi : Int), first_small (fun i hi => (hs i hi).1) hg1 hg2 hO hsi.2 (fun j hj => (hszA j hj).1) (out := out) (fun b hb => ?_), ⟨(mi : Int), by simp, rfl⟩, fun j hj hjm => ?_⟩
        · rw [← hload b (by omega)]
          exact hno b (by omega)
        · rcases List.mem_append.1 hj with hj | hj
          · have h1 := (h.fi.ins j hj).2
            have hjm' : rd (out.set mi (n : Int)) j = (m : Int) := hjm
            rw [hsame _ j hj] at hjm'
            have h1' : rd out j < (n : Int) := h1
            omega
          · rw [List.mem_singleton.1 hj]; exact Int.le_refl _
      · obtain ⟨b, hb⟩ := Int.eq_ofNat_of_zero_le hc1
        rw [fitStep_old hb, Int.toNat_natCast]
        intro hnm
        obtain ⟨e1, q1, ⟨j1, q2, q2'⟩, q3⟩ := h.small hnm
        refine ⟨e1, q1, ⟨j1, List.mem_append_left _ q2, q2'⟩, fun j hj hjm => ?_⟩
        rcases List.mem_append.1 hj with hj | hj
        · have hjm' : rd (out.set mi (b : Int)) j = (m : Int) := hjm
          rw [hsame _ j hj] at hjm'
          exact q3 j hj hjm'
        · rw [List.mem_singleton.1 hj, ← q2']
          exact (hszA j1 q2).1
theorem ord_desc (l : List Int) (n : Nat) (room : Int) : ∀ t, List.Pairwise (fun a b => rd l b ≤ rd l a) (ordT l n room t) ∧ ∀ a ∈ ordT l n room t, room - t < rd l a
  | 0 => ⟨List.Pairwise.nil, fun a h => by cases h⟩
  | t + 1 => by
    obtain ⟨h1, h2⟩ := ord_desc l n room t
    rw [ordT]
    refine ⟨List.pairwise_append.2 ⟨h1, ?_, fun a ha b hb => ?_⟩, fun a ha => ?_⟩
    · exact List.pairwise_of_forall_mem_list fun a ha b hb => by rw [bucket_val ha, bucket_val hb]; exact Int.le_refl _
    · have := h2 a ha; rw [bucket_val hb]; omega
    · rcases List.mem_append.1 ha with ha | ha
      · have := h2 a ha; push_cast; omega
      · rw [bucket_val ha]; push_cast; omega
/-- Falling has at most one box more than so many that do. -/
theorem fall_few {room : Int} {l : List Int} {m : Nat} (h1 : 1 ≤ room) (h12 : l.length ≤ 12) (hall : ∀ i : Nat, i < l.length → 1 ≤ rd l (i : Int) ∧ rd l (i : Int) ≤ room) (hF : ∃ g : Nat → Nat, (∀ i, i < l.length → g i < m) ∧ ∀ b, bs (fun i => rd l (i : Int)) g b l.length ≤ room) :
    ((ordT l l.length room room.toNat).foldl (fitStep room l fun _ _ => false) (List.replicate l.length 0, List.replicate 12 0, 0)).2.2 ≤ m + 1 := by
  have hO := ord_perm (l := l) (room := room) (R := room.toNat) (by omega) l.length hall
  have h := few_fold (m := m) hF h12 hall (ordT l l.length room room.toNat) [] (List.replicate l.length 0, List.replicate 12 0, 0) ⟨FI.start room l (by omega), Nat.zero_le _, fun h => absurd (show (0 : Nat) = m + 1 from h) (by omega)⟩ (by rw [List.nil_append]; exact hO) (by rw [List.nil_append]; exact (ord_desc l l.length room room.toNat).1)
  exact h.few

end Go.Proofs.Ytoecbchfdgbliaa.Math
