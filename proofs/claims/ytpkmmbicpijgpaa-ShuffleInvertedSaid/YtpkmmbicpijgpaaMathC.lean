/- What the printed functions of layer 6 compute, as plain lists and numbers. -/
import Derived.Test.YtpkmmbicpijgpaaMath0
import Derived.Test.YtpkmmbicpijgpaaMathB
import Derived.Test.YtpkmmbicpijgpaaFx3
namespace Go.Proofs.Ytpkmmbicpijgpaa.Pure
open Go.RowKit Go.Proofs.Ytpkmmbicpijgpaa.F Go.Proofs.YtpkmmbicpijgpaaW.PrintWords Go.Proofs.YtpkmmbicpijgpaaW.PrintLast
open Go.Proofs.Ytpkmmbicpijgpaa.MathA Go.Proofs.Ytpkmmbicpijgpaa.MathB

theorem succ_of_lt {d k : Nat} (h : d < k) : ∃ q, k = q + 1 ∧ d ≤ q := ⟨k - 1, by omega, by omega⟩

/-! ### numbers of a modulus: each of the 63 is reckoned -/
def degN (m : Nat) : Nat := ((List.range 65).find? fun n => decide (fct n % m = 0)).getD 0

theorem deg_all : ∀ t : Fin 63, shuffle_degree.f 200 ((t.val + 2 : Nat) : Int) = some ((degN (t.val + 2) : Nat) : Int) ∧ degN (t.val + 2) ≤ t.val + 2 ∧ fct (degN (t.val + 2)) % (t.val + 2) = 0 ∧ 2 ≤ degN (t.val + 2) := by decide +kernel
theorem fac_all : ∀ t : Fin 63, ∀ i : Fin 65, shuffle_factorial.f 200 ((t.val + 2 : Nat) : Int) ((i.val : Nat) : Int) = some ((fct i.val : Int) % ((t.val + 2 : Nat) : Int)) := by decide +kernel
theorem cho_all : ∀ t : Fin 63, ∀ i : Fin 65, shuffle_choices.f 200 ((t.val + 2 : Nat) : Int) ((i.val : Nat) : Int) = some ((ch (t.val + 2) i.val : Nat) : Int) := by decide +kernel

/-- A modulus. -/
structure Mod (m : Nat) : Prop where
  lo : 2 ≤ m
  hi : m ≤ 64

theorem Mod.fin {m : Nat} (h : Mod m) : ∃ t : Fin 63, m = t.val + 2 := ⟨⟨m - 2, by have := h.lo; have := h.hi; omega⟩, by have := h.lo; show m = m - 2 + 2; omega⟩

theorem degree_ev {m : Nat} (h : Mod m) {k : Nat} (hk : 200 ≤ k) : shuffle_degree.f k (m : Int) = some (degN m : Int) := by
  obtain ⟨t, rfl⟩ := h.fin
  exact at_rounds (fun k => shuffle_degree.mono _ k) hk (deg_all t).1
theorem deg_le {m : Nat} (h : Mod m) : degN m ≤ m := by
  obtain ⟨t, rfl⟩ := h.fin
  exact (deg_all t).2.1
theorem deg_dvd {m : Nat} (h : Mod m) : m ∣ fct (degN m) := by
  obtain ⟨t, rfl⟩ := h.fin
  exact Nat.dvd_of_mod_eq_zero (deg_all t).2.2.1
theorem factorial_ev {m : Nat} (h : Mod m) {i : Nat} (hi : i ≤ 64) {k : Nat} (hk : 200 ≤ k) : shuffle_factorial.f k (m : Int) (i : Int) = some ((fct i : Int) % (m : Int)) := by
  obtain ⟨t, rfl⟩ := h.fin
  exact at_rounds (fun k => shuffle_factorial.mono _ _ k) hk (fac_all t ⟨i, by omega⟩)
theorem choices_ev {m : Nat} (h : Mod m) {i : Nat} (hi : i ≤ 64) {k : Nat} (hk : 200 ≤ k) : shuffle_choices.f k (m : Int) (i : Int) = some (ch m i : Int) := by
  obtain ⟨t, rfl⟩ := h.fin
  exact at_rounds (fun k => shuffle_choices.mono _ _ k) hk (cho_all t ⟨i, by omega⟩)

theorem ch_le {m : Nat} (i : Nat) : ch m i ≤ m := Nat.div_le_self _ _

theorem isMod {m : Nat} (h : Mod m) : shuffle_isModulus.f (m : Int) = some true := by
  have := h.lo; have := h.hi
  unfold shuffle_isModulus.f shuffle_within.f
  rw [if_pos (by omega)]
  simp only [Option.bind_some]
  rw [decide_eq_true (by omega)]

/-! ### falling factorials -/
theorem mulmod_small {a b m : Int} (ha0 : 0 ≤ a) (ha : a < m) (hb0 : 0 ≤ b) (hb : b ≤ 64) (hm : m ≤ 64) : 0 ≤ a * b ∧ a * b ≤ 4096 := by
  constructor
  · exact Int.mul_nonneg ha0 hb0
  · have h1 : a * b ≤ 64 * b := Int.mul_le_mul_of_nonneg_right (by omega) hb0
    omega

theorem falling_l0 {m : Nat} (h : Mod m) (x : Int) (n : Nat) (hx0 : 0 ≤ x) (hx : x < m) (hn : n ≤ m) : ∀ (d j : Nat), j + d = n → ∀ k, d < k →
    shuffle_falling.l0 k (m : Int) x (ff x j % (m : Int)) (n : Int) (j : Int) = some (ff x n % (m : Int)) := by
  have h1 := h.lo
  have h2 := h.hi
  intro d
  induction d with
  | zero =>
    intro j hj k hk
    obtain ⟨k, rfl, _⟩ := succ_of_lt hk
    simp only [shuffle_falling.l0]
    rw [if_neg (by omega)]
    obtain rfl : j = n := by omega
    rfl
  | succ d ih =>
    intro j hj k hk
    obtain ⟨k, rfl, hk⟩ := succ_of_lt hk
    simp only [shuffle_falling.l0]
    rw [if_pos (by omega), if_neg (by omega)]
    have e1 : wrap64 (x - (j : Int)) = x - j := wrap_in (by omega) (by omega)
    have e2 : wrap64 (x - (j : Int) + (m : Int)) = x - j + m := wrap_in (by omega) (by omega)
    have e3 : wrap64 ((j : Int) + 1) = ((j + 1 : Nat) : Int) := by rw [wrap_in (by omega) (by omega)]; push_cast; rfl
    rw [e1, e2, e3, Int.tmod_eq_emod_of_nonneg (a := x - (j : Int) + (m : Int)) (by omega)]
    have b1 := Int.emod_nonneg (ff x j) (show (m : Int) ≠ 0 by omega)
    have b2 := Int.emod_lt_of_pos (ff x j) (show (0 : Int) < m by omega)
    have b3 := Int.emod_nonneg (x - (j : Int) + (m : Int)) (show (m : Int) ≠ 0 by omega)
    have b4 := Int.emod_lt_of_pos (x - (j : Int) + (m : Int)) (show (0 : Int) < m by omega)
    have b5 := mulmod_small b1 b2 b3 (by omega) (by omega)
    have e4 : wrap64 (ff x j % (m : Int) * ((x - (j : Int) + (m : Int)) % (m : Int))) = ff x j % (m : Int) * ((x - (j : Int) + (m : Int)) % (m : Int)) := wrap_in (by omega) (by omega)
    rw [e4, Int.tmod_eq_emod_of_nonneg (by omega)]
    have e5 : ff x j % (m : Int) * ((x - (j : Int) + (m : Int)) % (m : Int)) % (m : Int) = ff x (j + 1) % (m : Int) := by
      rw [← Int.mul_emod, ff_succ, Int.mul_emod, Int.add_emod_right, ← Int.mul_emod]
    rw [e5]
    exact ih (j + 1) (by omega) k (by omega)

theorem falling_ev {m : Nat} (h : Mod m) (x : Int) (n : Nat) (hx0 : 0 ≤ x) (hx : x < m) (hn : n ≤ m) {k : Nat} (hk : 200 ≤ k) : shuffle_falling.f k (m : Int) x (n : Int) = some (ff x n % (m : Int)) := by
  have h1 := h.lo
  have h2 := h.hi
  unfold shuffle_falling.f
  rw [if_neg (by omega)]
  exact falling_l0 h x n hx0 hx hn n 0 (by omega) k (by omega)

/-! ### lists that are filled -/
theorem set_fill (g : Nat → Int) (M j : Nat) (hj : j < M) : ((List.range j).map g ++ List.replicate (M - j) 0).set j (g j) = (List.range (j + 1)).map g ++ List.replicate (M - (j + 1)) 0 := by
  have e : M - j = (M - (j + 1)) + 1 := by omega
  rw [e, List.replicate_succ, List.set_append_right _ _ (by simp)]
  simp [List.range_succ]

/-! ### the value of a polynomial -/
def Rem (m : Nat) (l : List Int) : Prop := ∀ v ∈ l, 0 ≤ v ∧ v < (m : Int)

theorem remF_true {m : Nat} (h : Mod m) {l : List Int} (hl : Rem m l) : Hand.remF (m : Int) l = true := by
  have h1 := h.lo
  have h2 := h.hi
  unfold Hand.remF
  rw [List.all_eq_true]
  intro v hv
  have := hl v hv
  unfold Hand.within
  rw [if_pos (by omega), wrap_in (by omega) (by omega)]
  exact decide_eq_true (by omega)

theorem atList_horn {m : Nat} (h : Mod m) (x : Int) (hx0 : 0 ≤ x) (hx : x ≤ 64) : ∀ (l : List Int), Rem m l → (l.reverse.foldl (fun out c => Hand.horner (m : Int) x out c) 0) = horn l x % (m : Int) := by
  have h1 := h.lo
  have h2 := h.hi
  intro l hl
  induction l with
  | nil => simp [horn]
  | cons c l ih =>
    have hc := hl c (List.mem_cons_self ..)
    rw [List.reverse_cons, List.foldl_append, ih (fun v hv => hl v (List.mem_cons_of_mem _ hv))]
    simp only [List.foldl_cons, List.foldl_nil]
    unfold Hand.horner
    have b1 := Int.emod_nonneg (horn l x) (show (m : Int) ≠ 0 by omega)
    have b2 := Int.emod_lt_of_pos (horn l x) (show (0 : Int) < m by omega)
    have b5 := mulmod_small b1 b2 hx0 hx (by omega)
    rw [wrap_in (n := horn l x % (m : Int) * x) (by omega) (by omega), wrap_in (by omega) (by omega), Int.tmod_eq_emod_of_nonneg (by omega), horn, Int.add_emod, Int.mul_emod, Int.emod_emod, ← Int.mul_emod, ← Int.add_emod]

theorem back_snd (l : List Int) : (Hand.back l l.length).map (fun p => p.2) = l.reverse := by
  apply List.ext_getElem
  · simp [Hand.back]
  · intro i h1 h2
    simp only [Hand.back, List.length_map, List.length_range] at h1
    simp only [Hand.back, List.map_map, List.getElem_map, List.getElem_range, Function.comp, List.getElem_reverse, rd]
    have e : ((l.length : Int) - 1 - (i : Int)).toNat = l.length - 1 - i := by omega
    rw [e]
    simp
    rw [List.getElem?_eq_getElem (by omega)]
    rfl

theorem at_ev {m : Nat} (h : Mod m) (x : Int) (hx0 : 0 ≤ x) (hx : x ≤ 64) (l : List Int) (hl : Rem m l) : shuffle_at.f (m : Int) l x = some (horn l x % (m : Int)) := by
  have h1 := h.lo
  unfold shuffle_at.f Hand.atF
  rw [if_neg (by omega)]
  have e : Hand.atList (m : Int) x (Hand.back l l.length) = l.reverse.foldl (fun out c => Hand.horner (m : Int) x out c) 0 := by
    rw [← back_snd, List.foldl_map]
    rfl
  rw [e, atList_horn h x hx0 hx l hl]

/-- The function of a polynomial. -/
def valS (m : Nat) (l : List Int) : List Int := (List.range m).map fun (x : Nat) => horn l (x : Int) % (m : Int)
theorem valS_length (m : Nat) (l : List Int) : (valS m l).length = m := by simp [valS]
theorem valS_rem {m : Nat} (h : Mod m) (l : List Int) : Rem m (valS m l) := by
  have h1 := h.lo
  intro v hv
  unfold valS at hv
  rw [List.mem_map] at hv
  obtain ⟨x, _, rfl⟩ := hv
  exact ⟨Int.emod_nonneg _ (by omega), Int.emod_lt_of_pos _ (by omega)⟩
theorem valS_get {m : Nat} (l : List Int) {x : Nat} (hx : x < m) : (valS m l).getD x 0 = horn l (x : Int) % (m : Int) := by simp [valS, hx]

theorem isPoly_ev {m : Nat} (h : Mod m) {l : List Int} (hl : Rem m l) (h12 : l.length ≤ 12) : shuffle_isPolynomial.f (m : Int) l = some true := by
  unfold shuffle_isPolynomial.f shuffle_areRemainders.f
  rw [isMod h]
  simp only [Option.bind_some, if_true]
  rw [if_pos (by omega), remF_true h hl]

theorem values_l0 {m : Nat} (h : Mod m) {l : List Int} (hl : Rem m l) : ∀ (d j : Nat), j + d = m → ∀ k, d < k →
    shuffle_Values.l0 k (m : Int) l ((List.range j).map (fun (x : Nat) => horn l (x : Int) % (m : Int)) ++ List.replicate (m - j) 0) (m : Int) (j : Int) = some (valS m l, 0) := by
  have h1 := h.lo
  have h2 := h.hi
  intro d
  induction d with
  | zero =>
    intro j hj k hk
    obtain ⟨k, rfl, _⟩ := succ_of_lt hk
    simp only [shuffle_Values.l0]
    rw [if_neg (by omega)]
    obtain rfl : j = m := by omega
    simp [valS]
  | succ d ih =>
    intro j hj k hk
    obtain ⟨k, rfl, hk⟩ := succ_of_lt hk
    simp only [shuffle_Values.l0]
    rw [if_pos (by omega), at_ev h _ (by omega) (by omega) l hl]
    simp only [Option.bind_some]
    rw [if_pos (by omega), if_pos (by simp; omega)]
    have e3 : wrap64 ((j : Int) + 1) = ((j + 1 : Nat) : Int) := by rw [wrap_in (by omega) (by omega)]; push_cast; rfl
    rw [e3, Int.toNat_natCast, set_fill (fun (x : Nat) => horn l (x : Int) % (m : Int)) m j (by omega)]
    exact ih (j + 1) (by omega) k (by omega)

theorem values_ev {m : Nat} (h : Mod m) {l : List Int} (hl : Rem m l) (h12 : l.length ≤ 12) {k : Nat} (hk : 200 ≤ k) : shuffle_Values.f k (m : Int) l = some (valS m l, 0) := by
  have h1 := h.lo
  have h2 := h.hi
  unfold shuffle_Values.f
  rw [isPoly_ev h hl h12]
  simp only [Option.bind_some, if_true]
  rw [if_pos (by omega), if_pos (by omega)]
  have := values_l0 h hl m 0 (by omega) k (by omega)
  simpa using this

/-! ### functions -/
theorem isFun_ev {m : Nat} (h : Mod m) {l : List Int} (hl : Rem m l) (hlen : l.length = m) : shuffle_isFunction.f (m : Int) l = some true := by
  unfold shuffle_isFunction.f shuffle_areRemainders.f
  rw [isMod h]
  simp only [Option.bind_some, if_true]
  rw [if_pos (by omega), remF_true h hl]

theorem rd_nat (l : List Int) (i : Nat) : rd l (i : Int) = l.getD i 0 := by simp [rd]

theorem Rem.get {m : Nat} {l : List Int} (hl : Rem m l) {i : Nat} (hi : i < l.length) : 0 ≤ l.getD i 0 ∧ l.getD i 0 < (m : Int) := by
  have := hl l[i] (List.getElem_mem hi)
  simpa [hi] using this


end Go.Proofs.Ytpkmmbicpijgpaa.Pure
