/- The form of a function and the function of a form are each other's. -/
import Derived.Test.YtpkmmbicpijgpaaMathE
import Derived.Test.YtpkmmbicpijgpaaFx4

namespace Go.Proofs.Ytpkmmbicpijgpaa.Pure
open Go.RowKit Go.Proofs.Ytpkmmbicpijgpaa.F Go.Proofs.YtpkmmbicpijgpaaW.PrintWords Go.Proofs.YtpkmmbicpijgpaaW.PrintLast
open Go.Proofs.Ytpkmmbicpijgpaa.MathA Go.Proofs.Ytpkmmbicpijgpaa.MathB

theorem room_all : ∀ t : Fin 63, ∀ i : Fin 66, galloonref06_Room.f 200 ((t.val + 2 : Nat) : Int) ((i.val : Nat) : Int) = some ((ch (t.val + 2) i.val : Nat) : Int) := by decide +kernel
theorem room_ev {m : Nat} (h : Mod m) {i : Nat} (hi : i ≤ 65) {k : Nat} (hk : 200 ≤ k) : galloonref06_Room.f k (m : Int) (i : Int) = some (ch m i : Int) := by
  obtain ⟨t, rfl⟩ := h.fin
  exact at_rounds (fun k => galloonref06_Room.mono _ _ k) hk (room_all t ⟨i, by omega⟩)


end Go.Proofs.Ytpkmmbicpijgpaa.Pure

namespace Go.Proofs.Ytpkmmbicpijgpaa.Pure
open Go.RowKit Go.Proofs.Ytpkmmbicpijgpaa.F Go.Proofs.YtpkmmbicpijgpaaW.PrintWords Go.Proofs.YtpkmmbicpijgpaaW.PrintLast
open Go.Proofs.Ytpkmmbicpijgpaa.MathA Go.Proofs.Ytpkmmbicpijgpaa.MathB

theorem step_nat {j : Nat} (h : j ≤ 1000000) : wrap64 ((j : Int) + 1) = ((j + 1 : Nat) : Int) := by
  rw [wrap_in (by omega) (by omega)]; push_cast; rfl

/-! ### falling of the reference -/
theorem rfalling_l0 {m : Nat} (h : Mod m) (x n : Nat) (hx : x ≤ 64) (hn : n ≤ 65) : ∀ (d j : Nat), j + d = n → 0 < j → ∀ k, d < k →
    galloonref06_falling.l0 k (m : Int) (x : Int) (n : Int) (ff (x : Int) j % (m : Int)) (j : Int) = some (ff (x : Int) n % (m : Int)) := by
  have h1 := h.lo
  have h2 := h.hi
  intro d
  induction d with
  | zero =>
    intro j hj hj0 k hk
    obtain ⟨k, rfl, _⟩ := succ_of_lt hk
    simp only [galloonref06_falling.l0]
    rw [if_neg (by omega)]
    obtain rfl : j = n := by omega
    rfl
  | succ d ih =>
    intro j hj hj0 k hk
    obtain ⟨k, rfl, hk⟩ := succ_of_lt hk
    simp only [galloonref06_falling.l0]
    rw [if_pos (by omega), if_neg (by omega)]
    have e1 : wrap64 ((x : Int) - (j : Int)) = (x : Int) - j := wrap_in (by omega) (by omega)
    have b1 := Int.emod_nonneg (ff (x : Int) j) (show (m : Int) ≠ 0 by omega)
    have b2 := Int.emod_lt_of_pos (ff (x : Int) j) (show (0 : Int) < m by omega)
    have b3 : 0 ≤ mx ((x : Int) - j) 0 ∧ mx ((x : Int) - j) 0 ≤ 64 := by unfold mx; split <;> omega
    have b5 := mulmod_small b1 b2 b3.1 b3.2 (by omega)
    rw [e1, step_nat (by omega), wrap_in (n := ff (x : Int) j % (m : Int) * mx ((x : Int) - j) 0) (by omega) (by omega), Int.tmod_eq_emod_of_nonneg b5.1]
    have e5 : ff (x : Int) j % (m : Int) * mx ((x : Int) - j) 0 % (m : Int) = ff (x : Int) (j + 1) % (m : Int) := by
      by_cases hc : j ≤ x
      · have e6 : mx ((x : Int) - j) 0 = (x : Int) - j := by unfold mx; split <;> omega
        rw [e6, ff_succ, Int.mul_emod, Int.emod_emod, ← Int.mul_emod]
      · rw [ff_zero_of_lt x j (by omega), ff_zero_of_lt x (j + 1) (by omega)]
        simp
    rw [e5]
    exact ih (j + 1) (by omega) (by omega) k (by omega)

theorem rfalling_ev {m : Nat} (h : Mod m) (x n : Nat) (hx : x ≤ 64) (hn : n ≤ 65) {k : Nat} (hk : 200 ≤ k) : galloonref06_falling.f k (m : Int) (x : Int) (n : Int) = some (ff (x : Int) n % (m : Int)) := by
  have h1 := h.lo
  have h2 := h.hi
  unfold galloonref06_falling.f
  cases n with
  | zero =>
    obtain ⟨k, rfl, _⟩ := succ_of_lt (show 0 < k by omega)
    simp only [galloonref06_falling.l0]
    rw [if_neg (by omega)]
    have : (1 : Int) % (m : Int) = 1 := Int.emod_eq_of_lt (by omega) (by omega)
    simp [ff, this]
  | succ n =>
    obtain ⟨k, rfl, hk⟩ := succ_of_lt (show 199 < k by omega)
    simp only [galloonref06_falling.l0]
    rw [if_pos (by omega), if_neg (by omega)]
    have b3 : mx (wrap64 ((x : Int) - 0)) 0 = (x : Int) := by rw [wrap_in (by omega) (by omega)]; unfold mx; split <;> omega
    rw [b3, wrap_in (n := 1 * (x : Int)) (by omega) (by omega), Int.tmod_eq_emod_of_nonneg (by omega)]
    have e : (1 * (x : Int)) % (m : Int) = ff (x : Int) 1 % (m : Int) := by simp [ff]
    have e2 : wrap64 ((0 : Int) + 1) = ((1 : Nat) : Int) := by rw [wrap_in (by omega) (by omega)]; rfl
    rw [e, e2]
    exact rfalling_l0 h x (n + 1) hx hn n 1 (by omega) (by omega) k (by omega)

/-! ### what fits -/
def fitsB (m : Nat) : Nat → List Int → Bool
  | _, [] => true
  | i, c :: l => decide (0 ≤ c) && decide (c < (ch m i : Int)) && fitsB m (i + 1) l

theorem fitsB_iff (m : Nat) (i : Nat) (l : List Int) : fitsB m i l = true ↔ MathB.Fits m i l := by
  induction l generalizing i with
  | nil => simp [fitsB, MathB.Fits]
  | cons c l ih => simp [fitsB, MathB.Fits, ih, and_assoc]

def lastPos (l : List Int) : Bool := match l.getLast? with | none => true | some v => decide (0 < v)

theorem drop_cons {l : List Int} {i : Nat} (hi : i < l.length) : l.drop i = l.getD i 0 :: l.drop (i + 1) := by
  rw [List.drop_eq_getElem_cons hi]
  simp [hi]

def combS (m : Nat) (l : List Int) : List Int := (List.range m).map fun (x : Nat) => comb 0 l (x : Int) % (m : Int)
theorem combS_length (m : Nat) (l : List Int) : (combS m l).length = m := by simp [combS]
theorem combS_get {m : Nat} (l : List Int) {x : Nat} (hx : x < m) : (combS m l).getD x 0 = comb 0 l (x : Int) % (m : Int) := by simp [combS, hx]
theorem combS_rem {m : Nat} (h : Mod m) (l : List Int) : Rem m (combS m l) := by
  have h1 := h.lo
  intro v hv
  unfold combS at hv
  rw [List.mem_map] at hv
  obtain ⟨x, _, rfl⟩ := hv
  exact ⟨Int.emod_nonneg _ (by omega), Int.emod_lt_of_pos _ (by omega)⟩

theorem take_comb {l : List Int} {i : Nat} (hi : i < l.length) (x : Int) : comb 0 (l.take (i + 1)) x = comb 0 (l.take i) x + l.getD i 0 * ff x i := by
  have e : l.take (i + 1) = l.take i ++ [l.getD i 0] := by
    rw [List.take_succ_eq_append_getElem hi]
    simp [hi]
  rw [e, comb_append, Nat.zero_add, List.length_take, show min i l.length = i by omega]
  simp [comb]

theorem ints_l0 (l : List Int) (hl : l.length ≤ 1000000) : ∀ (d j : Nat), j + d = l.length → Ev (fun k => galloonlaw06_ints.l0 k l l (j : Int)) true := by
  intro d
  induction d with
  | zero =>
    intro j hj
    refine Ev.step (fun k => by simp only [galloonlaw06_ints.l0]; exact rfl) ?_
    exact Ev.neg (by omega) (Ev.now _)
  | succ d ih =>
    intro j hj
    refine Ev.step (fun k => by simp only [galloonlaw06_ints.l0]; exact rfl) ?_
    refine Ev.pos (by omega) (Ev.pos (by omega) (Ev.pos (by omega) (Ev.pos trivial ?_)))
    rw [step_nat (by omega)]
    exact ih (j + 1) (by omega)
theorem ints_same (l : List Int) (hl : l.length ≤ 1000000) : Ev (fun k => galloonlaw06_ints.f k l l) true := by
  unfold galloonlaw06_ints.f
  exact Ev.pos rfl (ints_l0 l hl l.length 0 (by omega))


end Go.Proofs.Ytpkmmbicpijgpaa.Pure

namespace Go.Proofs.Ytpkmmbicpijgpaa.Pure
open Go.RowKit Go.Proofs.Ytpkmmbicpijgpaa.F Go.Proofs.YtpkmmbicpijgpaaW.PrintWords Go.Proofs.YtpkmmbicpijgpaaW.PrintLast
open Go.Proofs.Ytpkmmbicpijgpaa.MathA Go.Proofs.Ytpkmmbicpijgpaa.MathB

theorem comb_trim (l : List Int) (i : Nat) (x : Int) : comb i (trim l) x = comb i l x := by
  induction l generalizing i with
  | nil => rfl
  | cons a l ih =>
    rw [trim]
    split
    · rename_i h
      have := ih (i + 1)
      rw [h.1] at this
      rw [comb_cons, ← this, h.2]
      simp [comb]
    · rw [comb_cons, comb_cons, ih]

theorem fits_trim {m : Nat} (l : List Int) (i : Nat) (h : MathB.Fits m i l) : MathB.Fits m i (trim l) := by
  induction l generalizing i with
  | nil => exact h
  | cons a l ih =>
    rw [trim]
    split
    · trivial
    · exact ⟨h.1, h.2.1, ih (i + 1) h.2.2⟩

theorem trim_last_ne (l : List Int) : ∀ v, (trim l).getLast? = some v → v ≠ 0 := by
  induction l with
  | nil => intro v hv; simp [trim] at hv
  | cons a l ih =>
    intro v hv
    rw [trim] at hv
    split at hv
    · simp at hv
    · rename_i h
      cases ht : trim l with
      | nil =>
        rw [ht] at hv
        simp at hv
        rw [← hv]
        exact fun e => h ⟨ht, e⟩
      | cons b r =>
        rw [ht] at hv ih
        rw [List.getLast?_cons_cons] at hv
        exact ih v hv

theorem fits_nonneg {m : Nat} : ∀ (l : List Int) (i : Nat), MathB.Fits m i l → ∀ v ∈ l, 0 ≤ v
  | [], _, _ => fun v hv => by cases hv
  | a :: l, i, h => fun v hv => by
    rcases List.mem_cons.1 hv with e | e
    · rw [e]; exact h.1
    · exact fits_nonneg l (i + 1) h.2.2 v e

theorem formed_trim {m : Nat} (l : List Int) (h : MathB.Fits m 0 l) : (fitsB m 0 (trim l) && lastPos (trim l)) = true := by
  have hf := fits_trim l 0 h
  rw [Bool.and_eq_true, fitsB_iff]
  refine ⟨hf, ?_⟩
  unfold lastPos
  cases e : (trim l).getLast? with
  | none => rfl
  | some v =>
    have h1 := trim_last_ne l v e
    have h2 := fits_nonneg _ _ hf v (List.mem_of_getLast? e)
    exact decide_eq_true (by omega)

theorem combS_of_same {m : Nat} {f : List Int} (hf : Rem m f) (hlen : f.length = m) (c : List Int) (h : MathB.Same m f 0 c) : combS m c = f := by
  apply List.ext_getElem
  · rw [combS_length, hlen]
  · intro i h1 h2
    have h3 := h i h2
    have hb := hf f[i] (List.getElem_mem h2)
    have e : f.getD i 0 = f[i] := by simp [h2]
    rw [e] at h3
    simp only [combS, List.getElem_map, List.getElem_range]
    have := Int.emod_emod_of_dvd (comb 0 c (i : Int)) (Int.dvd_refl (m : Int))
    have h4 := Int.emod_eq_emod_iff_emod_sub_eq_zero.2 (Int.emod_eq_zero_of_dvd h3)
    rw [← h4, Int.emod_eq_of_lt hb.1 hb.2]

/-- All of it, of a polynomial function. -/
theorem Form_all {m : Nat} (h : Mod m) {f : List Int} (hf : Rem m f) (hlen : f.length = m) (hs : ∃ a, MathB.Same m f 0 a) :
    ∃ c, Ev (fun k => shuffle_Form.f k (m : Int) f) (c, 0) ∧ c.length ≤ degN m ∧ (fitsB m 0 c && lastPos c) = true ∧ combS m c = f := by
  obtain ⟨a, ha⟩ := hs
  have h1 := h.lo
  obtain ⟨cs, e, hl, hfit, hsame⟩ := formS_ok (m := m) (d := degN m) (by omega) (deg_dvd h) (degN m) 0 [] f a (by omega) (by rw [hlen]; exact deg_le h) hf ha
  have hF := Form_ev h hf hlen
  rw [e] at hF
  simp only [if_true, List.nil_append] at hF
  have := trim_length cs
  refine ⟨_, hF, by omega, formed_trim cs hfit, ?_⟩
  refine combS_of_same hf hlen _ fun x hx => ?_
  rw [comb_trim]
  exact hsame x hx

/-! ### a prime modulus: every function is polynomial -/

end Go.Proofs.Ytpkmmbicpijgpaa.Pure

