/- The form of a function and the function of a form are each other's. -/
import Derived.Test.YtkjjnfbgcdanmaaMathF
import Derived.Test.YtkjjnfbgcdanmaaMathE
namespace Go.Proofs.Ytkjjnfbgcdanmaa.Pure
open Go.RowKit Go.Proofs.Ytkjjnfbgcdanmaa.P Go.Proofs.YtkjjnfbgcdanmaaW.PrintWords Go.Proofs.YtkjjnfbgcdanmaaW.PrintLast
open Go.Proofs.Ytkjjnfbgcdanmaa.MathA Go.Proofs.Ytkjjnfbgcdanmaa.MathB

theorem comb_trim (l : List Int) (i : Nat) (x : Int) : comb i (trim l) x = comb i l x := by
  induction l generalizing i with
  | nil => rfl
  | cons a l ih =>
    rw [trim]
    split
    · rename_i h
      have := ih (i + 1)
      rw [h.1] at this
      rw [comb_cons, ← this, h.2]
      simp [comb]
    · rw [comb_cons, comb_cons, ih]

theorem fits_trim {m : Nat} (l : List Int) (i : Nat) (h : MathB.Fits m i l) : MathB.Fits m i (trim l) := by
  induction l generalizing i with
  | nil => exact h
  | cons a l ih =>
    rw [trim]
    split
    · trivial
    · exact ⟨h.1, h.2.1, ih (i + 1) h.2.2⟩

theorem trim_last_ne (l : List Int) : ∀ v, (trim l).getLast? = some v → v ≠ 0 := by
  induction l with
  | nil => intro v hv; simp [trim] at hv
  | cons a l ih =>
    intro v hv
    rw [trim] at hv
    split at hv
    · simp at hv
    · rename_i h
      cases ht : trim l with
      | nil =>
        rw [ht] at hv
        simp at hv
        rw [← hv]
        exact fun e => h ⟨ht, e⟩
      | cons b r =>
        rw [ht] at hv ih
        rw [List.getLast?_cons_cons] at hv
        exact ih v hv

theorem fits_nonneg {m : Nat} : ∀ (l : List Int) (i : Nat), MathB.Fits m i l → ∀ v ∈ l, 0 ≤ v
  | [], _, _ => fun v hv => by cases hv
  | a :: l, i, h => fun v hv => by
    rcases List.mem_cons.1 hv with e | e
    · rw [e]; exact h.1
    · exact fits_nonneg l (i + 1) h.2.2 v e

theorem formed_trim {m : Nat} (l : List Int) (h : MathB.Fits m 0 l) : (fitsB m 0 (trim l) && lastPos (trim l)) = true := by
  have hf := fits_trim l 0 h
  rw [Bool.and_eq_true, fitsB_iff]
  refine ⟨hf, ?_⟩
  unfold lastPos
  cases e : (trim l).getLast? with
  | none => rfl
  | some v =>
    have h1 := trim_last_ne l v e
    have h2 := fits_nonneg _ _ hf v (List.mem_of_getLast? e)
    exact decide_eq_true (by omega)

theorem combS_of_same {m : Nat} {f : List Int} (hf : Rem m f) (hlen : f.length = m) (c : List Int) (h : MathB.Same m f 0 c) : combS m c = f := by
  apply List.ext_getElem
  · rw [combS_length, hlen]
  · intro i h1 h2
    have h3 := h i h2
    have hb := hf f[i] (List.getElem_mem h2)
    have e : f.getD i 0 = f[i] := by simp [h2]
    rw [e] at h3
    simp only [combS, List.getElem_map, List.getElem_range]
    have := Int.emod_emod_of_dvd (comb 0 c (i : Int)) (Int.dvd_refl (m : Int))
    have h4 := Int.emod_eq_emod_iff_emod_sub_eq_zero.2 (Int.emod_eq_zero_of_dvd h3)
    rw [← h4, Int.emod_eq_of_lt hb.1 hb.2]

/-- All of it, of a polynomial function. -/
theorem Form_all {m : Nat} (h : Mod m) {f : List Int} (hf : Rem m f) (hlen : f.length = m) (hs : ∃ a, MathB.Same m f 0 a) :
    ∃ c, Ev (fun k => shuffle_Form.f k (m : Int) f) (c, 0) ∧ c.length ≤ degN m ∧ (fitsB m 0 c && lastPos c) = true ∧ combS m c = f := by
  obtain ⟨a, ha⟩ := hs
  have h1 := h.lo
  obtain ⟨cs, e, hl, hfit, hsame⟩ := formS_ok (m := m) (d := degN m) (by omega) (deg_dvd h) (degN m) 0 [] f a (by omega) (by rw [hlen]; exact deg_le h) hf ha
  have hF := Form_ev h hf hlen
  rw [e] at hF
  simp only [if_true, List.nil_append] at hF
  have := trim_length cs
  refine ⟨_, hF, by omega, formed_trim cs hfit, ?_⟩
  refine combS_of_same hf hlen _ fun x hx => ?_
  rw [comb_trim]
  exact hsame x hx

/-! ### a prime modulus: every function is polynomial -/
def invB (m : Nat) : Bool := (List.range m).all fun i => (List.range 64).any fun u => decide (u * fct i % m = 1 % m)

theorem inv_of {m : Nat} (h : invB m = true) {i : Nat} (hi : i < m) : ∃ u : Nat, (m : Int) ∣ (u : Int) * (fct i : Int) - 1 := by
  unfold invB at h
  rw [List.all_eq_true] at h
  have := h i (List.mem_range.2 hi)
  rw [List.any_eq_true] at this
  obtain ⟨u, _, hu⟩ := this
  refine ⟨u, ?_⟩
  have hu' : u * fct i % m = 1 % m := by simpa using hu
  have e : (((u * fct i : Nat) : Int)) % (m : Int) = (1 : Int) % (m : Int) := by
    have := congrArg (fun n : Nat => (n : Int)) hu'
    simpa using this
  have := Int.dvd_of_emod_eq_zero (Int.emod_eq_emod_iff_emod_sub_eq_zero.1 e)
  push_cast at this
  exact this

theorem newton {m : Nat} (h : invB m = true) (g : Nat → Int) : ∀ n, n ≤ m → ∃ a : List Int, a.length = n ∧ ∀ x, x < n → (m : Int) ∣ g x - comb 0 a (x : Int)
  | 0, _ => ⟨[], rfl, fun x hx => absurd hx (by omega)⟩
  | n + 1, hn => by
    obtain ⟨a, hl, ha⟩ := newton h g n (by omega)
    obtain ⟨u, hu⟩ := inv_of h (show n < m by omega)
    refine ⟨a ++ [(u : Int) * (g n - comb 0 a (n : Int))], by simp [hl], fun x hx => ?_⟩
    rw [comb_append, Nat.zero_add, hl]
    by_cases e : x = n
    · subst e
      have e1 : comb x [(u : Int) * (g x - comb 0 a (x : Int))] (x : Int) = (u : Int) * (g x - comb 0 a (x : Int)) * (fct x : Int) := by simp [comb, ff_self]
      rw [e1]
      obtain ⟨q, hq⟩ := hu
      refine ⟨-(q * (g x - comb 0 a (x : Int))), ?_⟩
      have : (u : Int) * (g x - comb 0 a (x : Int)) * (fct x : Int) = ((u : Int) * (fct x : Int) - 1) * (g x - comb 0 a (x : Int)) + (g x - comb 0 a (x : Int)) := by grind
      rw [this, hq]
      grind
    · have e1 : comb n [(u : Int) * (g n - comb 0 a (n : Int))] (x : Int) = 0 := comb_below _ _ _ (by omega)
      rw [e1, Int.add_zero]
      exact ha x (by omega)

theorem prime_same {m : Nat} (h : invB m = true) (f : List Int) (hlen : f.length = m) : ∃ a, MathB.Same m f 0 a := by
  obtain ⟨a, _, ha⟩ := newton h (fun x => f.getD x 0) m (Nat.le_refl _)
  exact ⟨a, fun x hx => ha x (by omega)⟩

end Go.Proofs.Ytkjjnfbgcdanmaa.Pure
