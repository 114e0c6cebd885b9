/- Polynomials made from any list, and the form of their functions. -/
import Derived.Test.YtpkmmbicpijgpaaOx4
import Derived.Test.YtpkmmbicpijgpaaMathD
namespace Go.Proofs.Ytpkmmbicpijgpaa.Pure
open Go.RowKit Go.Proofs.Ytpkmmbicpijgpaa.O Go.Proofs.YtpkmmbicpijgpaaW.PrintWords Go.Proofs.YtpkmmbicpijgpaaW.PrintLast
open Go.Proofs.Ytpkmmbicpijgpaa.MathA Go.Proofs.Ytpkmmbicpijgpaa.MathB

def tameS (m : Nat) (l : List Int) : List Int := (l.take 12).map fun v => (v % 18446744073709551616) % (m : Int)

theorem tameS_rem {m : Nat} (h : Mod m) (l : List Int) : Rem m (tameS m l) := by
  have h1 := h.lo
  intro v hv
  unfold tameS at hv
  rw [List.mem_map] at hv
  obtain ⟨x, _, rfl⟩ := hv
  exact ⟨Int.emod_nonneg _ (by omega), Int.emod_lt_of_pos _ (by omega)⟩
theorem tameS_len (m : Nat) (l : List Int) : (tameS m l).length ≤ 12 := by
  unfold tameS
  rw [List.length_map, List.length_take]
  omega

theorem tame_l0 {m : Nat} (h : Mod m) (l : List Int) (hl : l.length ≤ 9223372036854775807) : ∀ (d j : Nat), j + d = min l.length 12 →
    Ev (fun k => galloonlaw06_tame.l0 k (m : Int) l (tameS m (l.take j)) (j : Int)) (tameS m l) := by
  have h1 := h.lo
  have h2 := h.hi
  intro d
  induction d with
  | zero =>
    intro j hj
    refine Ev.step (fun k => by simp only [galloonlaw06_tame.l0]; exact rfl) ?_
    have e : tameS m (l.take j) = tameS m l := by
      unfold tameS
      rw [List.take_take]
      congr 1
      by_cases hc : l.length ≤ 12
      · rw [List.take_of_length_le (by omega), List.take_of_length_le (by omega)]
      · congr 1; omega
    by_cases hlt : (j : Int) < (l.length : Int)
    · refine Ev.pos hlt (Ev.neg (by omega) ?_)
      rw [e]; exact Ev.now _
    · refine Ev.neg hlt ?_
      rw [e]; exact Ev.now _
  | succ d ih =>
    intro j hj
    refine Ev.step (fun k => by simp only [galloonlaw06_tame.l0]; exact rfl) ?_
    refine Ev.pos (by omega) (Ev.pos (by omega) (Ev.pos (by omega) ?_))
    have hm : galloonlaw06_mod.f (rd l (j : Int)) (m : Int) = some ((rd l (j : Int) % 18446744073709551616) % (m : Int)) := mod_spec _ _ (by omega) (by omega)
    rw [hm]
    have hlen : (tameS m (l.take j)).length ≤ 12 := tameS_len _ _
    refine Ev.congr (fun k => Option.bind_some _ _) (Ev.pos (by omega) ?_)
    have e3 : wrap64 ((j : Int) + 1) = ((j + 1 : Nat) : Int) := by rw [wrap_in (by omega) (by omega)]; push_cast; rfl
    have e4 : tameS m (l.take j) ++ [(rd l (j : Int) % 18446744073709551616) % (m : Int)] = tameS m (l.take (j + 1)) := by
      unfold tameS
      have hj2 : j < l.length := by omega
      rw [List.take_take, List.take_take, show min 12 j = j by omega, show min 12 (j + 1) = j + 1 by omega, List.take_succ_eq_append_getElem hj2, List.map_append, rd_nat]
      simp [hj2]
    rw [e3, e4]
    exact ih (j + 1) (by omega)

theorem tame_ev {m : Nat} (h : Mod m) (l : List Int) (hl : l.length ≤ 9223372036854775807) : Ev (fun k => galloonlaw06_tame.f k (m : Int) l) (tameS m l) := by
  have := tame_l0 h l hl (min l.length 12) 0 (by omega)
  exact this

theorem emod_dvd_sub (a m : Int) : m ∣ a % m - a := by
  refine ⟨-(a / m), ?_⟩
  have := Int.mul_ediv_add_emod a m
  grind

/-- A list is the function of a sum of falling factorials. -/
theorem same_of_is {m : Nat} {f : List Int} {g : Int → Int} (hg : Is 0 g) (hfg : ∀ x, x < f.length → f.getD x 0 = g (x : Int) % (m : Int)) : ∃ a, MathB.Same m f 0 a := by
  obtain ⟨a, ha⟩ := hg
  refine ⟨a, fun x hx => ?_⟩
  rw [hfg x hx, ← ha]
  exact emod_dvd_sub _ _

theorem valS_same (m : Nat) (l : List Int) : ∃ a, MathB.Same m (valS m l) 0 a :=
  same_of_is (horn_is l) fun x hx => valS_get l (by rw [valS_length] at hx; exact hx)

theorem trim_length (l : List Int) : (trim l).length ≤ l.length := by
  induction l with
  | nil => simp [trim]
  | cons a l ih =>
    rw [trim]
    split
    · simp
    · simp; omega

/-- The form of a polynomial function. -/
theorem Form_poly {m : Nat} (h : Mod m) {f : List Int} (hf : Rem m f) (hlen : f.length = m) (hs : ∃ a, MathB.Same m f 0 a) :
    ∃ c, Ev (fun k => shuffle_Form.f k (m : Int) f) (c, 0) ∧ c.length ≤ degN m := by
  obtain ⟨a, ha⟩ := hs
  have h1 := h.lo
  obtain ⟨cs, e, hl, _, _⟩ := formS_ok (m := m) (d := degN m) (by omega) (deg_dvd h) (degN m) 0 [] f a (by omega) (by rw [hlen]; exact deg_le h) hf ha
  have := Form_ev h hf hlen
  rw [e] at this
  simp only [if_true] at this
  refine ⟨_, this, ?_⟩
  have := trim_length ([] ++ cs)
  simp only [List.nil_append] at this ⊢
  omega

theorem Degree_ev {m : Nat} (h : Mod m) : Ev (fun k => shuffle_Degree.f k (m : Int)) ((degN m : Int), 0) := by
  refine Ev.congr (f := fun k => (shuffle_degree.f k (m : Int)).bind fun t => some (t, 0)) (fun k => by unfold shuffle_Degree.f; rw [isMod h]; simp only [Option.bind_some, if_true]) ?_
  exact Ev.bind (Ev.from200 fun k hk => degree_ev h hk) (Ev.now _)

/-- Every modulus of the statements. -/
theorem mod_of (a : Int) : ∃ m : Nat, Mod m ∧ ∃ t, galloonlaw06_mod.f a 63 = some t ∧ wrap64 (2 + t) = (m : Int) := by
  obtain ⟨t, ht, h0, h1⟩ := mod_some a 63 (by omega) (by omega)
  refine ⟨(2 + t).toNat, ⟨by omega, by omega⟩, t, ht, ?_⟩
  rw [wrap_in (by omega) (by omega)]
  omega

theorem awake_ev : Ev (fun k => galloonlaw06_awake.f k) true := Ev.of (fun k => galloonlaw06_awake.mono k) awake_40

end Go.Proofs.Ytpkmmbicpijgpaa.Pure
