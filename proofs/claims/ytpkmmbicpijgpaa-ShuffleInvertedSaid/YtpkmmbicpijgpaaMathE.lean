/- Polynomials made from any list, and the form of their functions. -/
import Derived.Test.YtpkmmbicpijgpaaMathD
namespace Go.Proofs.Ytpkmmbicpijgpaa.Pure
open Go.RowKit Go.Proofs.Ytpkmmbicpijgpaa.F Go.Proofs.YtpkmmbicpijgpaaW.PrintWords Go.Proofs.YtpkmmbicpijgpaaW.PrintLast
open Go.Proofs.Ytpkmmbicpijgpaa.MathA Go.Proofs.Ytpkmmbicpijgpaa.MathB

theorem emod_dvd_sub (a m : Int) : m ∣ a % m - a := by
  refine ⟨-(a / m), ?_⟩
  have := Int.mul_ediv_add_emod a m
  grind

/-- A list is the function of a sum of falling factorials. -/
theorem same_of_is {m : Nat} {f : List Int} {g : Int → Int} (hg : Is 0 g) (hfg : ∀ x, x < f.length → f.getD x 0 = g (x : Int) % (m : Int)) : ∃ a, MathB.Same m f 0 a := by
  obtain ⟨a, ha⟩ := hg
  refine ⟨a, fun x hx => ?_⟩
  rw [hfg x hx, ← ha]
  exact emod_dvd_sub _ _

theorem valS_same (m : Nat) (l : List Int) : ∃ a, MathB.Same m (valS m l) 0 a :=
  same_of_is (horn_is l) fun x hx => valS_get l (by rw [valS_length] at hx; exact hx)

theorem trim_length (l : List Int) : (trim l).length ≤ l.length := by
  induction l with
  | nil => simp [trim]
  | cons a l ih =>
    rw [trim]
    split
    · simp
    · simp; omega

/-- The form of a polynomial function. -/
theorem Form_poly {m : Nat} (h : Mod m) {f : List Int} (hf : Rem m f) (hlen : f.length = m) (hs : ∃ a, MathB.Same m f 0 a) :
    ∃ c, Ev (fun k => shuffle_Form.f k (m : Int) f) (c, 0) ∧ c.length ≤ degN m := by
  obtain ⟨a, ha⟩ := hs
  have h1 := h.lo
  obtain ⟨cs, e, hl, _, _⟩ := formS_ok (m := m) (d := degN m) (by omega) (deg_dvd h) (degN m) 0 [] f a (by omega) (by rw [hlen]; exact deg_le h) hf ha
  have := Form_ev h hf hlen
  rw [e] at this
  simp only [if_true] at this
  refine ⟨_, this, ?_⟩
  have := trim_length ([] ++ cs)
  simp only [List.nil_append] at this ⊢
  omega

theorem Degree_ev {m : Nat} (h : Mod m) : Ev (fun k => shuffle_Degree.f k (m : Int)) ((degN m : Int), 0) := by
  refine Ev.congr (f := fun k => (shuffle_degree.f k (m : Int)).bind fun t => some (t, 0)) (fun k => by unfold shuffle_Degree.f; rw [isMod h]; simp only [Option.bind_some, if_true]) ?_
  exact Ev.bind (Ev.from200 fun k hk => degree_ev h hk) (Ev.now _)

theorem awake_ev : Ev (fun k => galloonlaw06_awake.f k) true := Ev.of (fun k => galloonlaw06_awake.mono k) awake_40


end Go.Proofs.Ytpkmmbicpijgpaa.Pure
