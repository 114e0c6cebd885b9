/- The numbers that move along: what the program finds, and that they are those of the plain mathematics. -/
import Derived.Test.YtkjjnfbgcdanmaaMathE
import Derived.Test.YtkjjnfbgcdanmaaPx5 -- @shuffle_Shifts
namespace Go.Proofs.Ytkjjnfbgcdanmaa.MathK
/-- a moves along: f is given on 0 .. m-1. -/
def Sh (m : Nat) (f : Nat → Int) (a : Nat) : Prop := ∀ x, (f ((x + a) % m) - f (x % m) - (a : Int)) % (m : Int) = 0

theorem sh_zero (m : Nat) (f : Nat → Int) : Sh m f 0 := fun x => by simp
theorem sh_add {m : Nat} {f : Nat → Int} {a b : Nat} (ha : Sh m f a) (hb : Sh m f b) : Sh m f (a + b) := fun x => by
  have h1 := Int.dvd_of_emod_eq_zero (ha x)
  have h2 := Int.dvd_of_emod_eq_zero (hb (x + a))
  rw [Nat.add_assoc] at h2
  have := Int.dvd_add h1 h2
  refine Int.emod_eq_zero_of_dvd ?_
  have e : f ((x + a) % m) - f (x % m) - (a : Int) + (f ((x + (a + b)) % m) - f ((x + a) % m) - (b : Int)) = f ((x + (a + b)) % m) - f (x % m) - ((a + b : Nat) : Int) := by push_cast; omega
  rwa [e] at this
theorem sh_mod {m : Nat} {f : Nat → Int} {a : Nat} (ha : Sh m f a) : Sh m f (a % m) := fun x => by
  have h1 := ha x
  have e : (x + a % m) % m = (x + a) % m := by simp
  rw [e]
  have h2 := Int.dvd_of_emod_eq_zero h1
  refine Int.emod_eq_zero_of_dvd ?_
  have h3 : (a : Int) = (m : Int) * ((a / m : Nat) : Int) + ((a % m : Nat) : Int) := by
    have := Nat.div_add_mod a m
    rw [← Int.natCast_mul, ← Int.natCast_add, this]
  have := Int.dvd_add h2 (Int.dvd_mul_right (m : Int) ((a / m : Nat) : Int))
  have e : f ((x + a) % m) - f (x % m) - (a : Int) + (m : Int) * ((a / m : Nat) : Int) = f ((x + a) % m) - f (x % m) - ((a % m : Nat) : Int) := by omega
  rwa [e] at this
theorem sh_mul {m : Nat} {f : Nat → Int} {a : Nat} (ha : Sh m f a) : ∀ n, Sh m f (n * a)
  | 0 => by rw [Nat.zero_mul]; exact sh_zero m f
  | n + 1 => by rw [Nat.succ_mul]; exact sh_add (sh_mul ha n) ha
theorem sh_congr {m : Nat} {f : Nat → Int} {a b : Nat} (_hb : b < m) (h : a % m = b) (ha : Sh m f a) : Sh m f b := by
  have := sh_mod ha
  rwa [h] at this

/-- The least positive one (or m itself) divides m, and all. -/
theorem gen {m : Nat} (hm : 0 < m) (f : Nat → Int) : ∃ d q, 0 < d ∧ m = d * q ∧ ∀ a, a < m → (Sh m f a ↔ a % d = 0) := by
  have hex : ∃ d, 0 < d ∧ d ≤ m ∧ Sh m f (d % m) ∧ ∀ e, 0 < e → e < d → ¬ Sh m f e := by
    have : ∀ n, n ≤ m → (∃ d, 0 < d ∧ d ≤ n ∧ Sh m f (d % m) ∧ ∀ e, 0 < e → e < d → ¬ Sh m f e) ∨ (∀ e, 0 < e → e ≤ n → ¬ Sh m f (e % m)) := by
      intro n
      induction n with
      | zero => intro _; exact .inr fun e h1 h2 => absurd h1 (by omega)
      | succ n ih =>
        intro hn
        rcases ih (by omega) with ⟨d, h1, h2, h3, h4⟩ | h
        · exact .inl ⟨d, h1, by omega, h3, h4⟩
        · by_cases hs : Sh m f ((n + 1) % m)
          · refine .inl ⟨n + 1, by omega, Nat.le_refl _, hs, fun e h1 h2 h3 => h e h1 (by omega) ?_⟩
            rw [Nat.mod_eq_of_lt (by omega)]; exact h3
          · refine .inr fun e h1 h2 => ?_
            rcases Nat.lt_or_ge e (n + 1) with h3 | h3
            · exact h e h1 (by omega)
            · obtain rfl : e = n + 1 := by omega
              exact hs
    rcases this m (Nat.le_refl _) with ⟨d, h1, h2, h3, h4⟩ | h
    · exact ⟨d, h1, h2, h3, h4⟩
    · exact absurd (by rw [Nat.mod_self]; exact sh_zero m f) (h m hm (Nat.le_refl _))
  obtain ⟨d, hd, hdm, hS, hmin⟩ := hex
  have hsd : ∀ n, Sh m f ((n * d) % m) := fun n => by
    have := sh_mod (sh_mul hS n)
    rwa [Nat.mul_mod, Nat.mod_mod, ← Nat.mul_mod] at this
  -- a remainder of a shift is a shift
  have hrem : ∀ a, Sh m f (a % m) → Sh m f (a % d) := by
    intro a ha
    -- a % d = a - (a/d) d ≡ a + (a/d) (m-1) d
    have h1 := sh_add ha (hsd ((a / d) * (m - 1)))
    refine sh_congr (Nat.lt_of_lt_of_le (Nat.mod_lt _ hd) hdm) ?_ h1
    rw [← Nat.add_mod]
    have e : a + a / d * (m - 1) * d = a % d + m * (a / d * d) := by
      have h2 := Nat.div_add_mod a d
      have h3 : a / d * (m - 1) * d + a / d * d = m * (a / d * d) := by
        obtain ⟨k, rfl⟩ : ∃ k, m = k + 1 := ⟨m - 1, by omega⟩
        rw [Nat.add_sub_cancel, Nat.succ_mul, Nat.mul_comm (a / d) k, Nat.mul_assoc]
      have h4 : a / d * d = d * (a / d) := Nat.mul_comm _ _
      omega
    rw [e, Nat.add_mul_mod_self_left]
    exact Nat.mod_eq_of_lt (Nat.lt_of_lt_of_le (Nat.mod_lt _ hd) hdm)
  have hzero : ∀ a, Sh m f (a % m) → a % d = 0 := fun a ha => by
    rcases Nat.eq_zero_or_pos (a % d) with h | h
    · exact h
    · exact absurd (hrem a ha) (hmin _ h (Nat.mod_lt _ hd))
  have hmd := hzero m (by rw [Nat.mod_self]; exact sh_zero m f)
  refine ⟨d, m / d, hd, ?_, fun a ha => ⟨fun h => hzero a (by rwa [Nat.mod_eq_of_lt ha]), fun h => ?_⟩⟩
  · have := Nat.div_add_mod m d; omega
  · have := hsd (a / d)
    have e : a / d * d = a := by have := Nat.div_add_mod a d; rw [Nat.mul_comm]; omega
    rwa [e, Nat.mod_eq_of_lt ha] at this

theorem count_mult (d : Nat) (hd : 0 < d) : ∀ q, ((List.range (d * q)).filter (fun a => decide (a % d = 0))).length = q
  | 0 => by simp
  | q + 1 => by
    rw [Nat.mul_succ, List.range_add, List.filter_append, List.length_append, count_mult d hd q]
    congr 1
    obtain ⟨k, rfl⟩ : ∃ k, d = k + 1 := ⟨d - 1, by omega⟩
    rw [List.range_succ_eq_map, List.map_cons, List.filter_cons]
    have h0 : ((k + 1) * q + 0) % (k + 1) = 0 := by simp
    rw [if_pos (by simp)]
    have : List.filter (fun a => decide (a % (k + 1) = 0)) (List.map (fun x => (k + 1) * q + x) (List.map Nat.succ (List.range k))) = [] := by
      rw [List.filter_eq_nil_iff]
      intro a ha
      simp only [List.mem_map, List.mem_range] at ha
      obtain ⟨b, ⟨c, hc, rfl⟩, rfl⟩ := ha
      rw [Nat.mul_add_mod, Nat.mod_eq_of_lt (by omega)]
      simp
    rw [this]; rfl

/-- How many there are divides m. -/
theorem count_dvd {m : Nat} (hm : 0 < m) (f : Nat → Int) (p : Nat → Bool) (hp : ∀ a, a < m → (p a = true ↔ Sh m f a)) :
    m % ((List.range m).filter p).length = 0 := by
  obtain ⟨d, q, hd, e, h⟩ := gen hm f
  have : (List.range m).filter p = (List.range m).filter (fun a => decide (a % d = 0)) := by
    apply List.filter_congr
    intro a ha
    rw [Bool.eq_iff_iff, hp a (List.mem_range.1 ha), h a (List.mem_range.1 ha), decide_eq_true_iff]
  rw [this]
  rw [show (List.range m).filter (fun a => decide (a % d = 0)) = (List.range (d * q)).filter (fun a => decide (a % d = 0)) by rw [← e], count_mult d hd q, e]
  exact Nat.mul_mod_left d q
end Go.Proofs.Ytkjjnfbgcdanmaa.MathK

namespace Go.Proofs.Ytkjjnfbgcdanmaa.Pure
open Go.RowKit Go.Proofs.Ytkjjnfbgcdanmaa.P Go.Proofs.YtkjjnfbgcdanmaaW.PrintWords Go.Proofs.YtkjjnfbgcdanmaaW.PrintLast
open Go.Proofs.Ytkjjnfbgcdanmaa.MathA Go.Proofs.Ytkjjnfbgcdanmaa.MathB

/-- Whether a moves along at the place x. -/
def moveB (m : Nat) (f : List Int) (a x : Nat) : Bool := decide ((f.getD ((x + a) % m) 0 - f.getD x 0 - (a : Int)) % (m : Int) = 0)
def shB (m : Nat) (f : List Int) (a : Nat) : Bool := (List.range m).all (moveB m f a)
def shS (m : Nat) (f : List Int) : List Int := ((List.range m).filter (shB m f)).map (fun a : Nat => (a : Int))

theorem getD_mem {f : List Int} {i : Nat} (h : i < f.length) : f.getD i 0 ∈ f := by
  rw [List.getD_eq_getElem?_getD, List.getElem?_eq_getElem h]
  exact List.getElem_mem h

theorem shB_iff {m : Nat} (h : Mod m) (f : List Int) (a : Nat) : shB m f a = true ↔ MathK.Sh m (fun x => f.getD x 0) a := by
  have h1 := h.lo
  unfold shB MathK.Sh
  rw [List.all_eq_true]
  constructor
  · intro hh x
    have := hh (x % m) (List.mem_range.2 (Nat.mod_lt _ (by omega)))
    unfold moveB at this
    rw [decide_eq_true_iff, Nat.mod_add_mod] at this
    exact this
  · intro hh x hx
    have := hh x
    unfold moveB
    rw [decide_eq_true_iff]
    rw [Nat.mod_eq_of_lt (List.mem_range.1 hx)] at this
    exact this

theorem moved_eq {m : Nat} (h : Mod m) {f : List Int} (hf : Rem m f) (hl : f.length = m) {a x : Nat} (ha : a < m) (hx : x < m) :
    Hand.moved (m : Int) f a x = (f.getD ((x + a) % m) 0 - (a : Int)) % (m : Int) := by
  have h1 := h.lo
  have h2 := h.hi
  unfold Hand.moved
  rw [wrap_in (n := (x : Int) + (a : Int)) (by omega) (by omega), Int.tmod_eq_emod_of_nonneg (a := (x : Int) + (a : Int)) (by omega)]
  have e : ((x : Int) + (a : Int)) % (m : Int) = (((x + a) % m : Nat) : Int) := by push_cast; rfl
  rw [e, rd_nat]
  have hlt : (x + a) % m < m := Nat.mod_lt _ (by omega)
  have hb := hf _ (getD_mem (f := f) (i := (x + a) % m) (by omega))
  rw [wrap_in (n := f.getD ((x + a) % m) 0 - (a : Int)) (by omega) (by omega), wrap_in (by omega) (by omega), Int.tmod_eq_emod_of_nonneg (by omega), Int.add_emod_right]

theorem shiftsT_eq {m : Nat} (h : Mod m) {f : List Int} (hf : Rem m f) (hl : f.length = m) {a : Nat} (ha : a < m) : Hand.shiftsT (m : Int) f a = shB m f a := by
  have h1 := h.lo
  unfold Hand.shiftsT shB
  rw [Int.toNat_natCast, Bool.eq_iff_iff, decide_eq_true_iff, List.all_eq_true]
  have key : ∀ x, x < m → (Hand.moved (m : Int) f a x = f.getD x 0 ↔ moveB m f a x = true) := by
    intro x hx
    rw [moved_eq h hf hl ha hx]
    unfold moveB
    rw [decide_eq_true_iff]
    have hb := hf _ (getD_mem (f := f) (i := x) (by omega))
    have e : f.getD ((x + a) % m) 0 - f.getD x 0 - (a : Int) = f.getD ((x + a) % m) 0 - (a : Int) - f.getD x 0 := by omega
    rw [e, ← Int.emod_eq_emod_iff_emod_sub_eq_zero, Int.emod_eq_of_lt hb.1 hb.2]
  constructor
  · intro e x hx
    have hx' := List.mem_range.1 hx
    rw [← key x hx']
    have : ((List.range m).map (Hand.moved (m : Int) f a)).getD x 0 = f.getD x 0 := by rw [e]
    simpa [hx'] using this
  · intro hh
    refine List.ext_getElem (by simp [hl]) fun i h3 h4 => ?_
    have hi : i < m := by omega
    have := (key i hi).2 (hh i (List.mem_range.2 hi))
    simpa [h4] using this

theorem shiftsL_eq {m : Nat} (h : Mod m) {f : List Int} (hf : Rem m f) (hl : f.length = m) : Hand.shiftsL (m : Int) f = shS m f := by
  unfold Hand.shiftsL shS
  rw [Int.toNat_natCast]
  congr 1
  apply List.filter_congr
  intro a ha
  exact shiftsT_eq h hf hl (List.mem_range.1 ha)

theorem shifts_ev {m : Nat} (h : Mod m) {l : List Int} (hl : Rem m l) (h12 : l.length ≤ 12) : Ev (fun k => shuffle_Shifts.f k (m : Int) l) (shS m (valS m l), 0) := by
  have h1 := h.lo
  have h2 := h.hi
  unfold shuffle_Shifts.f Hand.shuffle_Shifts.f
  refine Ev.bind (Ev.from200 fun k hk => values_ev h hl h12 hk) ?_
  refine Ev.pos rfl (Ev.pos ⟨by omega, by omega, by simp [valS_length]⟩ ?_)
  rw [shiftsL_eq h (valS_rem h l) (valS_length m l)]
  exact Ev.now _

end Go.Proofs.Ytkjjnfbgcdanmaa.Pure
