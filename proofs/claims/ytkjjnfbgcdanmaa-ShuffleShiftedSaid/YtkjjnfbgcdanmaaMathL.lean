/- The numbers that move along: what the program finds, and that they are those of the plain mathematics. -/
import Derived.Test.YtkjjnfbgcdanmaaMathE
import Derived.Test.YtkjjnfbgcdanmaaMathK
import Derived.Test.YtkjjnfbgcdanmaaPx20 -- @shuffle_Shifts
namespace Go.Proofs.Ytkjjnfbgcdanmaa.Pure
open Go.RowKit Go.Proofs.Ytkjjnfbgcdanmaa.P Go.Proofs.YtkjjnfbgcdanmaaW.PrintWords Go.Proofs.YtkjjnfbgcdanmaaW.PrintLast
open Go.Proofs.Ytkjjnfbgcdanmaa.MathA Go.Proofs.Ytkjjnfbgcdanmaa.MathB

/-- Whether a moves along at the place x. -/
def moveB (m : Nat) (f : List Int) (a x : Nat) : Bool := decide ((f.getD ((x + a) % m) 0 - f.getD x 0 - (a : Int)) % (m : Int) = 0)
def shB (m : Nat) (f : List Int) (a : Nat) : Bool := (List.range m).all (moveB m f a)
def shS (m : Nat) (f : List Int) : List Int := ((List.range m).filter (shB m f)).map (fun a : Nat => (a : Int))

theorem getD_mem {f : List Int} {i : Nat} (h : i < f.length) : f.getD i 0 ∈ f := by
  rw [List.getD_eq_getElem?_getD, List.getElem?_eq_getElem h]
  exact List.getElem_mem h

theorem shB_iff {m : Nat} (h : Mod m) (f : List Int) (a : Nat) : shB m f a = true ↔ MathK.Sh m (fun x => f.getD x 0) a := by
  have h1 := h.lo
  unfold shB MathK.Sh
  rw [List.all_eq_true]
  constructor
  · intro hh x
    have := hh (x % m) (List.mem_range.2 (Nat.mod_lt _ (by omega)))
    unfold moveB at this
    rw [decide_eq_true_iff, Nat.mod_add_mod] at this
    exact this
  · intro hh x hx
    have := hh x
    unfold moveB
    rw [decide_eq_true_iff]
    rw [Nat.mod_eq_of_lt (List.mem_range.1 hx)] at this
    exact this

theorem moved_eq {m : Nat} (h : Mod m) {f : List Int} (hf : Rem m f) (hl : f.length = m) {a x : Nat} (ha : a < m) (hx : x < m) :
    Hand.moved (m : Int) f a x = (f.getD ((x + a) % m) 0 - (a : Int)) % (m : Int) := by
  have h1 := h.lo
  have h2 := h.hi
  unfold Hand.moved
  rw [wrap_in (n := (x : Int) + (a : Int)) (by omega) (by omega), Int.tmod_eq_emod_of_nonneg (a := (x : Int) + (a : Int)) (by omega)]
  have e : ((x : Int) + (a : Int)) % (m : Int) = (((x + a) % m : Nat) : Int) := by push_cast; rfl
  rw [e, rd_nat]
  have hlt : (x + a) % m < m := Nat.mod_lt _ (by omega)
  have hb := hf _ (getD_mem (f := f) (i := (x + a) % m) (by omega))
  rw [wrap_in (n := f.getD ((x + a) % m) 0 - (a : Int)) (by omega) (by omega), wrap_in (by omega) (by omega), Int.tmod_eq_emod_of_nonneg (by omega), Int.add_emod_right]

theorem shiftsT_eq {m : Nat} (h : Mod m) {f : List Int} (hf : Rem m f) (hl : f.length = m) {a : Nat} (ha : a < m) : Hand.shiftsT (m : Int) f a = shB m f a := by
  have h1 := h.lo
  unfold Hand.shiftsT shB
  rw [Int.toNat_natCast, Bool.eq_iff_iff, decide_eq_true_iff, List.all_eq_true]
  have key : ∀ x, x < m → (Hand.moved (m : Int) f a x = f.getD x 0 ↔ moveB m f a x = true) := by
    intro x hx
    rw [moved_eq h hf hl ha hx]
    unfold moveB
    rw [decide_eq_true_iff]
    have hb := hf _ (getD_mem (f := f) (i := x) (by omega))
    have e : f.getD ((x + a) % m) 0 - f.getD x 0 - (a : Int) = f.getD ((x + a) % m) 0 - (a : Int) - f.getD x 0 := by omega
    rw [e, ← Int.emod_eq_emod_iff_emod_sub_eq_zero, Int.emod_eq_of_lt hb.1 hb.2]
  constructor
  · intro e x hx
    have hx' := List.mem_range.1 hx
    rw [← key x hx']
    have : ((List.range m).map (Hand.moved (m : Int) f a)).getD x 0 = f.getD x 0 := by rw [e]
    simpa [hx'] using this
  · intro hh
    refine List.ext_getElem (by simp [hl]) fun i h3 h4 => ?_
    have hi : i < m := by omega
    have := (key i hi).2 (hh i (List.mem_range.2 hi))
    simpa [h4] using this

theorem shiftsL_eq {m : Nat} (h : Mod m) {f : List Int} (hf : Rem m f) (hl : f.length = m) : Hand.shiftsL (m : Int) f = shS m f := by
  unfold Hand.shiftsL shS
  rw [Int.toNat_natCast]
  congr 1
  apply List.filter_congr
  intro a ha
  exact shiftsT_eq h hf hl (List.mem_range.1 ha)

theorem shifts_ev {m : Nat} (h : Mod m) {l : List Int} (hl : Rem m l) (h12 : l.length ≤ 12) : Ev (fun k => shuffle_Shifts.f k (m : Int) l) (shS m (valS m l), 0) := by
  have h1 := h.lo
  have h2 := h.hi
  unfold shuffle_Shifts.f Hand.shuffle_Shifts.f
  refine Ev.bind (Ev.from200 fun k hk => values_ev h hl h12 hk) ?_
  refine Ev.pos rfl (Ev.pos ⟨by omega, by omega, by simp [valS_length]⟩ ?_)
  rw [shiftsL_eq h (valS_rem h l) (valS_length m l)]
  exact Ev.now _

end Go.Proofs.Ytkjjnfbgcdanmaa.Pure
