/- After. -/
import Derived.Test.YtpkmmbicpijgpaaMathC
import Derived.Test.YtpkmmbicpijgpaaOx4
namespace Go.Proofs.Ytpkmmbicpijgpaa.Pure
open Go.RowKit Go.Proofs.Ytpkmmbicpijgpaa.O Go.Proofs.YtpkmmbicpijgpaaW.PrintWords Go.Proofs.YtpkmmbicpijgpaaW.PrintLast
open Go.Proofs.Ytpkmmbicpijgpaa.MathA Go.Proofs.Ytpkmmbicpijgpaa.MathB

theorem after_l0 {m : Nat} (h : Mod m) {f g : List Int} (hf : Rem m f) (hfl : f.length = m) (hgl : g.length = m) : ∀ (d j : Nat), j + d = m → ∀ k, d < k →
    shuffle_After.l0 k g ((List.range j).map fun x => rd g (f.getD x 0)) f (f.length : Int) (j : Int) = some (f.map (fun y => rd g y), 0) := by
  have h1 := h.lo
  have h2 := h.hi
  intro d
  induction d with
  | zero =>
    intro j hj k hk
    obtain ⟨k, rfl, _⟩ := succ_of_lt hk
    simp only [shuffle_After.l0]
    rw [if_neg (by omega)]
    obtain rfl : j = m := by omega
    congr 2
    apply List.ext_getElem
    · simp [hfl]
    · intro i a b
      simp only [List.length_map, List.length_range] at a
      simp [show i < f.length by omega]
  | succ d ih =>
    intro j hj k hk
    obtain ⟨k, rfl, hk⟩ := succ_of_lt hk
    simp only [shuffle_After.l0]
    have hr := hf.get (i := j) (by omega)
    rw [if_pos (by omega), if_pos (by omega), if_pos (by omega), rd_nat, if_pos (by omega), if_pos (by omega), if_pos (by simp; omega)]
    have e3 : wrap64 ((j : Int) + 1) = ((j + 1 : Nat) : Int) := by rw [wrap_in (by omega) (by omega)]; push_cast; rfl
    have e4 : ((List.range j).map fun x => rd g (f.getD x 0)) ++ [rd g (f.getD j 0)] = (List.range (j + 1)).map fun x => rd g (f.getD x 0) := by simp [List.range_succ]
    rw [e3, e4]
    exact ih (j + 1) (by omega) k (by omega)

theorem after_ev {m : Nat} (h : Mod m) {f g : List Int} (hf : Rem m f) (hg : Rem m g) (hfl : f.length = m) (hgl : g.length = m) {k : Nat} (hk : 200 ≤ k) : shuffle_After.f k (m : Int) f g = some (f.map (fun y => rd g y), 0) := by
  have h2 := h.hi
  unfold shuffle_After.f
  rw [isFun_ev h hf hfl]
  simp only [Option.bind_some, if_true]
  rw [isFun_ev h hg hgl]
  simp only [Option.bind_some, Bool.not_true]
  obtain ⟨k, rfl, hk⟩ := succ_of_lt (show 99 < k by omega)
  simp only [shuffle_After.j0]
  rw [if_neg (by simp)]
  have := after_l0 h hf hfl hgl m 0 (by omega) k (by omega)
  simpa using this


end Go.Proofs.Ytpkmmbicpijgpaa.Pure
