-- Plain lemmas: the smallest number of boxes that do, over the names of the B print.
import Derived.Test.YtoecbchfdgbliaaMathT
import Derived.Test.YtoecbchfdgbliaaMathR
namespace Go.Proofs.Ytoecbchfdgbliaa.Math
open Go.RowKit Go.Proofs.Ytoecbchfdgbliaa.B Go.Proofs.YtoecbchfdgbliaaW.PrintWords Go.Proofs.YtoecbchfdgbliaaW.PrintLast Go.Proofs.YtoecbchfdgbliaaW.PrintMore
open Go.Proofs.Ytoecbchfdgbliaa.Hand hiding wrap_in look within_iff
set_option linter.unusedVariables false

/-- So many boxes do. -/
def FeasB (room : Int) (l : List Int) (m : Nat) : Prop := ∃ g : Nat → Nat, (∀ i, i < l.length → g i < m) ∧ ∀ b, bs (pz l) g b l.length ≤ room

theorem ldF_snoc (p : Nat → Int) (g : Nat → Nat) (b : Nat) : ∀ (d j : Nat), ld p g b j (d + 1) = ld p g b j d + (if g (j + d) = b then p (j + d) else 0)
  | 0, j => by rw [ld, ld, ld, Nat.add_zero]; omega
  | d + 1, j => by
    rw [ld, ldF_snoc p g b d (j + 1), ld, show j + 1 + d = j + (d + 1) by omega]
    omega
theorem ldF_bs (p : Nat → Int) (g : Nat → Nat) (b : Nat) : ∀ n, ld p g b 0 n = bs p g b n
  | 0 => rfl
  | n + 1 => by rw [ldF_snoc, bs_succ, ldF_bs p g b n, Nat.zero_add]
theorem zeroF12 (b : Nat) : (List.replicate 12 (0 : Int)).getD b 0 = 0 := by rw [List.getD_eq_getElem?_getD, List.getElem?_replicate]; split <;> rfl
theorem sum_zeroF : ∀ (r : List Nat) (f : Nat → Int), (∀ i ∈ r, f i = 0) → (r.map f).sum = 0
  | [], _, _ => rfl
  | a :: r, f, h => by
    rw [List.map_cons, List.sum_cons, h a List.mem_cons_self, sum_zeroF r f fun i hi => h i (List.mem_cons_of_mem _ hi)]
    rfl
theorem feas_part {room : Int} {l q : List Int} {most n' : Nat} {y : List Int} (h0 : 0 ≤ room) (h12 : n' ≤ 12) (hlen : q.length = l.length) (hP : Part room l most q n' y) : FeasB room l n' := by
  have hb3 := (boxF_true q 0 n' hP.box).2.2
  have hin : ∀ i, i < l.length → 0 ≤ rd q (i : Int) ∧ rd q (i : Int) < (n' : Int) := fun i hi => hb3 _ (rd_memR (by omega))
  refine ⟨fun i => (rd q (i : Int)).toNat, fun i hi => by have := hin i hi; show (rd q (i : Int)).toNat < n'; omega, fun b => ?_⟩
  by_cases hb : b < 12
  · have h := hP.sum b hb
    have h2 := (hP.load b).2
    rw [h, hlen] at h2
    have e : bs (pz l) (fun i => (rd q (i : Int)).toNat) b l.length = ((List.range l.length).map fun (i : Nat) => if rd q (i : Int) = (b : Int) then rd l (i : Int) else 0).sum := by
      unfold bs
      congr 1
      refine List.map_congr_left fun i hi => ?_
      have hi' := hin i (List.mem_range.1 hi)
      by_cases k : rd q (i : Int) = (b : Int)
      · rw [if_pos k, if_pos (show (rd q (i : Int)).toNat = b by omega)]
      · rw [if_neg k, if_neg (show ¬ (rd q (i : Int)).toNat = b by omega)]
    rw [e]; exact h2
  · have : bs (pz l) (fun i => (rd q (i : Int)).toNat) b l.length = 0 := sum_zeroF _ _ fun i hi => by
      have := hin i (List.mem_range.1 hi)
      exact if_neg (show ¬ (rd q (i : Int)).toNat = b by omega)
    rw [this]; exact h0

/-- What Best answers is the smallest number that does. -/
theorem best_min {room : Int} {l : List Int} (hok : Hand.pieF room l = true) (h1 : 1 ≤ room) (h2 : room ≤ 100) (h12 : l.length ≤ 12) (hp : ∀ i, i < l.length → 1 ≤ pz l i ∧ pz l i ≤ room) :
    ∃ (m : Nat) (q : List Int), m ≤ l.length ∧ FeasB room l m ∧ (∀ m', FeasB room l m' → m ≤ m') ∧ ∀ k, 200 ≤ k → remnant_Best.f k room l = some (q, (m : Int), 0) := by
  obtain ⟨w, at_, m, q, ⟨hA0, hA1, hA2, hA3⟩, hwm, hml, hq, hlow, hk⟩ := best_ok hok h1 h2 h12 hp
  have hp0 : ∀ i : Nat, i < l.length → 0 ≤ rd l (i : Int) := fun i hi => by have := (hp i hi).1; dsimp only [pz] at this; omega
  have hmin : ∀ m', FeasB room l m' → m ≤ m' := by
    intro m' hF
    apply Classical.byContradiction
    intro hlt
    obtain ⟨g, hg, hl⟩ := hF
    have hwc := wgt_le h1 hA0 hA1 (pz l) l.length m' hp g hg (fun b _ => hl b)
    have hem := hlow m' (by rw [hA2]; exact hwc) (by omega)
    refine packs_ne room l m' hp0 (by omega) l.length [] 0 _ (by simp) (Nat.zero_le _) (by simp) (fun b _ => zeroF12 b) ⟨g, fun i _ hi => hg i (by simpa using hi), fun b hb => ?_⟩ hem
    show (List.replicate 12 (0 : Int)).getD b 0 + ld (pz l) g b 0 l.length ≤ room
    rw [zeroF12, Int.zero_add, ldF_bs]
    exact hl b
  obtain ⟨hlen, n', y, hP⟩ := packs_part room l m hp0 (by omega) l.length [] 0 _ (by simp) (Part.none room (by omega) l m) q hq
  have hfew := hP.few
  have hF := feas_part (by omega) (by omega) hlen hP
  have e : n' = m := by have := hmin n' hF; omega
  subst e
  exact ⟨n', q, hml, hF, hmin, fun k hk' => (hk k hk').2⟩

end Go.Proofs.Ytoecbchfdgbliaa.Math
