/- For every int and list, ShuffleForms answers true: Form, Inverse, Order and Cycles tell what the reference tells, and refuse what is no function, no polynomial function, no permutation. -/
import Derived.Test.YtpkmmbicpijgpaaFx6
import Derived.Test.YtpkmmbicpijgpaaMathR
import Derived.Test.YtpkmmbicpijgpaaMathQ
namespace Go.Proofs.Ytpkmmbicpijgpaa.Pure
open Go.RowKit Go.Proofs.Ytpkmmbicpijgpaa.F Go.Proofs.YtpkmmbicpijgpaaW.PrintWords Go.Proofs.YtpkmmbicpijgpaaW.PrintLast
open Go.Proofs.Ytpkmmbicpijgpaa.MathY hiding F pigeon find_range_some find_range_none
set_option linter.unusedVariables false

theorem refPerm_ev (f : List Int) (hl : f.length ≤ 1000) : Ev (fun k => galloonref06_Permutation.f k f) (permB f) := Ev.bind (equal_ev f hl) (Ev.now _)
theorem forms_bad (a : Int) (l : List Int) : Ev (fun k => galloonlaw06_ShuffleForms.j0 k a l [] 2 [] 2 0 2 [] 2 true) true := by
  refine Ev.step (fun k => by simp only [galloonlaw06_ShuffleForms.j0]; exact rfl) ?_
  exact Ev.pos (by simp) (Ev.pos (by simp) (Ev.pos (by simp) (Ev.pos (by simp) (Ev.pos (by simp) (Ev.pos (by simp) (Ev.pos (by simp) (Ev.pos (by simp) (Ev.pos (by simp) (Ev.bind awake_ev (Ev.now _))))))))))
theorem Form_not {m : Int} {f : List Int} (h : shuffle_isFunction.f m f = some false) : Ev (fun k => shuffle_Form.f k m f) ([], 2) := by
  refine Ev.congr (f := fun _ => some ([], 2)) (fun k => ?_) (Ev.now _)
  unfold shuffle_Form.f
  rw [h]
  rfl
theorem forms_rest {m : Nat} (h : Mod m) {f : List Int} (hf : Rem m f) (hl : f.length = m) {i : List Int} {g : Int} {n : Int} {hh : Int} {l : List Int} {j : Int}
    (hA : permB f = true → i = invS f ∧ g = 0 ∧ n = ((lcmL (refL f) : Nat) : Int) ∧ hh = 0 ∧ l = refL f ∧ j = 0) (hB : permB f = false → i = [] ∧ g = 2 ∧ n = 0 ∧ hh = 2 ∧ l = [] ∧ j = 2) : Ev (fun k => galloonlaw06_ShuffleForms.j1 k f i g n hh l j false) true := by
  have h2 := h.hi
  refine Ev.step (fun k => by simp only [galloonlaw06_ShuffleForms.j1]; exact rfl) ?_
  refine Ev.neg (by simp) (Ev.bind (refPerm_ev f (by omega)) ?_)
  cases hp : permB f with
  | false =>
    obtain ⟨rfl, rfl, rfl, rfl, rfl, rfl⟩ := hB hp
    exact Ev.neg (by simp) (Ev.pos (by simp) (Ev.pos (by simp) (Ev.pos (by simp) (Ev.pos (by simp) (Ev.pos (by simp) (Ev.pos (by simp) (Ev.bind awake_ev (Ev.now _))))))))
  | true =>
    obtain ⟨rfl, rfl, rfl, rfl, rfl, rfl⟩ := hA hp
    have hP := prm_of h hf hl hp
    have hil : (invS f).length ≤ 1000000 := by
      have key : ∀ (r : List Nat) (o : List Int), (r.foldl (invStep f) o).length = o.length := by
        intro r
        induction r with
        | nil => intro o; rfl
        | cons x r ih => intro o; rw [List.foldl_cons, ih]; exact List.length_set
      unfold invS
      rw [key, List.length_replicate]
      omega
    have hrl : (refL f).length ≤ 1000000 := by have := refL_length hP; omega
    exact Ev.pos (by simp) (Ev.bind (refInv_ev hP) (Ev.bind (ints_same _ hil) (Ev.pos (by simp) (Ev.pos (by simp) (Ev.bind (refOrd_ev hP) (Ev.pos rfl (Ev.pos (by simp) (Ev.bind (refCyc_ev hP) (Ev.bind (ints_same _ hrl) (Ev.pos (by simp) (Ev.pos (by simp) (Ev.bind awake_ev (Ev.now _)))))))))))))

theorem ShuffleForms : galloonlaw06_ShuffleForms.Pure := by
  intro a l1 _ _ _ _
  refine Ev.rounds ?_
  unfold galloonlaw06_ShuffleForms.f
  refine Ev.bind (Ev.from200 (r := l1.take 65) fun k _ => rfl) ?_
  have hl65 : (l1.take 65).length ≤ 65 := by simp; omega
  generalize l1.take 65 = l at hl65
  by_cases hm : 2 ≤ a ∧ a ≤ 64
  · obtain ⟨m, rfl⟩ : ∃ m : Nat, a = (m : Int) := ⟨a.toNat, by omega⟩
    have h : Mod m := ⟨by omega, by omega⟩
    have h2 := h.hi
    have hfun := isFun_gen hm.1 hm.2 l
    have hmod : Ev (fun _ => galloonref06_Modulus.f (m : Int)) true := Ev.from200 fun k _ => by rw [refMod_gen, decide_eq_true hm]
    cases hb : decide ((l.length : Int) = (m : Int)) && remB (m : Int) l with
    | false =>
      rw [hb] at hfun
      have hp := isPerm_not hfun
      refine Ev.bind (Form_not hfun) (Ev.bind (Inverse_not hp) (Ev.bind (Order_not hp) (Ev.bind (Cycles_not hp) (Ev.bind hmod (Ev.pos rfl (Ev.bind (refFun_ev (m : Int) l (by omega)) ?_))))))
      rw [hb]
      exact forms_bad (m : Int) l
    | true =>
      rw [Bool.and_eq_true] at hb
      have hlen : l.length = m := by have := of_decide_eq_true hb.1; omega
      have hrem : Rem m l := (remB_iff l).1 hb.2
      have hperm := isPerm_ev h hrem hlen
      -- what the three that want a permutation answer
      obtain ⟨i, g, n, hh, cy, j, hI, hO, hC, hA, hB⟩ : ∃ (i : List Int) (g n hh : Int) (cy : List Int) (j : Int), Ev (fun k => shuffle_Inverse.f k (m : Int) l) (i, g) ∧ Ev (fun k => shuffle_Order.f k (m : Int) l) (n, hh) ∧ Ev (fun k => shuffle_Cycles.f k (m : Int) l) (cy, j) ∧
          (permB l = true → i = invS l ∧ g = 0 ∧ n = ((lcmL (refL l) : Nat) : Int) ∧ hh = 0 ∧ cy = refL l ∧ j = 0) ∧ (permB l = false → i = [] ∧ g = 2 ∧ n = 0 ∧ hh = 2 ∧ cy = [] ∧ j = 2) := by
        cases hp : permB l with
        | false =>
          rw [hp] at hperm
          exact ⟨[], 2, 0, 2, [], 2, Inverse_not hperm, Order_not hperm, Cycles_not hperm, fun h => (by cases h), fun _ => ⟨rfl, rfl, rfl, rfl, rfl, rfl⟩⟩
        | true =>
          have hP := prm_of h hrem hlen hp
          rw [hp] at hperm
          exact ⟨_, 0, _, 0, _, 0, by have := hperm; rw [← hlen] at this ⊢; exact Inverse_ev hP this, Order_ev hP hperm, Cycles_ev hP hperm, fun _ => ⟨rfl, rfl, rfl, rfl, rfl, rfl⟩, fun h => by cases h⟩
      have hrest := forms_rest h hrem hlen hA hB
      obtain ⟨c, hc⟩ := Form_both h hrem hlen
      rcases hc with ⟨h3, h4, h5⟩ | ⟨h3, h4⟩
      · refine Ev.bind h3 (Ev.bind hI (Ev.bind hO (Ev.bind hC (Ev.bind hmod (Ev.pos rfl (Ev.bind (refFun_ev (m : Int) l (by omega)) ?_))))))
        rw [hb.1, hb.2]
        refine Ev.step (fun k => by simp only [galloonlaw06_ShuffleForms.j0]; exact rfl) ?_
        exact Ev.neg (by simp) (Ev.bind h4 (Ev.pos rfl (Ev.bind (ints_same c (by omega)) (Ev.pos rfl hrest))))
      · refine Ev.bind h3 (Ev.bind hI (Ev.bind hO (Ev.bind hC (Ev.bind hmod (Ev.pos rfl (Ev.bind (refFun_ev (m : Int) l (by omega)) ?_))))))
        rw [hb.1, hb.2]
        refine Ev.step (fun k => by simp only [galloonlaw06_ShuffleForms.j0]; exact rfl) ?_
        exact Ev.neg (by simp) (Ev.bind h4 (Ev.neg (by simp) (Ev.pos (by simp) (Ev.pos (by simp) hrest))))
  · have hfun := isFun_not hm l
    have hp := isPerm_not hfun
    refine Ev.bind (Form_not hfun) (Ev.bind (Inverse_not hp) (Ev.bind (Order_not hp) (Ev.bind (Cycles_not hp) (Ev.bind (Ev.from200 (r := false) fun k _ => by rw [refMod_gen, decide_eq_false hm]) (Ev.neg (by simp) ?_)))))
    exact forms_bad a l

end Go.Proofs.Ytpkmmbicpijgpaa.Pure
