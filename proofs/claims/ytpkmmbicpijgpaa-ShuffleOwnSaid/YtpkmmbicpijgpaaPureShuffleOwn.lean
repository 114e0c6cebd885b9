/- For every int and list, ShuffleOwn answers true: results are new memory, and no function changes its arguments. -/
import Derived.Test.YtpkmmbicpijgpaaHandOW
import Derived.Test.YtpkmmbicpijgpaaMathOM
namespace Go.Proofs.Ytpkmmbicpijgpaa.Pure
open Go.RowKit Go.Proofs.Ytpkmmbicpijgpaa.O Go.Proofs.YtpkmmbicpijgpaaW.PrintWords Go.Proofs.YtpkmmbicpijgpaaW.PrintLast
open Go.Proofs.Ytpkmmbicpijgpaa.MathA Go.Proofs.Ytpkmmbicpijgpaa.MathB

theorem prt_more : ∀ t : Fin 63, 0 < (prt (t.val + 2)).length ∧ (prt (t.val + 2)).all (fun q => decide (pw q ≤ t.val + 2)) = true := by decide +kernel

theorem ShuffleOwn : galloonlaw06_ShuffleOwn.Pure := by
  intro a l1 _ hm1 _ _
  obtain ⟨m, h, t, ht, hw⟩ := mod_of a
  have h1 := h.lo
  have h2 := h.hi
  unfold maxLen at hm1
  have hp := tameS_rem h l1
  have hpl := tameS_len m l1
  have ht1 : Ev (fun k => galloonlaw06_tame.f k (m : Int) l1) (tameS m l1) := tame_ev h l1 (by omega)
  generalize tameS m l1 = l at hp hpl ht1
  have hf := valS_length m l
  have hl : l.take 65 = l := List.take_of_length_le (by omega)
  have hfl : (valS m l).take 65 = valS m l := List.take_of_length_le (by omega)
  obtain ⟨c, hc, hcl⟩ := Form_poly h (valS_rem h l) hf (valS_same m l)
  have hd := deg_le h
  obtain ⟨hn0, hall⟩ : 0 < (prt m).length ∧ (prt m).all (fun q => decide (pw q ≤ m)) = true := by
    obtain ⟨s, rfl⟩ := h.fin
    exact prt_more s
  have hle := prt_len h
  obtain ⟨K1, e1⟩ := ht1
  obtain ⟨K2, e2⟩ := hc
  obtain ⟨K3, e3⟩ := split_ev h hp hpl
  obtain ⟨K4, e4⟩ := ints_self l (by omega)
  obtain ⟨K5, e5⟩ := ints_self (valS m l) (by omega)
  obtain ⟨K6, e6⟩ := refVal_ev h hp (by omega)
  obtain ⟨q, hq⟩ : ∃ q, (prt m)[0]? = some q := ⟨_, List.getElem?_eq_getElem hn0⟩
  have hqm := List.mem_of_getElem? hq
  have hqle : pw q ≤ m := of_decide_eq_true (List.all_eq_true.1 hall q hqm)
  have hqp := (prt_ok h hqm).1
  have e0 : ((prt m).map (fun q => valS (pw q) l)).getD 0 [] = valS (pw q) l := by rw [List.getD_eq_getElem?_getD, List.getElem?_map, hq]; rfl
  have hq64 := hqp.hi
  obtain ⟨K7, e7⟩ := listed_ev (m : Int) (valS (pw q) l) (by rw [valS_length]; omega)
  have hrem : remB (m : Int) (valS (pw q) l) = true := (remB_iff _).2 ((valS_rem hqp l).le hqle)
  rw [hrem] at e7
  obtain ⟨K8, e8⟩ := awake_ev
  obtain ⟨k, hk⟩ : ∃ k, k = K1 + K2 + K3 + K4 + K5 + K6 + K7 + K8 + 200 := ⟨_, rfl⟩
  refine ⟨k, t, l, l, valS m l, valS m l, c, (valS m l).map (fun y => rd (valS m l) y), valS m l, 0, (prt m).map toS, (prt m).map (fun q => valS (pw q) l), ht, ?_⟩
  rw [hw]
  refine ⟨e1 k (by omega), values_ev h hp hpl (by omega), by show some (l.take 65) = some l; rw [hl], by show some ((valS m l).take 65) = some (valS m l); rw [hfl], e2 k (by omega), after_ev h (valS_rem h l) (valS_rem h l) hf hf (by omega), e3 k (by omega), e4 k (by omega), e5 k (by omega), by rw [List.length_map]; exact hn0, by rw [List.length_map]; omega, by rw [List.length_map]; exact hn0, by rw [List.length_map]; omega, fun r hr => ?_, by omega, by omega, e6 k (by omega), e5 k (by omega), ?_, e8 k (by omega)⟩
  · obtain ⟨q', hq', rfl⟩ := List.mem_map.1 hr
    have := (prt_ok h hq').1.hi
    rw [valS_length]; omega
  · rw [e0]
    exact e7 k (by omega)

end Go.Proofs.Ytpkmmbicpijgpaa.Pure
