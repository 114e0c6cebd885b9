/- RemnantMixed: the order of the pieces changes neither the number of boxes of Best, Fill and Falling, nor Ways, Weight, the difference of Split and the room that Rest leaves. For every room and lists. -/
import Derived.Test.YtoecbchfdgbliaaMathBX
import Derived.Test.YtoecbchfdgbliaaMathBF
import Derived.Test.YtoecbchfdgbliaaMathFX
import Derived.Test.YtoecbchfdgbliaaMathWV
import Derived.Test.YtoecbchfdgbliaaMathU
import Derived.Test.YtoecbchfdgbliaaHandMX
namespace Go.Proofs.Ytoecbchfdgbliaa.Math
open Go.RowKit Go.Proofs.Ytoecbchfdgbliaa.B Go.Proofs.YtoecbchfdgbliaaW.PrintWords Go.Proofs.YtoecbchfdgbliaaW.PrintLast Go.Proofs.YtoecbchfdgbliaaW.PrintMore
open Go.Proofs.Ytoecbchfdgbliaa.Hand hiding wrap_in look within_iff
set_option linter.unusedVariables false


/-- Best's number in another order. -/
theorem feas_perm {room : Int} {l o : List Int} (hp : l.Perm o) {m : Nat} (h : FeasB room l m) : FeasB room o m := by
  obtain ⟨P, hP, rfl⟩ := perm_pos hp
  obtain ⟨g, h1, h2⟩ := h
  refine ⟨fun i => g (P.getD i 0), fun i hi => ?_, fun b => ?_⟩
  · rw [← hp.length_eq] at hi
    exact h1 _ (pos_lt hP hi)
  · rw [← hp.length_eq]
    have e := bs_pos hP g b
    have h := h2 b
    exact Int.le_trans (Int.le_of_eq e) h
/-- The weights in another order. -/
theorem weight_perm {room : Int} {l o : List Int} (h1 : 1 ≤ room) (h2 : room ≤ 100) (hp : l.Perm o) (h12 : l.length ≤ 12) (hl : ∀ i, i < l.length → 1 ≤ pz l i ∧ pz l i ≤ room) (ho : ∀ i, i < o.length → 1 ≤ pz o i ∧ pz o i ≤ room) :
    ∀ (m j : Nat) (x7 x8 : Int) (k : Nat), (j : Int) + m = room / 2 + 1 → m + 13 < k → remnant_Weight.l0 k room l x7 x8 (room / 2 + 1) (j : Int) = remnant_Weight.l0 k room o x7 x8 (room / 2 + 1) (j : Int) := by
  intro m
  induction m with
  | zero =>
    intro j x7 x8 k hj hk
    obtain ⟨k, rfl⟩ : ∃ k', k = k' + 1 := ⟨k - 1, by omega⟩
    rw [remnant_Weight.l0, remnant_Weight.l0, if_neg (by omega), if_neg (by omega)]
  | succ m ih =>
    intro j x7 x8 k hj hk
    obtain ⟨k, rfl⟩ : ∃ k', k = k' + 1 := ⟨k - 1, by omega⟩
    have e1 := weigh_val h1 h2 (a := (j : Int)) (by omega) (by omega) l h12 hl k (by omega)
    have e2 := weigh_val h1 h2 (a := (j : Int)) (by omega) (by omega) o (by rw [← hp.length_eq]; exact h12) ho k (by omega)
    have e3 : wgt room (j : Int) (pz l) l.length = wgt room (j : Int) (pz o) o.length := wgt_perm hp room (j : Int)
    rw [remnant_Weight.l0, remnant_Weight.l0, if_pos (by omega), if_pos (by omega), e1, e2, e3]
    simp only [Option.bind_some]
    rw [next (by omega), ih (j + 1) _ _ k (by push_cast; omega) (by omega), ih (j + 1) _ _ k (by push_cast; omega) (by omega)]
/-- What Fill's number says. -/
theorem fill_number {room : Int} {l : List Int} (h : Ok room l) (hok : pieF room l = true) : ∃ (q : List Int) (m : Nat), FullB room l m ∧ (∀ m', FullB room l m' → m' ≤ m) ∧ ∀ k, 100000 ≤ k → remnant_Fill.f k room l = some (q, (m : Int), 0) := by
  obtain ⟨h1, h2, h12, hall⟩ := h
  have hp : ∀ i : Nat, i < l.length → 1 ≤ rd l (i : Int) ∧ rd l (i : Int) ≤ 100 := fun i hi => by have := hall _ (Math.rd_mem hi); omega
  obtain ⟨o, ho, hob, hfull, hk⟩ := fill_go hok hp h1 h2 h12
  have hpw : 0 < 2 ^ l.length := Nat.pow_pos (by decide)
  have hn := (B_last room l (fun i hi => (hp i hi).1) h1 (2 ^ l.length) (2 ^ l.length - 1) (by omega) (by omega)).1.1
  obtain ⟨m, hm⟩ := Int.eq_ofNat_of_zero_le hn
  rw [hm] at hk hob hfull
  refine ⟨usedF o, m, ⟨fun i => if rd o (i : Int) < 0 then m else (rd o (i : Int)).toNat, fun b hb => ?_⟩, fun m' h' => by have := full_max (fun i hi => (hp i hi).1) h1 h'; rw [hm] at this; omega, hk⟩
  have e : bs (fun i => rd l (i : Int)) (fun i => if rd o (i : Int) < 0 then m else (rd o (i : Int)).toNat) b l.length = inBox l o (b : Int) (List.range l.length) := by
    unfold bs inBox
    congr 1
    refine List.map_congr_left fun i hi => ?_
    have hi' : i < o.length := by rw [ho]; exact List.mem_range.1 hi
    have h3 := hob _ (Math.rd_mem hi')
    by_cases c : rd o (i : Int) = (b : Int)
    · rw [if_pos c, if_pos (by show (if rd o (i : Int) < 0 then m else (rd o (i : Int)).toNat) = b; rw [if_neg (by omega)]; omega)]
    · rw [if_neg c, if_neg (by
        show ¬ (if rd o (i : Int) < 0 then m else (rd o (i : Int)).toNat) = b
        split <;> omega)]
  rw [e]
  exact hfull (b : Int) (by omega) (by omega)
/-- The order that the law makes. -/
theorem ins_at (room : Int) (l by_ : List Int) (hl : l.length ≤ 12) : ∀ (m j : Nat) (o : List Int), j + m = l.length → o.Perm (l.take j) → ∃ o' : List Int, o'.Perm l ∧ ∀ k, galloonlaw09_RemnantMixed.l0 (k + m + 1) room by_ l o (j : Int) = galloonlaw09_RemnantMixed.l0 (k + 1) room by_ l o' (l.length : Int) := by
  intro m
  induction m with
  | zero =>
    intro j o hj ho
    rw [show j = l.length by omega, List.take_length] at ho
    exact ⟨o, ho, fun k => by rw [show j = l.length by omega]⟩
  | succ m ih =>
    intro j o hj ho
    have hj' : j < l.length := by omega
    have hol : o.length = j := by rw [ho.length_eq, List.length_take]; omega
    have hperm : ∀ r : Nat, (([] : List Int) ++ o.take r ++ [rd l (j : Int)] ++ o.drop r).Perm (l.take (j + 1)) := fun r => by
      have e : l.take (j + 1) = l.take j ++ [rd l (j : Int)] := by
        rw [List.take_add_one, List.getElem?_eq_getElem hj']
        simp [rd, hj']
      rw [e, List.nil_append, List.append_assoc, List.singleton_append]
      refine List.perm_middle.trans ?_
      rw [List.take_append_drop]
      exact (ho.cons _).trans (List.perm_append_singleton _ _).symm
    have hlen : ∀ r : Nat, (o.take r).length ≤ 12 ∧ (o.drop r).length ≤ 12 := fun r => by rw [List.length_take, List.length_drop]; omega
    have hw : wrap64 ((j : Int) + 1) = ((j + 1 : Nat) : Int) := next (by omega)
    have go : ∀ r : Nat, ∃ o' : List Int, o'.Perm l ∧ ∀ k, galloonlaw09_RemnantMixed.l0 (k + m + 1) room by_ l (([] : List Int) ++ o.take r ++ [rd l (j : Int)] ++ o.drop r) ((j + 1 : Nat) : Int) = galloonlaw09_RemnantMixed.l0 (k + 1) room by_ l o' (l.length : Int) := fun r => ih (j + 1) _ (by omega) (hperm r)
    by_cases hc : (j : Int) < (by_.length : Int)
    · obtain ⟨r, hr, he⟩ := mod_some (rd by_ (j : Int)) ((j + 1 : Nat) : Int) (by omega) (by omega)
      obtain ⟨o', h1, h2⟩ := go r
      have hl2 := hlen r
      refine ⟨o', h1, fun k => ?_⟩
      rw [show k + (m + 1) + 1 = (k + m + 1) + 1 by omega, galloonlaw09_RemnantMixed.l0, if_pos (by omega), if_pos hc, if_pos (by omega), hw, he]
      simp only [Option.bind_some, Int.toNat_natCast]
      rw [if_pos (by omega), if_pos (by omega), if_pos (by simp only [List.length_nil]; omega), if_pos (by simp only [List.length_append, List.length_nil]; omega), if_pos (by simp only [List.length_append, List.length_nil, List.length_singleton]; omega)]
      exact h2 k
    · obtain ⟨o', h1, h2⟩ := go j
      have hl2 := hlen j
      refine ⟨o', h1, fun k => ?_⟩
      rw [show k + (m + 1) + 1 = (k + m + 1) + 1 by omega, galloonlaw09_RemnantMixed.l0, if_pos (by omega), if_neg hc, if_pos (by omega), if_pos (by omega)]
      simp only [Option.bind_some, Int.toNat_natCast]
      rw [if_pos (by simp only [List.length_nil]; omega), if_pos (by simp only [List.length_append, List.length_nil]; omega), if_pos (by simp only [List.length_append, List.length_nil, List.length_singleton]; omega), hw]
      exact h2 k

end Go.Proofs.Ytoecbchfdgbliaa.Math
namespace Go.Proofs.Ytoecbchfdgbliaa.Pure
open Go.RowKit Go.Proofs.Ytoecbchfdgbliaa.B Go.Proofs.YtoecbchfdgbliaaW.PrintWords Go.Proofs.YtoecbchfdgbliaaW.PrintLast Go.Proofs.YtoecbchfdgbliaaW.PrintMore Go.Proofs.Ytoecbchfdgbliaa.Math
open Go.Proofs.Ytoecbchfdgbliaa.Hand hiding wrap_in look within_iff rd_mem
set_option linter.unusedVariables false

theorem RemnantMixed : galloonlaw09_RemnantMixed.Pure := by
  intro a0 l1 l2 _ _ _ _ _ _ _
  obtain ⟨F, hF⟩ : ∃ F : Nat, F = 200000 := ⟨_, rfl⟩
  refine ⟨F, ?_⟩
  obtain ⟨room, l, hOk, h10, ht⟩ := tame_ok (M := 10) (by decide) a0 l1
  have hok := (pie_iff room l).2 hOk
  obtain ⟨o, ho, hgo⟩ := ins_at room l l2 hOk.2.2.1 l.length 0 [] (by omega) (by rw [List.take_zero])
  have hp := ho.symm
  have hOko : Ok room o := ⟨hOk.1, hOk.2.1, by rw [ho.length_eq]; exact hOk.2.2.1, fun x hx => hOk.2.2.2 x (ho.mem_iff.1 hx)⟩
  have hoko := (pie_iff room o).2 hOko
  have h1 := hOk.1
  have h2 := hOk.2.1
  have h12 := hOk.2.2.1
  have h12o := hOko.2.2.1
  have hpl : ∀ i, i < l.length → 1 ≤ pz l i ∧ pz l i ≤ room := fun i hi => hOk.2.2.2 _ (Math.rd_mem hi)
  have hpo : ∀ i, i < o.length → 1 ≤ pz o i ∧ pz o i ≤ room := fun i hi => hOko.2.2.2 _ (Math.rd_mem hi)
  have hsz : Sz l := ⟨h12, fun x hx => by have := hOk.2.2.2 x hx; omega⟩
  have hok1 : pieF 100 l = true := (pie_iff 100 l).2 ⟨by decide, by decide, h12, fun x hx => by have := hOk.2.2.2 x hx; omega⟩
  have hok2 : pieF 100 o = true := (pie_iff 100 o).2 ⟨by decide, by decide, h12o, fun x hx => by have := hOko.2.2.2 x hx; omega⟩
  obtain ⟨m, q, _, hB1, hB2, hB⟩ := best_min hok h1 h2 h12 hpl
  obtain ⟨m', q', _, hB1', hB2', hB'⟩ := best_min hoko h1 h2 h12o hpo
  have em : m' = m := by
    have c1 := hB2 m' (feas_perm ho hB1')
    have c2 := hB2' m (feas_perm hp hB1)
    omega
  obtain ⟨x, f, hf1, hf2, hf⟩ := fill_number hOk hok
  obtain ⟨x', f', hf1', hf2', hf'⟩ := fill_number hOko hoko
  have ef : f' = f := by
    have c1 := hf2 f' (full_perm ho hf1')
    have c2 := hf2' f (full_perm hp hf1)
    omega
  obtain ⟨w, at_, _, _, _, _, _, _, _, hwk⟩ := best_ok hok h1 h2 h12 hpl
  have ew : ∀ k, 200 ≤ k → remnant_Weight.f k room o = remnant_Weight.f k room l := fun k hk => by
    obtain ⟨t, ht⟩ := Int.eq_ofNat_of_zero_le (show 0 ≤ room / 2 + 1 by omega)
    have e := weight_perm h1 h2 hp h12 hpl hpo t 0 (-1) 0 k (by omega) (by omega)
    unfold remnant_Weight.f remnant_arePieces.f
    rw [hok, hoko, half room h1 h2, wrap_in (n := room / 2 + 1) (by omega) (by omega)]
    simp only [Option.bind_some, if_true]
    exact e.symm
  have ews := ways_perm (room := room) h12 hp hok hoko
  have hws : (waysF room l).2 = 0 := by unfold waysF; rw [if_pos hok]
  obtain ⟨f0, Nf, _, hN, hbx⟩ := fall_boxes hOk hok
  obtain ⟨f0', Nf', _, hN', hbx'⟩ := fall_boxes hOko hoko
  have eN : Nf' = Nf := by
    have e := ord_sizes hp room room.toNat
    rw [e, ← hN'] at hN
    omega
  have eS := split_perm hsz hp hok1 hok2
  have eR := rest_perm (room := room) hsz hp hok hoko ⟨by omega, h2⟩
  have s0 := (split_val hsz hok1).1
  have s0' := (split_val (hsz.perm hp) hok2).1
  have r0 := (rest_val (room := room) hsz hok ⟨by omega, h2⟩).1
  have r0' := (rest_val (room := room) (hsz.perm hp) hoko ⟨by omega, h2⟩).1
  obtain ⟨k, hk⟩ : ∃ k, F = k + l.length + 1 := ⟨F - l.length - 1, by omega⟩
  have hgo' := hgo k
  rw [← hk] at hgo'
  have hro : galloonlaw09_RemnantMixed.l0 F room l2 l [] 0 = some o := by
    rw [show (0 : Int) = ((0 : Nat) : Int) from rfl, hgo', galloonlaw09_RemnantMixed.l0, if_neg (by omega)]
  have hw1 := hwk F (by omega)
  refine ⟨room, l, o, q, q', x, x', (fallF room l).1, (fallF room o).1, (splitF l).1, (splitF o).1, (restF room l).1, (restF room o).1, m, f, (waysF room l).1, w, at_, Nf, (splitF l).2.1, (restF room l).2.1, ht F (by omega), hro, hB F (by omega), ?_, hf F (by omega), ?_, ?_, ?_, hw1.1, ?_, ?_, ?_, hbx F (by omega), ?_, ?_, ?_, ?_, ?_, awake_ev F (by omega)⟩
  · rw [hB' F (by omega), em]
  · rw [hf' F (by omega), ef]
  · unfold remnant_Ways.f; rw [← hws]
  · unfold remnant_Ways.f; rw [← ews, ← hws]
  · rw [ew F (by omega)]; exact hw1.1
  · unfold remnant_Falling.f; rw [← f0]
  · unfold remnant_Falling.f; rw [← f0']
  · rw [hbx' F (by omega), eN]
  · unfold remnant_Split.f; rw [← s0]
  · unfold remnant_Split.f; rw [eS, ← s0']
  · unfold remnant_Rest.f; rw [← r0]
  · unfold remnant_Rest.f; rw [eR, ← r0']

end Go.Proofs.Ytoecbchfdgbliaa.Pure
