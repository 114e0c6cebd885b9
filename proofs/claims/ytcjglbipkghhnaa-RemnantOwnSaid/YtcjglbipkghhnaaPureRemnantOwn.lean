/- RemnantOwn: results are new memory, and no function changes its arguments. For every room and list. -/
import Derived.Test.YtcjglbipkghhnaaMathRO
import Derived.Test.YtcjglbipkghhnaaMathFR
import Derived.Test.YtcjglbipkghhnaaMathT
import Derived.Test.YtcjglbipkghhnaaHandRO
namespace Go.Proofs.Ytcjglbipkghhnaa.Pure
open Go.RowKit Go.Proofs.Ytcjglbipkghhnaa.B Go.Proofs.YtcjglbipkghhnaaW.PrintWords Go.Proofs.YtcjglbipkghhnaaW.PrintLast Go.Proofs.YtcjglbipkghhnaaW.PrintMore Go.Proofs.Ytcjglbipkghhnaa.Math
open Go.Proofs.Ytcjglbipkghhnaa.Hand hiding wrap_in look within_iff rd_mem
set_option linter.unusedVariables false

theorem list_all {l : List Int} (h : l.length ≤ 12) : galloonlaw09_list.f l = some l := by
  unfold galloonlaw09_list.f
  rw [List.take_of_length_le (by omega)]
theorem RemnantOwn : galloonlaw09_RemnantOwn.Pure := by
  intro a0 l1 _ _ _ _
  refine ⟨6000, ?_⟩
  obtain ⟨room, l, hOk, h12, ht⟩ := tame_ok (M := 12) (by decide) a0 l1
  have hok := (pie_iff room l).2 hOk
  have hall := hOk.2.2.2
  have h1 := hOk.1
  have h100 := hOk.2.1
  have hok100 : pieF 100 l = true := (pie_iff 100 l).2 ⟨by decide, by decide, h12, fun x hx => by have := hall x hx; omega⟩
  have hpl : ∀ i, i < l.length → 1 ≤ pz l i ∧ pz l i ≤ room := fun i hi => hall _ (Math.rd_mem hi)
  have hp : ∀ i : Nat, i < l.length → 1 ≤ rd l (i : Int) ∧ rd l (i : Int) ≤ room := fun i hi => hall _ (Math.rd_mem hi)
  have hs : ∀ i : Nat, i < l.length → 0 ≤ rd l (i : Int) ∧ rd l (i : Int) ≤ room := fun i hi => by have := hp i hi; omega
  obtain ⟨w, at_, m, q, _, _, hml, hq, _, hB⟩ := best_ok hok h1 h100 h12 hpl
  have hql : q.length = l.length := (packs_part room l m (fun i hi => (hs i hi).1) (by omega) l.length [] 0 (List.replicate 12 0) (by simp) (Part.none room (by omega) l m) q hq).1
  obtain ⟨hfl, hf0⟩ := fallF_len hok
  obtain ⟨hdl, hd0⟩ := splitF_len h12 hok100
  obtain ⟨a, ha⟩ : ∃ a, a = fitF room l (fun _ _ => false) (places l.length) := ⟨_, rfl⟩
  have hal : a.length = l.length := by rw [ha]; exact fitF_length _ _ _ _
  have hF : remnant_First.f 6000 room l = some (a, 0) := by rw [ha]; exact first_val hok 6000 (by decide)
  obtain ⟨N, hN⟩ : ∃ N : Nat, boxF 0 0 a = ((N : Int), true) := by
    have hbx := fit_box (fun _ _ => false) hs h12 (places l.length) [] _ (FI.start room l (by omega)) rfl (List.nil_append _)
    obtain ⟨st, hst⟩ : ∃ st, st = (places l.length).foldl (fitStep room l fun _ _ => false) (List.replicate l.length 0, List.replicate 12 0, 0) := ⟨_, rfl⟩
    have hf : a = st.1 := by rw [ha, hst]; rfl
    rw [← hst] at hbx
    rw [List.nil_append, placesLen, ← hal, hf, List.take_length] at hbx
    exact ⟨_, by rw [hf]; exact hbx⟩
  have hlo : remnant_Loads.f room l a = some ((loadF l a).take N, 0) := by
    unfold remnant_Loads.f
    rw [loads_val hok hal hN]
  have hsp : remnant_Split.f l = some ((splitF l).1, (splitF l).2.1, 0) := by
    unfold remnant_Split.f
    rw [← hd0]
  have hfa : remnant_Falling.f room l = some ((fallF room l).1, 0) := by
    unfold remnant_Falling.f
    rw [← hf0]
  have hll : (loadF l a).length = 12 := loadF_length l a
  exact ⟨room, l, l, a, q, (fallF room l).1, (splitF l).1, a, (loadF l a).take N, (fallF room l).1, (m : Int), (splitF l).2.1, (checkF room l a).1, (checkF room l a).2, (fillF room l a).1, (fillF room l a).2, ht 6000 (by decide), list_all h12, hF, (hB 6000 (by decide)).2, hfa, hsp,
    list_all (by omega), hlo, rfl, rfl, ints_same l (by omega) 6000 (by omega), ints_same a (by omega) 6000 (by omega), fall_eq hok h1 h100 h12 hp 6000 (by decide), ints_same _ (by omega) 6000 (by omega), awake_ev 6000 (by decide), by omega, by omega, by omega, by omega, by rw [List.length_take]; omega⟩

end Go.Proofs.Ytcjglbipkghhnaa.Pure
