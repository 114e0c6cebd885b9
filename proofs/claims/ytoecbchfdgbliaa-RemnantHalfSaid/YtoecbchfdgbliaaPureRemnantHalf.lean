/- RemnantHalf: First, Tight and Falling are right, have no fewer boxes than Best, and at most one box with a load of at most half the room; Falling has at most 11/9 of the boxes of Best, plus 6/9. For every room and list. -/
import Derived.Test.YtoecbchfdgbliaaMathBX
import Derived.Test.YtoecbchfdgbliaaMathBF
import Derived.Test.YtoecbchfdgbliaaMathHF
import Derived.Test.YtoecbchfdgbliaaHandHF
namespace Go.Proofs.Ytoecbchfdgbliaa.Math
open Go.RowKit Go.Proofs.Ytoecbchfdgbliaa.B Go.Proofs.YtoecbchfdgbliaaW.PrintWords Go.Proofs.YtoecbchfdgbliaaW.PrintLast Go.Proofs.YtoecbchfdgbliaaW.PrintMore
open Go.Proofs.Ytoecbchfdgbliaa.Hand hiding wrap_in look within_iff
set_option linter.unusedVariables false

theorem ord_at (l : List Int) (hl : l.length ≤ 1000) : ∀ (m j : Nat), j + m = l.length → ∀ k, m < k → remnant_inOrder.l0 k (places j) (l.length : Int) (j : Int) = some (places l.length) := by
  intro m
  induction m with
  | zero =>
    intro j hj k hk
    obtain ⟨k, rfl⟩ : ∃ k', k = k' + 1 := ⟨k - 1, by omega⟩
    rw [remnant_inOrder.l0, if_neg (by omega), show j = l.length by omega]
  | succ m ih =>
    intro j hj k hk
    obtain ⟨k, rfl⟩ : ∃ k', k = k' + 1 := ⟨k - 1, by omega⟩
    rw [remnant_inOrder.l0, if_pos (by omega), if_pos (by rw [places_length]; omega), next (by omega), show places j ++ [(j : Int)] = places (j + 1) by simp [places, List.range_succ]]
    exact ih (j + 1) (by omega) k (by omega)
theorem first_val {room : Int} {l : List Int} (h : pieF room l = true) (k : Nat) (hk : 20 ≤ k) : remnant_First.f k room l = some (fitF room l (fun _ _ => false) (places l.length), 0) := by
  obtain ⟨h1, h2, h12, hall⟩ := (pie_iff room l).mp h
  unfold remnant_First.f remnant_arePieces.f fitNever.f
  rw [h, show remnant_inOrder.f k l = some (places l.length) from ord_at l (by omega) l.length 0 (by omega) k (by omega)]
  simp only [Option.bind_some, if_true]
  rw [if_pos ⟨by omega, h2, h12, by rw [places_length]; exact h12, hall, places_in⟩]
  rfl
theorem tight_val {room : Int} {l : List Int} (h : pieF room l = true) (k : Nat) (hk : 20 ≤ k) : remnant_Tight.f k room l = some (fitF room l (fun a b => decide (b < a)) (places l.length), 0) := by
  obtain ⟨h1, h2, h12, hall⟩ := (pie_iff room l).mp h
  unfold remnant_Tight.f remnant_arePieces.f fitMore.f
  rw [h, show remnant_inOrder.f k l = some (places l.length) from ord_at l (by omega) l.length 0 (by omega) k (by omega)]
  simp only [Option.bind_some, if_true]
  rw [if_pos ⟨by omega, h2, h12, by rw [places_length]; exact h12, hall, places_in⟩]
  rfl

theorem boxF_snoc : ∀ (A : List Int) (n r b : Int), boxF 0 n A = (r, true) → 0 ≤ b → b ≤ r → boxF 0 n (A ++ [b]) = (mx r (b + 1), true)
  | [], n, r, b, h, h0, h1 => by
    rw [boxF] at h
    injection h with h _
    subst h
    rw [List.nil_append, boxF, if_pos ⟨h0, h1⟩, boxF]
  | a :: A, n, r, b, h, h0, h1 => by
    rw [boxF] at h
    rw [List.cons_append, boxF]
    by_cases c : 0 ≤ a ∧ a ≤ n
    · rw [if_pos c] at h
      rw [if_pos c]
      exact boxF_snoc A _ r b h h0 h1
    · rw [if_neg c] at h; cases h
/-- In the order of the pieces, the boxes have their numbers in the order of their first uses. -/
theorem fit_box {room : Int} {ps : List Int} (p : Int → Int → Bool) (hs : ∀ i : Nat, i < ps.length → 0 ≤ rd ps (i : Int) ∧ rd ps (i : Int) ≤ room) (h12 : ps.length ≤ 12) : ∀ (R A : List Int) (st : List Int × List Int × Nat), FI room ps A st → boxF 0 0 (st.1.take A.length) = ((st.2.2 : Int), true) → A ++ R = places ps.length →
    boxF 0 0 ((R.foldl (fitStep room ps p) st).1.take (A ++ R).length) = (((R.foldl (fitStep room ps p) st).2.2 : Int), true)
  | [], A, st, h, hb, _ => by rw [List.append_nil]; exact hb
  | i :: R, A, st, h, hb, hO => by
    have hlen : A.length + (R.length + 1) = ps.length := by
      have := congrArg List.length hO
      rw [List.length_append, List.length_cons, placesLen] at this
      exact this
    have hi : i = (A.length : Int) := by
      have h1 : (A ++ i :: R)[A.length]? = some i := by rw [List.getElem?_append_right (Nat.le_refl _), Nat.sub_self]; rfl
      rw [hO] at h1
      unfold places at h1
      rw [List.getElem?_map, List.getElem?_range (by omega)] at h1
      exact (Option.some.inj h1).symm
    subst hi
    have hnd : (A ++ (A.length : Int) :: R).Nodup := by rw [hO]; exact places_nodup _
    have hA0 : ∀ j ∈ A, 0 ≤ j := fun j hj => (places_memF.1 (by rw [← hO]; exact List.mem_append_left _ hj)).1
    have hFI := h.step (p := p) (i := A.length) hA0 (fun k => (List.nodup_append.1 hnd).2.2 _ k _ List.mem_cons_self rfl) (by omega) (by omega) (hs A.length (by omega))
    have e : A ++ (A.length : Int) :: R = (A ++ [(A.length : Int)]) ++ R := by simp
    have step : boxF 0 0 ((fitStep room ps p st (A.length : Int)).1.take (A.length + 1)) = (((fitStep room ps p st (A.length : Int)).2.2 : Int), true) := by
      obtain ⟨out, x, n⟩ := st
      have hol : out.length = ps.length := h.ok.1
      have htk : ∀ v : Int, (out.set A.length v).take (A.length + 1) = out.take A.length ++ [v] := fun v => by
        rw [List.take_add_one, List.take_set, List.getElem?_set_self (by omega), List.set_eq_of_length_le (by rw [List.length_take]; omega)]
        rfl
      have hb' : boxF 0 0 (out.take A.length) = ((n : Int), true) := hb
      rcases scan_inv x room (rd ps (A.length : Int)) p n with hc | ⟨hc1, hc2, hc3⟩
      · rw [fitStep_new hc, Int.toNat_natCast]
        show boxF 0 0 ((out.set A.length (n : Int)).take (A.length + 1)) = (((n + 1 : Nat) : Int), true)
        rw [htk, boxF_snoc _ 0 n n hb' (by omega) (Int.le_refl _)]
        congr 1
        unfold mx; split <;> omega
      · obtain ⟨b, hbb⟩ := Int.eq_ofNat_of_zero_le hc1
        rw [fitStep_old hbb, Int.toNat_natCast]
        show boxF 0 0 ((out.set A.length (b : Int)).take (A.length + 1)) = ((n : Int), true)
        rw [htk, boxF_snoc _ 0 n b hb' (by omega) (by omega)]
        congr 1
        unfold mx; split <;> omega
    have ih := fit_box p hs h12 R (A ++ [(A.length : Int)]) _ hFI (by rw [List.length_append, List.length_singleton]; exact step) (by rw [← e]; exact hO)
    rw [e, List.foldl_cons]
    exact ih
/-- So many boxes do. -/
theorem fit_feas {room : Int} {l O : List Int} {st : List Int × List Int × Nat} (h0 : 0 ≤ room) (h12 : l.length ≤ 12) (h : FI room l O st) (hO : O.Perm (places l.length)) : FeasB room l st.2.2 := by
  have hin : ∀ i : Nat, i < l.length → 0 ≤ rd st.1 (i : Int) ∧ rd st.1 (i : Int) < (st.2.2 : Int) := fun i hi => h.ins _ (hO.mem_iff.2 (places_memF.2 ⟨by omega, by omega⟩))
  have hn : st.2.2 ≤ 12 := by have := h.ok.2.2.1; rw [hO.length_eq, placesLen] at this; omega
  refine ⟨fun i => (rd st.1 (i : Int)).toNat, fun i hi => by have := hin i hi; show (rd st.1 (i : Int)).toNat < _; omega, fun b => ?_⟩
  by_cases hb : b < 12
  · have e : bs (pz l) (fun i => (rd st.1 (i : Int)).toNat) b l.length = st.2.1.getD b 0 := by
      rw [h.sum hO hb]
      unfold bs inBox
      congr 1
      refine List.map_congr_left fun i hi => ?_
      have := hin i (List.mem_range.1 hi)
      by_cases k : rd st.1 (i : Int) = (b : Int)
      · rw [if_pos k, if_pos (show (rd st.1 (i : Int)).toNat = b by omega)]
      · rw [if_neg k, if_neg (show ¬ (rd st.1 (i : Int)).toNat = b by omega)]
    rw [e]
    exact (h.ok.2.2.2.1 b hb).2
  · have : bs (pz l) (fun i => (rd st.1 (i : Int)).toNat) b l.length = 0 := sum_zero _ _ fun i hi => by
      have := hin i (List.mem_range.1 hi)
      exact if_neg (show ¬ (rd st.1 (i : Int)).toNat = b by omega)
    rw [this]; exact h0
/-- The boxes at most half full. -/
theorem low_at {room : Int} {x : List Int} (hx : x.length ≤ 12) (hb : ∀ j : Nat, j < x.length → 0 ≤ rd x (j : Int) ∧ rd x (j : Int) ≤ 100) (h2 : ∀ i j : Nat, i < j → j < x.length → room < rd x (i : Int) + rd x (j : Int)) : ∀ (m j : Nat) (low : Int), j + m = x.length → (low = 0 ∨ (low = 1 ∧ ∃ i : Nat, i < j ∧ 2 * rd x (i : Int) ≤ room)) → ∃ r, r ≤ 1 ∧ ∀ k, m < k → half_l1 k room x low (j : Int) = some r := by
  intro m
  induction m with
  | zero =>
    intro j low hj hl
    refine ⟨low, by omega, fun k hk => ?_⟩
    obtain ⟨k, rfl⟩ : ∃ k', k = k' + 1 := ⟨k - 1, by omega⟩
    rw [half_l1, if_neg (by omega)]
  | succ m ih =>
    intro j low hj hl
    have hbj := hb j (by omega)
    have w1 : wrap64 (2 * rd x (j : Int)) = 2 * rd x (j : Int) := wrap_in (by omega) (by omega)
    by_cases c : 2 * rd x (j : Int) ≤ room
    · have hl0 : low = 0 := by
        rcases hl with hl | ⟨_, i, hi, hi2⟩
        · exact hl
        · have := h2 i j hi (by omega); omega
      obtain ⟨r, hr, hk⟩ := ih (j + 1) 1 (by omega) (.inr ⟨rfl, j, by omega, c⟩)
      refine ⟨r, hr, fun k hk' => ?_⟩
      obtain ⟨k, rfl⟩ : ∃ k', k = k' + 1 := ⟨k - 1, by omega⟩
      rw [half_l1, if_pos (by omega), w1, if_pos c, next (by omega), hl0, show wrap64 (0 + 1) = 1 from wrap_in (by decide) (by decide)]
      exact hk k (by omega)
    · obtain ⟨r, hr, hk⟩ := ih (j + 1) low (by omega) (by
        rcases hl with hl | ⟨hl, i, hi, hi2⟩
        · exact .inl hl
        · exact .inr ⟨hl, i, by omega, hi2⟩)
      refine ⟨r, hr, fun k hk' => ?_⟩
      obtain ⟨k, rfl⟩ : ∃ k', k = k' + 1 := ⟨k - 1, by omega⟩
      rw [half_l1, if_pos (by omega), w1, if_neg c, next (by omega)]
      exact hk k (by omega)
/-- A right packing with loads of which any two are more than the room. -/
theorem row_ok {room : Int} {l p : List Int} {N : Nat} {n : Int} (h : Ok room l) (hlen : p.length = l.length) (hb : boxF 0 0 p = ((N : Int), true)) (hle : ∀ v, v < N → 0 ≤ (loadF l p).getD v 0 ∧ (loadF l p).getD v 0 ≤ room) (h2 : ∀ v v', v < v' → v' < N → room < (loadF l p).getD v 0 + (loadF l p).getD v' 0) (hn : n ≤ N) (k : Nat) (hk : 200 ≤ k) : half_row k room l n p := by
  obtain ⟨h1, h100, h12, hall⟩ := h
  obtain ⟨e1, _, e3⟩ := loads_ref l p hlen (by omega) (-1) (by decide) (boxF_lower p 0 N hb) k (by omega)
  have hlf : (loadF l p).length = 12 := by
    have key : ∀ (r : List Nat) (x : List Int), (r.foldl (loadStep l p) x).length = x.length := by
      intro r
      induction r with
      | nil => intro x; rfl
      | cons i r ih => intro x; rw [List.foldl_cons, ih, loadStep_length]
    unfold loadF
    rw [key, List.length_replicate]
  have ht : ((loadF l p).take N).length = N := by rw [List.length_take, hlf]; omega
  have hrd : ∀ j : Nat, j < N → rd ((loadF l p).take N) (j : Int) = (loadF l p).getD j 0 := fun j hj => by
    unfold rd
    rw [Int.toNat_natCast, List.getD_eq_getElem?_getD, List.getD_eq_getElem?_getD, List.getElem?_take_of_lt hj]
  obtain ⟨r, hr, hk2⟩ := low_at (room := room) (x := (loadF l p).take N) (by omega) (fun j hj => by rw [hrd j (by omega)]; have := hle j (by omega); omega) (fun i j hij hj => by rw [hrd i (by omega), hrd j (by omega)]; exact h2 i j hij (by omega)) N 0 0 (by omega) (.inl rfl)
  exact ⟨(N : Int), (loadF l p).take N, r, boxes_val h12 hlen hb (fun v hv => (hle v hv).2) k (by omega), hn, e1, by omega, hk2 k (by omega), hr⟩
/-- First and Tight. -/
theorem fit_row {room : Int} {l : List Int} (p : Int → Int → Bool) (h : Ok room l) {m : Nat} (hmin : ∀ m', FeasB room l m' → m ≤ m') (k : Nat) (hk : 200 ≤ k) : half_row k room l (m : Int) (fitF room l p (places l.length)) := by
  have h' := h
  obtain ⟨h1, h100, h12, hall⟩ := h'
  have hs : ∀ i : Nat, i < l.length → 0 ≤ rd l (i : Int) ∧ rd l (i : Int) ≤ room := fun i hi => by have := hall _ (Math.rd_mem hi); omega
  have hsz : Sz l := ⟨h12, fun x hx => by have := hall x hx; omega⟩
  have hFI := fit_end p (by omega) hs h12 (List.Perm.refl (places l.length))
  have hbx := fit_box p hs h12 (places l.length) [] _ (FI.start room l (by omega)) rfl (List.nil_append _)
  obtain ⟨st, hst⟩ : ∃ st, st = (places l.length).foldl (fitStep room l p) (List.replicate l.length 0, List.replicate 12 0, 0) := ⟨_, rfl⟩
  have hf : fitF room l p (places l.length) = st.1 := by rw [hst]; rfl
  rw [← hst] at hFI hbx
  have hol : st.1.length = l.length := hFI.ok.1
  have hn : st.2.2 ≤ l.length := by have := hFI.ok.2.2.1; rw [placesLen] at this; exact this
  rw [List.nil_append, placesLen, ← hol, List.take_length] at hbx
  have hld : ∀ v, v < st.2.2 → (loadF l st.1).getD v 0 = st.2.1.getD v 0 := fun v hv => by
    rw [load_at l _ (fun i => hsz.rd i) (by omega) (by omega), hFI.sum (List.Perm.refl _) (by omega), hol]
  have hm := hmin _ (fit_feas (by omega) h12 hFI (List.Perm.refl _))
  rw [hf]
  refine row_ok h hol hbx (fun v hv => by rw [hld v hv]; exact hFI.ok.2.2.2.1 v (by omega)) (fun v v' hv hv' => by rw [hld v (by omega), hld v' hv']; exact hFI.two v v' hv hv') (by omega) k hk
/-- Falling. -/
theorem fall_row {room : Int} {l : List Int} (h : Ok room l) (hok : pieF room l = true) {m : Nat} (hF : FeasB room l m) (hmin : ∀ m', FeasB room l m' → m ≤ m') : (fallF room l).2 = 0 ∧ ∃ N : Nat, 9 * N ≤ 11 * m + 6 ∧ N ≤ 12 ∧ ∀ k, 200 ≤ k → half_row k room l (m : Int) (fallF room l).1 ∧ galloonlaw09_boxes.f k room l (fallF room l).1 = some (N : Int) := by
  have h' := h
  obtain ⟨h1, h100, h12, hall⟩ := h'
  have hp : ∀ i : Nat, i < l.length → 1 ≤ rd l (i : Int) ∧ rd l (i : Int) ≤ room := fun i hi => hall _ (Math.rd_mem hi)
  obtain ⟨N, O, st, hO, e1, hFI, e2, e3, e4, e5, e6, e7, β, e8⟩ := fall_facts h1 h100 h12 hall hok
  have hm := hmin _ (fit_feas (by omega) h12 hFI hO)
  have hfew := fall_few (m := m) h1 h12 hp hF
  rw [← e1, ← e2, ← e3] at hfew
  have hbd : 9 * N ≤ 11 * m + 6 := by
    have hm0 : m = 0 → N = 0 := fun k => by
      subst k
      obtain ⟨g, hg, _⟩ := hF
      have : l.length = 0 := by
        apply Classical.byContradiction
        intro k
        have := hg 0 (by omega)
        omega
      omega
    have hm1 : m = 1 → N ≤ 1 := fun k => by
      subst k
      apply Classical.byContradiction
      intro k
      have h2 := hFI.two 0 1 (by omega) (by omega)
      obtain ⟨g, hg, hgl⟩ := hF
      have hup := bins_tot (ps := l) (f := fun q => q) (c := room) (m := 1) hg fun b _ => hgl b
      have hlow := lo_sum (ps := l) (out := st.1) (f := fun q => q) 2 (A := O) fun j hj => by
        have hj' := places_memF.1 (hO.mem_iff.1 hj)
        obtain ⟨q, rfl⟩ := Int.eq_ofNat_of_zero_le hj'.1
        have := hp q (by omega)
        show 0 ≤ rd l (q : Int)
        omega
      have e : su l (fun q => q) O = su l (fun q => q) (places l.length) := by unfold su; exact perm_sum (hO.map _)
      have e0 : st.2.1.getD 0 0 = lo l st.1 (fun q => q) 0 O := hFI.load 0 (by decide)
      have e1' : st.2.1.getD 1 0 = lo l st.1 (fun q => q) 1 O := hFI.load 1 (by decide)
      have e4' : ((List.range 2).map fun b => lo l st.1 (fun q => q) b O).sum = lo l st.1 (fun q => q) 0 O + (lo l st.1 (fun q => q) 1 O + 0) := rfl
      rw [e4', e] at hlow
      omega
    omega
  have hle : ∀ v, v < N → 0 ≤ (loadF l (renamedF st.1)).getD v 0 ∧ (loadF l (renamedF st.1)).getD v 0 ≤ room := fun v hv => by
    obtain ⟨a1, a2, _⟩ := e8 v hv
    rw [a2]
    exact hFI.ok.2.2.2.1 (β v) (by omega)
  refine ⟨by rw [e5], N, hbd, by omega, fun k hk => ?_⟩
  rw [e5]
  refine ⟨row_ok h e6 e7 hle (fun v v' hv hv' => ?_) (by omega) k hk, boxes_val h12 e6 e7 (fun v hv => (hle v hv).2) k (by omega)⟩
  obtain ⟨a1, a2, a3⟩ := e8 v (by omega)
  obtain ⟨b1, b2, _⟩ := e8 v' hv'
  rw [a2, b2]
  rcases Nat.lt_trichotomy (β v) (β v') with c | c | c
  · exact hFI.two _ _ c (by omega)
  · have := a3 v' hv' c; omega
  · have := hFI.two _ _ c (by omega); omega

end Go.Proofs.Ytoecbchfdgbliaa.Math
namespace Go.Proofs.Ytoecbchfdgbliaa.Pure
open Go.RowKit Go.Proofs.Ytoecbchfdgbliaa.B Go.Proofs.YtoecbchfdgbliaaW.PrintWords Go.Proofs.YtoecbchfdgbliaaW.PrintLast Go.Proofs.YtoecbchfdgbliaaW.PrintMore Go.Proofs.Ytoecbchfdgbliaa.Math
open Go.Proofs.Ytoecbchfdgbliaa.Hand hiding wrap_in look within_iff rd_mem
set_option linter.unusedVariables false

theorem RemnantHalf : galloonlaw09_RemnantHalf.Pure := by
  intro a0 l1 _ _ _ _
  refine ⟨2000, ?_⟩
  obtain ⟨room, l, hOk, h12, ht⟩ := tame_ok (M := 12) (by decide) a0 l1
  have hok := (pie_iff room l).2 hOk
  have hpl : ∀ i, i < l.length → 1 ≤ pz l i ∧ pz l i ≤ room := fun i hi => hOk.2.2.2 _ (Math.rd_mem hi)
  obtain ⟨m, q, hml, hB1, hB2, hB⟩ := best_min hok hOk.1 hOk.2.1 h12 hpl
  obtain ⟨f0, N, hN, hN12, hf⟩ := fall_row hOk hok hB1 hB2
  obtain ⟨hf1, hf2⟩ := hf 2000 (by decide)
  refine ⟨room, l, fitF room l (fun _ _ => false) (places l.length), fitF room l (fun a b => decide (b < a)) (places l.length), (fallF room l).1, q, (m : Int), (N : Int), ht 2000 (by decide), first_val hok 2000 (by decide), tight_val hok 2000 (by decide), ?_, hB 2000 (by decide),
    fit_row _ hOk hB2 2000 (by decide), fit_row _ hOk hB2 2000 (by decide), hf1, hf2, ?_, awake_ev 2000 (by decide)⟩
  · unfold remnant_Falling.f
    rw [← f0]
  · rw [Math.wrap_in (n := 9 * (N : Int)) (by omega) (by omega), Math.wrap_in (n := 11 * (m : Int)) (by omega) (by omega), Math.wrap_in (by omega) (by omega)]
    omega

end Go.Proofs.Ytoecbchfdgbliaa.Pure
