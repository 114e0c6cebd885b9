/- For every int and list, ShuffleInverted answers true: the inverse of a polynomial permutation is polynomial, undoes it, and has the same order and cycles; the order is the least common multiple of the lengths of the cycles. -/
import Derived.Test.YtpkmmbicpijgpaaMathQ
import Derived.Test.YtpkmmbicpijgpaaMathI
import Derived.Test.YtpkmmbicpijgpaaMathIN
import Derived.Test.YtpkmmbicpijgpaaHandIN
namespace Go.Proofs.Ytpkmmbicpijgpaa.Pure
open Go.RowKit Go.Proofs.Ytpkmmbicpijgpaa.F Go.Proofs.YtpkmmbicpijgpaaW.PrintWords Go.Proofs.YtpkmmbicpijgpaaW.PrintLast
open Go.Proofs.Ytpkmmbicpijgpaa.MathA
open Go.Proofs.Ytpkmmbicpijgpaa.MathB
open Go.Proofs.Ytpkmmbicpijgpaa.MathY hiding pigeon find_range_some find_range_none
set_option linter.unusedVariables false

/-! ### the inverse of a permutation -/
theorem inv_fold {f : List Int} (hP : Prm f) : ∀ j, j ≤ f.length → ((List.range j).foldl (invStep f) (List.replicate f.length 0)).length = f.length ∧ ∀ x, x < j → rd ((List.range j).foldl (invStep f) (List.replicate f.length 0)) ((MathY.F f x : Nat) : Int) = (x : Int) := by
  intro j
  induction j with
  | zero => intro _; exact ⟨by simp, fun x hx => absurd hx (by omega)⟩
  | succ j ih =>
    intro hj
    obtain ⟨h1, h2⟩ := ih (by omega)
    rw [List.range_succ, List.foldl_append, List.foldl_cons, List.foldl_nil]
    generalize (List.range j).foldl (invStep f) (List.replicate f.length 0) = o at h1 h2
    unfold invStep
    refine ⟨by rw [List.length_set]; exact h1, fun x hx => ?_⟩
    have hFj := F_lt hP (x := j) (by omega)
    show rd (o.set (MathY.F f j) (j : Int)) _ = _
    rw [rd_set _ _ _ _ (by omega)]
    by_cases e : MathY.F f x = MathY.F f j
    · rw [if_pos e]
      have := F_inj hP (by omega) (by omega) e
      rw [this]
    · rw [if_neg e]
      refine h2 x ?_
      have : x ≠ j := fun h => e (by rw [h])
      omega
theorem inv_len {f : List Int} (hP : Prm f) : (invS f).length = f.length := (inv_fold hP f.length (Nat.le_refl _)).1
theorem inv_F {f : List Int} (hP : Prm f) {x : Nat} (hx : x < f.length) : rd (invS f) ((MathY.F f x : Nat) : Int) = (x : Int) := (inv_fold hP f.length (Nat.le_refl _)).2 x hx
/-- What undoes: the last step of the cycle. -/
theorem back_step {f : List Int} (hP : Prm f) {y : Nat} (hy : y < f.length) : it f (clen f y - 1) y < f.length ∧ MathY.F f (it f (clen f y - 1) y) = y := by
  have hc := clen_spec hP hy
  refine ⟨it_lt hP hy _, ?_⟩
  have e : it f (clen f y - 1 + 1) y = y := by rw [show clen f y - 1 + 1 = clen f y by omega]; exact hc.2.2.1
  exact e
theorem inv_at {f : List Int} (hP : Prm f) {y : Nat} (hy : y < f.length) : rd (invS f) (y : Int) = ((it f (clen f y - 1) y : Nat) : Int) := by
  obtain ⟨h1, h2⟩ := back_step hP hy
  have := inv_F hP h1
  rwa [h2] at this
theorem inv_prm {f : List Int} (hP : Prm f) : Prm (invS f) := by
  have hl := inv_len hP
  refine ⟨by rw [hl]; exact hP.len, fun x hx => ?_, fun x y hx hy e => ?_⟩
  · rw [hl] at hx ⊢
    rw [inv_at hP hx]
    have := it_lt hP hx (clen f x - 1)
    omega
  · rw [hl] at hx hy
    rw [inv_at hP hx, inv_at hP hy] at e
    have e' : it f (clen f x - 1) x = it f (clen f y - 1) y := by omega
    rw [← (back_step hP hx).2, ← (back_step hP hy).2, e']
theorem FG {f : List Int} (hP : Prm f) {x : Nat} (hx : x < f.length) : MathY.F (invS f) (MathY.F f x) = x := by
  show (rd (invS f) ((MathY.F f x : Nat) : Int)).toNat = x
  rw [inv_F hP hx]; omega
theorem GF {f : List Int} (hP : Prm f) {y : Nat} (hy : y < f.length) : MathY.F f (MathY.F (invS f) y) = y := by
  have e : MathY.F (invS f) y = it f (clen f y - 1) y := by
    show (rd (invS f) (y : Int)).toNat = _
    rw [inv_at hP hy]; omega
  rw [e]
  exact (back_step hP hy).2
theorem it_FG {f : List Int} (hP : Prm f) {x : Nat} (hx : x < f.length) : ∀ n, it (invS f) n (it f n x) = x
  | 0 => rfl
  | n + 1 => by
    have e : it (invS f) (n + 1) (it f (n + 1) x) = it (invS f) n (MathY.F (invS f) (it f (n + 1) x)) := (it_F n _).symm
    rw [e, show it f (n + 1) x = MathY.F f (it f n x) from rfl, FG hP (it_lt hP hx n), it_FG hP hx n]
theorem it_GF {f : List Int} (hP : Prm f) {y : Nat} (hy : y < f.length) : ∀ n, it f n (it (invS f) n y) = y
  | 0 => rfl
  | n + 1 => by
    have hG := inv_prm hP
    have hl := inv_len hP
    have e : it f (n + 1) (it (invS f) (n + 1) y) = it f n (MathY.F f (it (invS f) (n + 1) y)) := (it_F n _).symm
    have h1 := it_lt hG (x := y) (by omega) n
    rw [e, show it (invS f) (n + 1) y = MathY.F (invS f) (it (invS f) n y) from rfl, GF hP (by omega), it_GF hP hy n]
theorem clen_inv {f : List Int} (hP : Prm f) {x : Nat} (hx : x < f.length) : clen (invS f) x = clen f x := by
  have hG := inv_prm hP
  have hl := inv_len hP
  have hc := clen_spec hP hx
  refine clen_eq hG (by omega) hc.1 ?_ fun n h1 h2 e => hc.2.2.2 n h1 h2 ?_
  · have := it_FG hP hx (clen f x)
    rwa [hc.2.2.1] at this
  · have := it_GF hP hx n
    rwa [e] at this
theorem refL_inv {f : List Int} (hP : Prm f) : refL (invS f) = refL f := by
  have hl := inv_len hP
  unfold refL
  rw [hl]
  congr 1
  funext n
  unfold num many
  rw [hl]
  congr 1
  exact cnt_congr fun y hy => by rw [clen_inv hP hy]
/-! ### the inverse is polynomial -/
theorem iter_is {m : Nat} (h : Mod m) {p : List Int} (hP : Prm (valS m p)) : ∀ n, ∃ g : Int → Int, Is 0 g ∧ ∀ x : Nat, x < m → ((it (valS m p) n x : Nat) : Int) = g (x : Int) % (m : Int)
  | 0 => ⟨_, Is.id, fun x hx => by rw [Int.emod_eq_of_lt (by omega) (by omega)]; rfl⟩
  | n + 1 => by
    obtain ⟨g, hg, hx⟩ := iter_is h hP n
    refine ⟨_, horn_comp hg p, fun x hx' => ?_⟩
    have hlen := valS_length m p
    have hlt := it_lt hP (x := x) (by omega) n
    have e : ((it (valS m p) (n + 1) x : Nat) : Int) = rd (valS m p) ((it (valS m p) n x : Nat) : Int) := (F_cast hP hlt).symm
    rw [e, rd_nat, valS_get p (by omega), hx x hx']
    exact horn_mod (Int.emod_emod _ _) p
theorem it_mul {f : List Int} {c x : Nat} (h : it f c x = x) : ∀ q, it f (c * q) x = x
  | 0 => rfl
  | q + 1 => by rw [Nat.mul_succ, it_add, it_mul h q, h]
theorem clen_mem {f : List Int} (hP : Prm f) {x : Nat} (hx : x < f.length) : ((clen f x : Nat) : Int) ∈ refL f := by
  have hc := clen_spec hP hx
  refine mem_asc hc.1 ?_ hc.2.1
  have h1 := many_num hP hc.1
  have h2 : 1 ≤ many f (clen f x) := by
    unfold many cnt
    exact List.length_pos_of_mem (List.mem_filter.2 ⟨List.mem_range.2 hx, by simp⟩)
  rcases Nat.eq_zero_or_pos (num f (clen f x)) with h0 | h0
  · rw [h0] at h1; omega
  · exact h0
theorem inv_same {m : Nat} (h : Mod m) {p : List Int} (hP : Prm (valS m p)) : ∃ a, MathB.Same m (invS (valS m p)) 0 a := by
  have hlen := valS_length m p
  have hN := (order_val hP (Nat.le_refl 70)).2.2
  have hdv : ∀ x, x < (valS m p).length → clen (valS m p) x ∣ lcmL (refL (valS m p)) := fun x hx => (lcmL_dvd _ _).1 (Nat.dvd_refl _) _ (clen_mem hP hx)
  generalize lcmL (refL (valS m p)) = N at hN hdv
  obtain ⟨g, hg, hgx⟩ := iter_is h hP (N - 1)
  refine same_of_is hg fun x hx => ?_
  rw [inv_len hP] at hx
  obtain ⟨q, hq⟩ := hdv x hx
  have hc := clen_spec hP hx
  have e1 : MathY.F (valS m p) (it (valS m p) (N - 1) x) = x := by
    have e2 : it (valS m p) (N - 1 + 1) x = x := by rw [show N - 1 + 1 = N by omega, hq]; exact it_mul (f := valS m p) hc.2.2.1 q
    exact e2
  have e3 := inv_F hP (it_lt hP hx (N - 1))
  rw [e1, rd_nat] at e3
  rw [e3]
  exact hgx x (by omega)
/-! ### sums and multiples -/
theorem sum_take {l : List Int} {j : Nat} (hj : j < l.length) : (l.take (j + 1)).sum = (l.take j).sum + rd l (j : Int) := by
  rw [List.take_succ_eq_append_getElem hj, List.sum_append, rd_nat, List.getD_eq_getElem?_getD, List.getElem?_eq_getElem hj]
  simp
theorem sum_bound {l : List Int} (h : ∀ a ∈ l, 1 ≤ a ∧ a ≤ 64) : 0 ≤ l.sum ∧ l.sum ≤ 64 * (l.length : Int) := by
  induction l with
  | nil => simp
  | cons a l ih =>
    have h1 := ih fun x hx => h x (List.mem_cons_of_mem _ hx)
    have h2 := h a (List.mem_cons_self ..)
    rw [List.sum_cons, List.length_cons]
    omega

theorem ShuffleInverted : galloonlaw06_ShuffleInverted.Pure := by
  intro a l1 _ hm1 _ _
  unfold maxLen at hm1
  obtain ⟨t, ht, h0, h1⟩ := mod_some a 63 (by omega) (by omega)
  obtain ⟨m, hm⟩ : ∃ m : Nat, wrap64 (2 + t) = (m : Int) := ⟨(wrap64 (2 + t)).toNat, by rw [wrap_in (by omega) (by omega)]; omega⟩
  have h : Mod m := by rw [wrap_in (by omega) (by omega)] at hm; exact ⟨by omega, by omega⟩
  have h2 := h.hi
  have hp := tameS_rem h l1
  have hpl := tameS_len m l1
  have hT := tame_ev h l1 (by omega)
  generalize tameS m l1 = p at hp hpl hT
  have hV := Ev.from200 fun k hk => values_ev h hp hpl hk
  have hPe := permutes_ev h hp hpl
  have hrem := valS_rem h p
  have hlen := valS_length m p
  have hfun : Ev (fun k => galloonref06_Function.f k (m : Int) (valS m p)) true := by
    have := refFun_ev (m : Int) (valS m p) (by omega)
    rwa [(remB_iff _).2 hrem, decide_eq_true (by omega)] at this
  have hperm := isPerm_ev h hrem hlen
  obtain ⟨q1, hT⟩ := hT
  obtain ⟨q2, hV⟩ := hV
  obtain ⟨q3, hPe⟩ := hPe
  obtain ⟨q4, hfun⟩ := hfun
  obtain ⟨q5, haw⟩ := awake_ev
  cases hb : permB (valS m p) with
  | false =>
    rw [hb] at hperm
    obtain ⟨q6, hI⟩ := Inverse_not hperm
    obtain ⟨q7, hO⟩ := Order_not hperm
    obtain ⟨q8, hC⟩ := Cycles_not hperm
    have htw : ∃ i j : Nat, i < j ∧ j < m ∧ (valS m p).getD i 0 = (valS m p).getD j 0 ∧ twiceS 0 (valS m p) = ((i : Int), (j : Int)) := by
      rcases twiceS_spec (valS m p) 0 with ⟨e1, e2⟩ | ⟨i, j, e1, e2, e3, e4⟩
      · have := (permB_iff _).2 e2
        rw [hb] at this
        cases this
      · exact ⟨i, j, e1, by omega, e3, by rw [e4]; congr 1 <;> (congr 1; omega)⟩
    obtain ⟨i, j, hij, hj, he, htw⟩ := htw
    rw [htw] at hPe
    refine ⟨q1 + q2 + q3 + q4 + q5 + q6 + q7 + q8, .inl ⟨t, p, valS m p, (i : Int), (j : Int), ⟨ht, ?_, ?_, ?_, ?_, haw _ (by omega)⟩, ?_, ?_, ?_, by omega, by omega, ?_, ?_, ?_⟩⟩
    all_goals try rw [hm]
    · exact hT _ (by omega)
    · exact hV _ (by omega)
    · exact hPe _ (by omega)
    · exact hfun _ (by omega)
    · exact hI _ (by omega)
    · exact hO _ (by omega)
    · exact hC _ (by omega)
    · omega
    · omega
    · rw [rd_nat, rd_nat]; exact he
  | true =>
    rw [hb] at hperm
    have hP := prm_of h hrem hlen hb
    have hG := inv_prm hP
    have hGl := inv_len hP
    have hGrem : Rem m (invS (valS m p)) := by
      intro v hv
      obtain ⟨n, hn, rfl⟩ := List.getElem_of_mem hv
      have := hG.rem n hn
      rw [rd_nat, List.getD_eq_getElem?_getD, List.getElem?_eq_getElem hn, Option.getD_some] at this
      omega
    have hGb : permB (invS (valS m p)) = true := by
      rw [permB_iff]
      intro x y hxy hy e
      have := hG.inj x y (by omega) hy (by rw [rd_nat, rd_nat]; exact e)
      omega
    have hGperm := isPerm_ev h hGrem (by omega)
    rw [hGb] at hGperm
    have hI0 : Ev (fun k => shuffle_Inverse.f k ((valS m p).length : Int) (valS m p)) (invS (valS m p), 0) := Inverse_ev hP (by rw [hlen]; exact hperm)
    rw [hlen] at hI0
    obtain ⟨q6, hI⟩ := hI0
    obtain ⟨q7, hO⟩ := Order_ev hP hperm
    obtain ⟨q8, hC⟩ := Cycles_ev hP hperm
    obtain ⟨q9, hO2⟩ := Order_ev hG hGperm
    obtain ⟨q10, hC2⟩ := Cycles_ev hG hGperm
    rw [refL_inv hP] at hO2 hC2
    have hsame := inv_same h hP
    obtain ⟨fm, q11, hF⟩ : ∃ fm, Ev (fun k => shuffle_Form.f k (m : Int) (invS (valS m p))) (fm, 0) := by
      have := Form_poly (f := invS (valS m p)) h hGrem (by omega) hsame
      exact ⟨_, this.choose_spec.1⟩
    obtain ⟨q12, hA⟩ := Ev.from200 fun k hk => after_ev h hrem hGrem hlen (by omega) (k := k) hk
    have hcl : (refL (valS m p)).length ≤ 64 := by have := refL_length hP; omega
    obtain ⟨q13, hin⟩ := ints_same (refL (valS m p)) (by omega)
    have hmem : ∀ v ∈ refL (valS m p), 1 ≤ v ∧ v ≤ 64 ∧ v ≤ (m : Int) := by
      intro v hv
      obtain ⟨n, rfl, h1, h2, _⟩ := asc_mem hv
      omega
    have hsort := asc_sorted (num (valS m p)) (valS m p).length
    have hsum := refL_sum hP
    obtain ⟨_, hlb, hlp⟩ := order_val hP (Nat.le_refl 70)
    have hsort' : (refL (valS m p)).Pairwise fun x y => x ≤ y := hsort
    generalize refL (valS m p) = c at *
    have hrd : ∀ j : Nat, (hj : j < c.length) → rd c (j : Int) = c[j] := fun j hj => by rw [rd_nat, List.getD_eq_getElem?_getD, List.getElem?_eq_getElem hj]; rfl
    refine ⟨q1 + q2 + q3 + q4 + q5 + q6 + q7 + q8 + q9 + q10 + q11 + q12 + q13 + 100, .inr ⟨t, p, valS m p, invS (valS m p), c, fm, (valS m p).map (fun y => rd (invS (valS m p)) y), ((lcmL c : Nat) : Int), fun j => (c.take j).sum, fun j => ((lcmL (c.take j) : Nat) : Int), ⟨ht, ?_, ?_, ?_, ?_, haw _ (by omega)⟩, ?_, ?_, ?_, ?_, ?_, ?_, ?_, hin _ (by omega), ?_, ?_, ?_, by omega, ?_, ?_, ?_, ?_, ?_, ?_⟩⟩
    all_goals try rw [hm]
    · exact hT _ (by omega)
    · exact hV _ (by omega)
    · have htw : twiceS 0 (valS m p) = (-1, -1) := by
        rcases twiceS_spec (valS m p) 0 with ⟨e1, e2⟩ | ⟨i, j, e1, e2, e3, e4⟩
        · exact e1
        · exact absurd e3 ((permB_iff _).1 hb i j e1 e2)
      rw [htw] at hPe
      exact hPe _ (by omega)
    · exact hfun _ (by omega)
    · exact hI _ (by omega)
    · exact hO _ (by omega)
    · exact hC _ (by omega)
    · exact hO2 _ (by omega)
    · exact hC2 _ (by omega)
    · exact hF _ (by omega)
    · exact hA _ (by omega)
    · rw [List.length_map]; omega
    · rw [List.length_map]; omega
    · intro j hj
      rw [List.length_map] at hj
      have e := inv_F hP hj
      rw [← F_cast hP hj] at e
      rw [rd_nat, List.getD_eq_getElem?_getD, List.getElem?_map, List.getElem?_eq_getElem hj]
      rw [rd_nat, List.getD_eq_getElem?_getD, List.getElem?_eq_getElem hj] at e
      exact e
    · intro j hj
      have := hmem c[j] (List.getElem_mem hj)
      rw [hrd j hj]
      refine ⟨by omega, by omega, fun h0 => ?_⟩
      rw [hrd (j - 1) (by omega)]
      exact List.pairwise_iff_getElem.1 hsort' (j - 1) j (by omega) hj (by omega)
    · rfl
    · rfl
    · intro j hj
      have h3 := hmem c[j] (List.getElem_mem hj)
      have h4 := sum_bound (l := c.take j) fun a ha => by have := hmem a (List.mem_of_mem_take ha); omega
      have h5 : (c.take j).length ≤ 64 := by rw [List.length_take]; omega
      have h6 := lcm_take_le hlb hlp j
      have h7 := lcm_take_le hlb hlp (j + 1)
      have h8 := lcm_take hj
      show (c.take (j + 1)).sum = wrap64 ((c.take j).sum + rd c (j : Int)) ∧ ∃ g, galloonref06_Gcd.f _ ((lcmL (c.take j) : Nat) : Int) (rd c (j : Int)) = some g ∧ g ≠ 0 ∧ ((lcmL (c.take (j + 1)) : Nat) : Int) = wrap64 (wrap64 (Int.tdiv ((lcmL (c.take j) : Nat) : Int) g) * rd c (j : Int))
      rw [sum_take hj]
      rw [hrd j hj] at h8 ⊢
      obtain ⟨n, hn⟩ := Int.eq_ofNat_of_zero_le (show 0 ≤ c[j] by omega)
      rw [hn] at h8 h3 ⊢
      rw [Int.toNat_natCast] at h8
      refine ⟨(wrap_in (by omega) (by omega)).symm, ((Nat.gcd (lcmL (c.take j)) n : Nat) : Int), refGcd_run n _ _ (by omega) (by omega) h6.1, ?_, ?_⟩
      · have := Nat.gcd_pos_of_pos_right (lcmL (c.take j)) (show 0 < n by omega)
        omega
      · show ((lcmL (c.take (j + 1)) : Nat) : Int) = _
        rw [lcm_round h6.2 (by omega) (by rw [← h8]; exact h7.1) h6.1, h8]
    · show (c.take c.length).sum = _
      rw [List.take_length, hsum]; omega
    · show ((lcmL (c.take c.length) : Nat) : Int) = _
      rw [List.take_length]

end Go.Proofs.Ytpkmmbicpijgpaa.Pure
