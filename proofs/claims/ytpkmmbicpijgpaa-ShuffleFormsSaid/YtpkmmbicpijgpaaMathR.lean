-- Plain lemmas over the names of the F print: the reference's Form.
import Derived.Test.YtpkmmbicpijgpaaMathI
import Derived.Test.YtpkmmbicpijgpaaMathJ
namespace Go.Proofs.Ytpkmmbicpijgpaa.Pure
open Go.RowKit Go.Proofs.Ytpkmmbicpijgpaa.F Go.Proofs.YtpkmmbicpijgpaaW.PrintWords Go.Proofs.YtpkmmbicpijgpaaW.PrintLast
open Go.Proofs.Ytpkmmbicpijgpaa.MathA Go.Proofs.Ytpkmmbicpijgpaa.MathB
set_option linter.unusedVariables false

theorem formS_sound {m : Nat} (hm : 0 < m) : ∀ (n i : Nat) (out left o : List Int), formS m n i out left = (o, true) → ∃ cs, MathB.Same m left i cs
  | 0, i, out, left, o, h => by
    refine ⟨[], fun x hx => ?_⟩
    rw [formS] at h
    injection h with _ h
    have := List.all_eq_true.1 h left[x] (List.getElem_mem hx)
    have e : left.getD x 0 = left[x] := by simp [hx]
    rw [comb_nil, Int.sub_zero, e, of_decide_eq_true this]
    exact Int.dvd_zero _
  | n + 1, i, out, left, o, h => by
    rw [formS] at h
    cases hc : findC m i (left.getD i 0) with
    | none => rw [hc] at h; injection h with _ h; cases h
    | some c =>
      rw [hc] at h
      obtain ⟨cs, hs⟩ := formS_sound hm n (i + 1) _ _ o h
      refine ⟨(c : Int) :: cs, fun x hx => ?_⟩
      have h1 := hs x (by rw [subL_length]; exact hx)
      rw [subL_get _ _ _ _ _ hx] at h1
      rw [comb_cons]
      have h2 : (m : Int) ∣ (left.getD x 0 - (c : Int) * ff (x : Int) i) - (left.getD x 0 - (c : Int) * ff (x : Int) i) % (m : Int) := by
        refine ⟨(left.getD x 0 - (c : Int) * ff (x : Int) i) / (m : Int), ?_⟩
        have := Int.mul_ediv_add_emod (left.getD x 0 - (c : Int) * ff (x : Int) i) (m : Int)
        omega
      have h3 := Int.dvd_add h2 h1
      have e : left.getD x 0 - (c : Int) * ff (x : Int) i - (left.getD x 0 - (c : Int) * ff (x : Int) i) % (m : Int) + ((left.getD x 0 - (c : Int) * ff (x : Int) i) % (m : Int) - comb (i + 1) cs (x : Int)) = left.getD x 0 - ((c : Int) * ff (x : Int) i + comb (i + 1) cs (x : Int)) := by omega
      rwa [e] at h3
theorem fits_get {m : Nat} : ∀ (p : List Int) (i j : Nat), MathB.Fits m i p → j < p.length → 0 ≤ p.getD j 0 ∧ p.getD j 0 < (ch m (i + j) : Int)
  | [], _, _, _, h => by simp at h
  | b :: p, i, 0, h, _ => ⟨h.1, h.2.1⟩
  | b :: p, i, j + 1, h, hj => by
    have := fits_get p (i + 1) j h.2.2 (by simpa using hj)
    rw [show i + 1 + j = i + (j + 1) by omega] at this
    simpa using this
theorem fits_snoc {m : Nat} : ∀ (p : List Int) (i : Nat) (c : Int), MathB.Fits m i p → 0 ≤ c → c < (ch m (i + p.length) : Int) → MathB.Fits m i (p ++ [c])
  | [], i, c, _, h0, h1 => ⟨h0, h1, trivial⟩
  | b :: p, i, c, h, h0, h1 => ⟨h.1, h.2.1, fits_snoc p (i + 1) c h.2.2 h0 (by rw [List.length_cons] at h1; rwa [show i + 1 + p.length = i + (p.length + 1) by omega])⟩
theorem fits_take {m : Nat} : ∀ (p : List Int) (i j : Nat), MathB.Fits m i p → MathB.Fits m i (p.take j)
  | [], _, j, _ => by rw [List.take_nil]; trivial
  | b :: p, i, 0, _ => trivial
  | b :: p, i, j + 1, h => ⟨h.1, h.2.1, fits_take p (i + 1) j h.2.2⟩

/-! ### a form's value -/
theorem value_l0 {m : Nat} (h : Mod m) (l : List Int) (hl : l.length ≤ 65) (hf : MathB.Fits m 0 l) (x : Nat) (hx : x < m) : ∀ (d i : Nat), i + d = l.length →
    Ev (fun k => galloonref06_value.l0 k (m : Int) l (x : Int) (comb 0 (l.take i) (x : Int) % (m : Int)) (i : Int)) (comb 0 l (x : Int) % (m : Int)) := by
  have h1 := h.lo
  have h2 := h.hi
  intro d
  induction d with
  | zero =>
    intro i hi
    refine Ev.step (fun k => by simp only [galloonref06_value.l0]; exact rfl) ?_
    rw [List.take_of_length_le (by omega)]
    exact Ev.neg (by omega) (Ev.now _)
  | succ d ih =>
    intro i hi
    refine Ev.step (fun k => by simp only [galloonref06_value.l0]; exact rfl) ?_
    refine Ev.pos (by omega) (Ev.pos (by omega) ?_)
    have hfall : Ev (fun k => galloonref06_falling.f k (m : Int) (x : Int) (i : Int)) (ff (x : Int) i % (m : Int)) := Ev.from200 fun k hk => rfalling_ev h x i (by omega) (by omega) hk
    refine Ev.bind hfall (Ev.neg (by omega) ?_)
    have hv := fits_get l 0 i hf (by omega)
    have hch := ch_le (m := m) (0 + i)
    have c1 := Int.emod_nonneg (comb 0 (l.take i) (x : Int)) (show (m : Int) ≠ 0 by omega)
    have c2 := Int.emod_lt_of_pos (comb 0 (l.take i) (x : Int)) (show (0 : Int) < m by omega)
    have b1 := Int.emod_nonneg (ff (x : Int) i) (show (m : Int) ≠ 0 by omega)
    have b2 := Int.emod_lt_of_pos (ff (x : Int) i) (show (0 : Int) < m by omega)
    have b5 := mulmod_small (a := l.getD i 0) (b := ff (x : Int) i % (m : Int)) (m := m) hv.1 (by omega) b1 (by omega) (by omega)
    rw [rd_nat, wrap_in (n := l.getD i 0 * (ff (x : Int) i % (m : Int))) (by omega) (by omega), wrap_in (by omega) (by omega), Int.tmod_eq_emod_of_nonneg (by omega)]
    have e1 : (comb 0 (l.take i) (x : Int) % (m : Int) + l.getD i 0 * (ff (x : Int) i % (m : Int))) % (m : Int) = comb 0 (l.take (i + 1)) (x : Int) % (m : Int) := by
      rw [take_comb (by omega), Int.add_emod, Int.mul_emod, Int.emod_emod, Int.emod_emod, ← Int.mul_emod, ← Int.add_emod]
    rw [e1, step_nat (by omega)]
    exact ih (i + 1) (by omega)
theorem value_ev {m : Nat} (h : Mod m) (l : List Int) (hl : l.length ≤ 65) (hf : MathB.Fits m 0 l) (x : Nat) (hx : x < m) : Ev (fun k => galloonref06_value.f k (m : Int) l (x : Int)) (comb 0 l (x : Int) % (m : Int)) := by
  have := value_l0 h l hl hf x hx l.length 0 (by omega)
  have e : comb 0 (l.take 0) (x : Int) % (m : Int) = 0 := by rw [List.take_zero, comb_nil]; rfl
  rw [e] at this
  exact this

/-! ### the search -/
theorem rform_some {m : Nat} (h : Mod m) {f form : List Int} (hlen : f.length = m) {i : Nat} (hi : i < m) (hfl : form.length = i) (hfit : MathB.Fits m 0 form) {c0 : Nat} (hc0 : c0 < ch m i)
    (he : comb 0 (form ++ [(c0 : Int)]) (i : Int) % (m : Int) = f.getD i 0) (hno : ∀ c : Nat, c < c0 → comb 0 (form ++ [(c : Int)]) (i : Int) % (m : Int) ≠ f.getD i 0) {r : List Int × Bool}
    (hr : Ev (fun k => galloonref06_Form.l0 k (m : Int) f (form ++ [(c0 : Int)]) ((i + 1 : Nat) : Int)) r) : ∀ (d c : Nat), c + d = c0 → Ev (fun k => galloonref06_Form.l1 k (m : Int) f form (i : Int) (c : Int)) r := by
  have h1 := h.lo
  have h2 := h.hi
  have hch := ch_le (m := m) i
  intro d
  induction d with
  | zero =>
    intro c hc
    have hc' : c = c0 := by omega
    subst hc'
    refine Ev.step (fun k => by simp only [galloonref06_Form.l1]; exact rfl) ?_
    have hroom : Ev (fun k => galloonref06_Room.f k (m : Int) (i : Int)) (ch m i : Int) := Ev.from200 fun k hk => room_ev h (by omega) hk
    refine Ev.bind hroom (Ev.pos (by omega) (Ev.pos (by simp; omega) ?_))
    rw [List.nil_append]
    refine Ev.bind (Ev.now form) ?_
    refine Ev.pos (by omega) (Ev.bind (value_ev h _ (by simp; omega) (fits_snoc form 0 _ hfit (by omega) (by rw [Nat.zero_add, hfl]; omega)) i hi) ?_)
    rw [he, rd_nat, step_nat (by omega)]
    exact Ev.pos (by omega) (Ev.pos (by omega) (Ev.pos rfl (Ev.bind hroom (Ev.neg (by omega) (Ev.pos (by omega) hr)))))
  | succ d ih =>
    intro c hc
    refine Ev.step (fun k => by simp only [galloonref06_Form.l1]; exact rfl) ?_
    have hroom : Ev (fun k => galloonref06_Room.f k (m : Int) (i : Int)) (ch m i : Int) := Ev.from200 fun k hk => room_ev h (by omega) hk
    refine Ev.bind hroom (Ev.pos (by omega) (Ev.pos (by simp; omega) ?_))
    rw [List.nil_append]
    refine Ev.bind (Ev.now form) ?_
    refine Ev.pos (by omega) (Ev.bind (value_ev h _ (by simp; omega) (fits_snoc form 0 _ hfit (by omega) (by rw [Nat.zero_add, hfl]; omega)) i hi) ?_)
    rw [rd_nat]
    refine Ev.pos (by omega) (Ev.pos (by omega) (Ev.neg (hno c (by omega)) ?_))
    rw [step_nat (by omega)]
    exact ih (c + 1) (by omega)
theorem rform_none {m : Nat} (h : Mod m) {f form : List Int} (hlen : f.length = m) {i : Nat} (hi : i < m) (hfl : form.length = i) (hfit : MathB.Fits m 0 form)
    (hno : ∀ c : Nat, c < ch m i → comb 0 (form ++ [(c : Int)]) (i : Int) % (m : Int) ≠ f.getD i 0) : ∀ (d c : Nat), c + d = ch m i → Ev (fun k => galloonref06_Form.l1 k (m : Int) f form (i : Int) (c : Int)) ([], false) := by
  have h1 := h.lo
  have h2 := h.hi
  have hch := ch_le (m := m) i
  intro d
  induction d with
  | zero =>
    intro c hc
    have hc' : c = ch m i := by omega
    subst hc'
    refine Ev.step (fun k => by simp only [galloonref06_Form.l1]; exact rfl) ?_
    have hroom : Ev (fun k => galloonref06_Room.f k (m : Int) (i : Int)) (ch m i : Int) := Ev.from200 fun k hk => room_ev h (by omega) hk
    exact Ev.bind hroom (Ev.neg (by omega) (Ev.bind hroom (Ev.pos rfl (Ev.now _))))
  | succ d ih =>
    intro c hc
    refine Ev.step (fun k => by simp only [galloonref06_Form.l1]; exact rfl) ?_
    have hroom : Ev (fun k => galloonref06_Room.f k (m : Int) (i : Int)) (ch m i : Int) := Ev.from200 fun k hk => room_ev h (by omega) hk
    refine Ev.bind hroom (Ev.pos (by omega) (Ev.pos (by simp; omega) ?_))
    rw [List.nil_append]
    refine Ev.bind (Ev.now form) ?_
    refine Ev.pos (by omega) (Ev.bind (value_ev h _ (by simp; omega) (fits_snoc form 0 _ hfit (by omega) (by rw [Nat.zero_add, hfl]; omega)) i hi) ?_)
    rw [rd_nat]
    refine Ev.pos (by omega) (Ev.pos (by omega) (Ev.neg (hno c (by omega)) ?_))
    rw [step_nat (by omega)]
    exact ih (c + 1) (by omega)

/-! ### the end -/
theorem rform_l2 (l : List Int) (hl : l.length ≤ 1000) : ∀ n : Nat, n ≤ l.length → trim (l.take n) = trim l → Ev (fun k => galloonref06_Form.l2 k l (n : Int)) (trim l, true)
  | 0, _, ht => by
    refine Ev.step (fun k => by simp only [galloonref06_Form.l2]; exact rfl) ?_
    refine Ev.neg (by omega) (Ev.pos (by omega) (Ev.pos (by omega) ?_))
    rw [← ht]
    exact Ev.now _
  | n + 1, hn, ht => by
    refine Ev.step (fun k => by simp only [galloonref06_Form.l2]; exact rfl) ?_
    have e : wrap64 (((n + 1 : Nat) : Int) - 1) = (n : Int) := by rw [wrap_in (by omega) (by omega)]; omega
    rw [e, rd_nat]
    refine Ev.pos (by omega) (Ev.pos (by omega) (Ev.pos (by omega) ?_))
    have e2 : l.take (n + 1) = l.take n ++ [l.getD n 0] := by
      rw [List.take_succ_eq_append_getElem (by omega), List.getD_eq_getElem?_getD, List.getElem?_eq_getElem (by omega)]
      rfl
    by_cases hz : l.getD n 0 = 0
    · rw [e2, hz, trim_zero] at ht
      exact Ev.pos hz (rform_l2 l hl n (by omega) ht)
    · rw [e2, trim_last _ _ hz, ← e2] at ht
      refine Ev.neg hz (Ev.pos (by omega) (Ev.pos (by omega) ?_))
      rw [Int.toNat_natCast, ht]
      exact Ev.now _
theorem comb_snoc (l : List Int) (c : Int) (x : Int) : comb 0 (l ++ [c]) x = comb 0 l x + c * ff x l.length := by
  rw [comb_append, comb_cons, comb_nil, Nat.zero_add]; omega
theorem comb_zeros (l : List Int) (x : Int) : ∀ n, comb 0 (l ++ List.replicate n 0) x = comb 0 l x
  | 0 => by rw [List.replicate_zero, List.append_nil]
  | n + 1 => by rw [List.replicate_succ', ← List.append_assoc, comb_snoc, comb_zeros l x n]; omega
theorem trim_zeros (l : List Int) : ∀ n, trim (l ++ List.replicate n 0) = trim l
  | 0 => by rw [List.replicate_zero, List.append_nil]
  | n + 1 => by rw [List.replicate_succ', ← List.append_assoc, trim_zero, trim_zeros l n]
theorem fits_zeros {m : Nat} (hm : 0 < m) (l : List Int) (hf : MathB.Fits m 0 l) : ∀ n, MathB.Fits m 0 (l ++ List.replicate n 0)
  | 0 => by rw [List.replicate_zero, List.append_nil]; exact hf
  | n + 1 => by
    rw [List.replicate_succ', ← List.append_assoc]
    have := ch_pos (m := m) (0 + (l ++ List.replicate n (0 : Int)).length) hm
    exact fits_snoc _ 0 0 (fits_zeros hm l hf n) (by omega) (by omega)
/-- A polynomial function. -/
theorem rform_poly {m : Nat} (h : Mod m) {f : List Int} (hf : Rem m f) (hlen : f.length = m) {a : List Int} (hal : a.length = m) (hfit : MathB.Fits m 0 a) (hs : MathB.Same m f 0 a) : ∀ (d i : Nat), i + d = m → Ev (fun k => galloonref06_Form.l0 k (m : Int) f (a.take i) (i : Int)) (trim a, true) := by
  have h1 := h.lo
  have h2 := h.hi
  intro d
  induction d with
  | zero =>
    intro i hi
    refine Ev.step (fun k => by simp only [galloonref06_Form.l0]; exact rfl) ?_
    rw [List.take_of_length_le (by omega)]
    have := rform_l2 a (by omega) a.length (Nat.le_refl _) (by rw [List.take_length])
    exact Ev.neg (by omega) this
  | succ d ih =>
    intro i hi
    refine Ev.step (fun k => by simp only [galloonref06_Form.l0]; exact rfl) ?_
    refine Ev.pos (by omega) ?_
    have hia : i < a.length := by omega
    have hg := fits_get a 0 i hfit hia
    rw [Nat.zero_add] at hg
    obtain ⟨c0, hc0⟩ := Int.eq_ofNat_of_zero_le hg.1
    have hti : (a.take i).length = i := by rw [List.length_take]; omega
    have e2 : a.take (i + 1) = a.take i ++ [(c0 : Int)] := by
      rw [List.take_succ_eq_append_getElem hia, ← hc0, List.getD_eq_getElem?_getD, List.getElem?_eq_getElem hia]
      rfl
    have hall : comb 0 a (i : Int) = comb 0 (a.take (i + 1)) (i : Int) := by
      have e3 : a = a.take (i + 1) ++ a.drop (i + 1) := (List.take_append_drop _ _).symm
      have h3 := comb_append 0 (a.take (i + 1)) (a.drop (i + 1)) (i : Int)
      rw [← e3, comb_below (a.drop (i + 1)) (0 + (a.take (i + 1)).length) i (by rw [List.length_take]; omega)] at h3
      omega
    have hfi := hf (f.getD i 0) (by rw [List.getD_eq_getElem?_getD, List.getElem?_eq_getElem (by omega)]; exact List.getElem_mem _)
    have hval : comb 0 (a.take i ++ [(c0 : Int)]) (i : Int) % (m : Int) = f.getD i 0 := by
      rw [← e2, ← hall]
      have h3 := Int.emod_emod_of_dvd (comb 0 a (i : Int)) (Int.dvd_refl (m : Int))
      have h4 := Int.emod_eq_emod_iff_emod_sub_eq_zero.2 (Int.emod_eq_zero_of_dvd (hs i (by omega)))
      rw [← h4, Int.emod_eq_of_lt hfi.1 hfi.2]
    refine rform_some h hlen (by omega) hti (fits_take a 0 i hfit) (c0 := c0) (by omega) hval (fun c hc e => ?_) (by rw [← e2]; exact ih (i + 1) (by omega)) c0 0 (by omega)
    have h5 := Int.emod_eq_emod_iff_emod_sub_eq_zero.1 (hval.trans e.symm)
    have h6 := Int.dvd_of_emod_eq_zero h5
    rw [comb_snoc, comb_snoc, hti, ff_self, show comb 0 (a.take i) (i : Int) + (c0 : Int) * (fct i : Int) - (comb 0 (a.take i) (i : Int) + (c : Int) * (fct i : Int)) = ((c0 - c : Nat) : Int) * (fct i : Int) by rw [Int.ofNat_sub (by omega), Int.sub_mul]; omega, ch_dvd (by omega)] at h6
    have h7 : ch m i ∣ c0 - c := by exact_mod_cast h6
    have := Nat.le_of_dvd (by omega) h7
    omega
/-- None. -/
theorem rform_no {m : Nat} (h : Mod m) {f : List Int} (hf : Rem m f) (hlen : f.length = m) (hs : ¬ ∃ a, MathB.Same m f 0 a) : ∀ (d i : Nat) (form : List Int), i + d = m → form.length = i → MathB.Fits m 0 form → (∀ x, x < i → comb 0 form (x : Int) % (m : Int) = f.getD x 0) →
    Ev (fun k => galloonref06_Form.l0 k (m : Int) f form (i : Int)) ([], false) := by
  have h1 := h.lo
  have h2 := h.hi
  intro d
  induction d with
  | zero =>
    intro i form hi hl hfit hx
    refine absurd ⟨form, fun x hx' => ?_⟩ hs
    have e := hx x (by omega)
    rw [← e]
    refine Int.dvd_of_emod_eq_zero ?_
    rw [← Int.emod_eq_emod_iff_emod_sub_eq_zero, Int.emod_emod]
  | succ d ih =>
    intro i form hi hl hfit hx
    refine Ev.step (fun k => by simp only [galloonref06_Form.l0]; exact rfl) ?_
    refine Ev.pos (by omega) ?_
    cases hc : (List.range (ch m i)).find? fun (c : Nat) => decide (comb 0 (form ++ [(c : Int)]) (i : Int) % (m : Int) = f.getD i 0) with
    | none => exact rform_none h hlen (by omega) hl hfit (fun c hc' e => by have := find_range_none hc c hc'; rw [decide_eq_false_iff_not] at this; exact this e) (ch m i) 0 (by omega)
    | some c0 =>
      obtain ⟨h3, h4, h5⟩ := find_range_some hc
      have h4' := of_decide_eq_true h4
      refine rform_some h hlen (by omega) hl hfit h3 h4' (fun c hc' e => by have := h5 c hc'; rw [decide_eq_false_iff_not] at this; exact this e) (ih (i + 1) _ (by omega) (by simp [hl]) (fits_snoc form 0 _ hfit (by omega) (by rw [Nat.zero_add, hl]; omega)) fun x hx' => ?_) c0 0 (by omega)
      by_cases e : x = i
      · subst e; exact h4'
      · rw [comb_snoc, hl, ff_zero_of_lt x i (by omega), Int.mul_zero, Int.add_zero]
        exact hx x (by omega)
/-- Form, and the reference's. -/
theorem Form_both {m : Nat} (h : Mod m) {f : List Int} (hf : Rem m f) (hlen : f.length = m) : ∃ c, (Ev (fun k => shuffle_Form.f k (m : Int) f) (c, 0) ∧ Ev (fun k => galloonref06_Form.f k (m : Int) f) (c, true) ∧ c.length ≤ 64) ∨ (Ev (fun k => shuffle_Form.f k (m : Int) f) ([], 6) ∧ Ev (fun k => galloonref06_Form.f k (m : Int) f) ([], false)) := by
  have h1 := h.lo
  have h2 := h.hi
  have hF := Form_ev h hf hlen
  by_cases hs : ∃ a, MathB.Same m f 0 a
  · obtain ⟨a, ha⟩ := hs
    have hd := deg_le h
    obtain ⟨cs, e, hl, hfit, hsame⟩ := formS_ok (m := m) (d := degN m) (by omega) (deg_dvd h) (degN m) 0 [] f a (by omega) (by rw [hlen]; exact deg_le h) hf ha
    rw [e] at hF
    simp only [if_true, List.nil_append] at hF
    have htl := trim_length cs
    refine ⟨trim cs, .inl ⟨hF, ?_, by omega⟩⟩
    have := rform_poly h hf hlen (a := cs ++ List.replicate (m - degN m) 0) (by simp; omega) (fits_zeros (by omega) cs hfit _) (fun x hx => by rw [comb_zeros]; exact hsame x hx) m 0 (by omega)
    rw [List.take_zero, trim_zeros] at this
    exact this
  · have hne : (formS m (degN m) 0 [] f).2 = false := by
      cases hb : (formS m (degN m) 0 [] f).2 with
      | false => rfl
      | true => exact absurd (formS_sound (by omega) (degN m) 0 [] f (formS m (degN m) 0 [] f).1 (by rw [← hb])) hs
    rw [hne] at hF
    simp only [Bool.false_eq_true, if_false] at hF
    exact ⟨[], .inr ⟨hF, rform_no h hf hlen hs m 0 [] (by omega) rfl trivial fun x hx => absurd hx (by omega)⟩⟩

end Go.Proofs.Ytpkmmbicpijgpaa.Pure
