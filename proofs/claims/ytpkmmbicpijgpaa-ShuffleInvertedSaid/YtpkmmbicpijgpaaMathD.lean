/- The printed form of a function is the plain algorithm's. -/
import Derived.Test.YtpkmmbicpijgpaaMathC
namespace Go.Proofs.Ytpkmmbicpijgpaa.Pure
open Go.RowKit Go.Proofs.Ytpkmmbicpijgpaa.F Go.Proofs.YtpkmmbicpijgpaaW.PrintWords Go.Proofs.YtpkmmbicpijgpaaW.PrintLast
open Go.Proofs.Ytpkmmbicpijgpaa.MathA Go.Proofs.Ytpkmmbicpijgpaa.MathB

theorem Ev.pos {α : Type} {c : Prop} [Decidable c] {f g : Nat → Option α} {r : α} (hc : c) (h : Ev f r) : Ev (fun k => if c then f k else g k) r := Ev.congr (fun _ => if_pos hc) h
theorem Ev.neg {α : Type} {c : Prop} [Decidable c] {f g : Nat → Option α} {r : α} (hc : ¬ c) (h : Ev g r) : Ev (fun k => if c then f k else g k) r := Ev.congr (fun _ => if_neg hc) h
theorem Ev.from200 {α : Type} {g : Nat → Option α} {r : α} (h : ∀ k, 200 ≤ k → g k = some r) : Ev g r := ⟨200, h⟩

theorem tmod_emod' (a m : Int) : Int.tmod a m % m = a % m := by
  have h := Int.mul_tdiv_add_tmod a m
  have e : a % m = (Int.tmod a m + m * Int.tdiv a m) % m := by rw [Int.add_comm, h]
  rw [e, Int.add_mul_emod_self_left]

theorem tmod_zero_iff (a m : Int) : Int.tmod a m = 0 ↔ a % m = 0 := by
  constructor
  · intro h
    rw [← tmod_emod', h]
    simp
  · intro h
    obtain ⟨k, hk⟩ := Int.dvd_of_emod_eq_zero h
    rw [hk, Int.mul_tmod_right]

theorem tmod_bounds (a : Int) {m : Int} (hm : 0 < m) : -m < Int.tmod a m ∧ Int.tmod a m < m := by
  constructor
  · have := Int.lt_tmod_of_pos a hm
    exact this
  · exact Int.tmod_lt_of_pos a hm

/-- How the code brings a difference back. -/
theorem back_mod (a : Int) {m : Nat} (h : Mod m) : Int.tmod (wrap64 (Int.tmod a (m : Int) + (m : Int))) (m : Int) = a % (m : Int) := by
  have h1 := h.lo
  have h2 := h.hi
  have := tmod_bounds a (show (0 : Int) < m by omega)
  rw [wrap_in (by omega) (by omega), Int.tmod_eq_emod_of_nonneg (by omega), Int.add_emod_right, tmod_emod']

theorem trim_zero (l : List Int) : trim (l ++ [0]) = trim l := by
  induction l with
  | nil => simp [trim]
  | cons a l ih => rw [List.cons_append, trim, trim, ih]
theorem trim_last (l : List Int) (a : Int) (ha : a ≠ 0) : trim (l ++ [a]) = l ++ [a] := by
  induction l with
  | nil => simp [trim, ha]
  | cons b l ih => rw [List.cons_append, trim, ih, if_neg (by simp)]

theorem anyNZ (l : List Int) : (!(l.any fun x => x != 0)) = l.all fun v => decide (v = 0) := by
  rw [List.all_eq_not_any_not]
  congr 2

theorem form_l3 (left : List Int) : ∀ (n : Nat) (l : List Int), l.length = n → n ≤ 1000 → Ev (fun k => shuffle_form.l3 k l left) (trim l, left.all fun v => decide (v = 0))
  | 0, l, hl, _ => by
    obtain rfl : l = [] := List.eq_nil_of_length_eq_zero hl
    refine Ev.step (fun k => by simp only [shuffle_form.l3]; exact rfl) ?_
    refine Ev.neg (by simp) ?_
    unfold anyNonZero.f
    simp only [Option.bind_some, anyNZ, trim]
    exact Ev.now _
  | n + 1, l, hl, hn => by
    obtain ⟨l', a, rfl⟩ : ∃ l' a, l = l' ++ [a] := by
      rcases List.eq_nil_or_concat l with h | ⟨l', a, h⟩
      · rw [h] at hl; simp at hl
      · exact ⟨l', a, by rw [h, List.concat_eq_append]⟩
    have hl' : l'.length = n := by simpa using hl
    have e : wrap64 (((l' ++ [a]).length : Int) - 1) = (n : Int) := by rw [hl, wrap_in (by omega) (by omega)]; omega
    refine Ev.step (fun k => by simp only [shuffle_form.l3]; exact rfl) ?_
    rw [e]
    refine Ev.pos (by omega) (Ev.pos (by omega) (Ev.pos (by omega) ?_))
    have e2 : rd (l' ++ [a]) (n : Int) = a := by rw [rd_nat]; simp [← hl']
    rw [e2]
    by_cases ha : a = 0
    · refine Ev.pos ha (Ev.pos (by omega) ?_)
      have e3 : (l' ++ [a]).take ((n : Int)).toNat = l' := by simp [← hl']
      rw [e3, ha, trim_zero]
      exact form_l3 left n l' hl' (by omega)
    · refine Ev.neg ha ?_
      unfold anyNonZero.f
      simp only [Option.bind_some, anyNZ, trim_last l' a ha]
      exact Ev.now _

theorem subL_step (m i c : Nat) (left : List Int) (j : Nat) (hj : j < left.length) :
    ((subL m i c left).take j ++ left.drop j).set j ((left.getD j 0 - (c : Int) * ff (j : Int) i) % (m : Int)) = (subL m i c left).take (j + 1) ++ left.drop (j + 1) := by
  have h1 : (subL m i c left).length = left.length := subL_length ..
  rw [List.set_append_right _ _ (by simp; omega)]
  have e : j - ((subL m i c left).take j).length = 0 := by simp; omega
  rw [e, List.drop_eq_getElem_cons hj, List.set_cons_zero, List.take_succ_eq_append_getElem (by omega)]
  have e2 : (subL m i c left)[j]'(by omega) = (left.getD j 0 - (c : Int) * ff (j : Int) i) % (m : Int) := by
    rw [← subL_get m i c left j hj]; simp [h1, hj]
  rw [e2, List.append_assoc]
  rfl

theorem form_l2 {m : Nat} (h : Mod m) (i c : Nat) (hi : i ≤ m) (hc : c < m) (left out : List Int) (hl : Rem m left) (hlen : left.length = m) (lim : Int) {r : List Int × Bool}
    (hr : Ev (fun k => shuffle_form.l0 k (m : Int) out (subL m i c left) lim (wrap64 ((i : Int) + 1))) r) : ∀ (d j : Nat), j + d = m →
    Ev (fun k => shuffle_form.l2 k (m : Int) out ((subL m i c left).take j ++ left.drop j) (i : Int) (c : Int) lim (i : Int) (m : Int) (j : Int)) r := by
  have h1 := h.lo
  have h2 := h.hi
  have hs : (subL m i c left).length = m := by rw [subL_length, hlen]
  intro d
  induction d with
  | zero =>
    intro j hj
    refine Ev.step (fun k => by simp only [shuffle_form.l2]; exact rfl) ?_
    refine Ev.neg (by omega) ?_
    obtain rfl : j = m := by omega
    rw [List.take_of_length_le (by omega), List.drop_eq_nil_of_le (by omega), List.append_nil]
    exact hr
  | succ d ih =>
    intro j hj
    refine Ev.step (fun k => by simp only [shuffle_form.l2]; exact rfl) ?_
    have hjl : j < left.length := by omega
    have hL : ((subL m i c left).take j ++ left.drop j).length = m := by simp; omega
    refine Ev.pos (by omega) (Ev.pos (by omega) (Ev.pos (by omega) ?_))
    have hfall : Ev (fun k => shuffle_falling.f k (m : Int) (j : Int) (i : Int)) (ff (j : Int) i % (m : Int)) := Ev.from200 fun k hk => falling_ev h (j : Int) i (by omega) (by omega) hi hk
    refine Ev.bind hfall ?_
    refine Ev.neg (by omega) ?_
    have hv : rd ((subL m i c left).take j ++ left.drop j) (j : Int) = left.getD j 0 := by
      rw [rd_nat]
      have : j < left.length := by omega
      simp only [List.getD_eq_getElem?_getD]
      rw [List.getElem?_append_right (by simp; omega)]
      simp [show min j (subL m i c left).length = j by omega]
    have hb := hl.get (i := j) (by omega)
    have b1 := Int.emod_nonneg (ff (j : Int) i) (show (m : Int) ≠ 0 by omega)
    have b2 := Int.emod_lt_of_pos (ff (j : Int) i) (show (0 : Int) < m by omega)
    have b5 := mulmod_small (a := (c : Int)) (b := ff (j : Int) i % (m : Int)) (m := m) (by omega) (by omega) b1 (by omega) (by omega)
    rw [hv, wrap_in (n := (c : Int) * (ff (j : Int) i % (m : Int))) (by omega) (by omega), wrap_in (n := left.getD j 0 - (c : Int) * (ff (j : Int) i % (m : Int))) (by omega) (by omega), back_mod _ h]
    have e1 : (left.getD j 0 - (c : Int) * (ff (j : Int) i % (m : Int))) % (m : Int) = (left.getD j 0 - (c : Int) * ff (j : Int) i) % (m : Int) := by
      rw [Int.sub_emod, Int.mul_emod, Int.emod_emod, ← Int.mul_emod, ← Int.sub_emod]
    have e3 : wrap64 ((j : Int) + 1) = ((j + 1 : Nat) : Int) := by rw [wrap_in (by omega) (by omega)]; push_cast; rfl
    rw [e1, e3, Int.toNat_natCast, subL_step m i c left j hjl]
    exact ih (j + 1) (by omega)

def good (m i : Nat) (v : Int) (c : Nat) : Prop := ((c : Int) * (fct i : Int) - v) % (m : Int) = 0

theorem code_good {m : Nat} (h : Mod m) (i c : Nat) (v : Int) (hv0 : 0 ≤ v) (hv : v < m) (hc : c < m) :
    Int.tmod (wrap64 (wrap64 ((c : Int) * ((fct i : Int) % (m : Int))) - v)) (m : Int) = 0 ↔ good m i v c := by
  have h1 := h.lo
  have h2 := h.hi
  have b1 := Int.emod_nonneg (fct i : Int) (show (m : Int) ≠ 0 by omega)
  have b2 := Int.emod_lt_of_pos (fct i : Int) (show (0 : Int) < m by omega)
  have b5 := mulmod_small (a := (c : Int)) (b := (fct i : Int) % (m : Int)) (m := m) (by omega) (by omega) b1 (by omega) (by omega)
  rw [wrap_in (n := (c : Int) * ((fct i : Int) % (m : Int))) (by omega) (by omega), wrap_in (by omega) (by omega), tmod_zero_iff]
  unfold good
  rw [Int.sub_emod, Int.mul_emod, Int.emod_emod, ← Int.mul_emod, ← Int.sub_emod]

theorem form_l1 {m : Nat} (h : Mod m) (i : Nat) (hi : i < m) (left out : List Int) (hl : Rem m left) (hlen : left.length = m) (lim : Int) (cs : Nat) (hcs : cs ≤ ch m i)
    (hstop : cs = ch m i ∨ good m i (left.getD i 0) cs) {r : List Int × Bool} (hr : Ev (fun k => shuffle_form.j2 k (m : Int) out left (i : Int) (cs : Int) lim (i : Int)) r) :
    ∀ (d c : Nat), c + d = cs → (∀ q, c ≤ q → q < cs → ¬ good m i (left.getD i 0) q) → Ev (fun k => shuffle_form.l1 k (m : Int) out left (i : Int) (c : Int) lim (i : Int)) r := by
  have h1 := h.lo
  have h2 := h.hi
  have hchm := ch_le (m := m) i
  have hb := hl.get (i := i) (by omega)
  intro d
  induction d with
  | zero =>
    intro c hc _
    obtain rfl : c = cs := by omega
    refine Ev.step (fun k => by simp only [shuffle_form.l1]; exact rfl) ?_
    refine Ev.bind (Ev.from200 fun k hk => choices_ev h (by omega) hk) ?_
    by_cases hlt : c < ch m i
    · refine Ev.pos (by omega) ?_
      refine Ev.bind (Ev.from200 fun k hk => factorial_ev h (by omega) hk) ?_
      refine Ev.pos (by omega) (Ev.pos (by omega) (Ev.neg (by omega) ?_))
      rw [rd_nat]
      refine Ev.pos ((code_good h i c _ hb.1 hb.2 (by omega)).2 ?_) hr
      rcases hstop with e | e
      · omega
      · exact e
    · exact Ev.neg (by omega) hr
  | succ d ih =>
    intro c hc hno
    refine Ev.step (fun k => by simp only [shuffle_form.l1]; exact rfl) ?_
    refine Ev.bind (Ev.from200 fun k hk => choices_ev h (by omega) hk) ?_
    refine Ev.pos (by omega) ?_
    refine Ev.bind (Ev.from200 fun k hk => factorial_ev h (by omega) hk) ?_
    refine Ev.pos (by omega) (Ev.pos (by omega) (Ev.neg (by omega) ?_))
    rw [rd_nat]
    refine Ev.neg (fun e => hno c (Nat.le_refl _) (by omega) ((code_good h i c _ hb.1 hb.2 (by omega)).1 e)) ?_
    have e3 : wrap64 ((c : Int) + 1) = ((c + 1 : Nat) : Int) := by rw [wrap_in (by omega) (by omega)]; push_cast; rfl
    rw [e3]
    exact ih (c + 1) (by omega) (fun q hq1 hq2 => hno q (by omega) hq2)

theorem find_range_none {p : Nat → Bool} {n : Nat} (h : (List.range n).find? p = none) : ∀ q, q < n → p q = false := by
  intro q hq
  rw [List.find?_eq_none] at h
  have := h q (List.mem_range.2 hq)
  simpa using this
theorem find_range_some {p : Nat → Bool} {n c : Nat} (h : (List.range n).find? p = some c) : c < n ∧ p c = true ∧ ∀ q, q < c → p q = false := by
  refine ⟨List.mem_range.1 (List.mem_of_find?_eq_some h), List.find?_some h, ?_⟩
  rw [List.find?_range_eq_some] at h
  intro q hq
  have := h.2.2 q hq
  simpa using this

theorem form_l0 {m : Nat} (h : Mod m) (d : Nat) (hd : d ≤ m) : ∀ (n i : Nat) (out left : List Int), i + n = d → out.length = i → Rem m left → left.length = m →
    Ev (fun k => shuffle_form.l0 k (m : Int) out left (d : Int) (i : Int)) (formS m n i out left)
  | 0, i, out, left, hi, ho, hl, hlen => by
    have h2 := h.hi
    refine Ev.step (fun k => by simp only [shuffle_form.l0]; exact rfl) ?_
    refine Ev.neg (by omega) ?_
    exact form_l3 left _ out ho (by omega)
  | n + 1, i, out, left, hi, ho, hl, hlen => by
    have h1 := h.lo
    have h2 := h.hi
    have hchm := ch_le (m := m) i
    refine Ev.step (fun k => by simp only [shuffle_form.l0]; exact rfl) ?_
    refine Ev.pos (by omega) ?_
    have hp : ∀ q : Nat, decide (((q : Int) * (fct i : Int) - left.getD i 0) % (m : Int) = 0) = false → ¬ good m i (left.getD i 0) q := fun q hq => by simpa [good] using hq
    rw [formS]
    cases e : findC m i (left.getD i 0) with
    | none =>
      have hno := find_range_none e
      refine form_l1 h i (by omega) left out hl hlen d (ch m i) (Nat.le_refl _) (.inl rfl) ?_ (ch m i) 0 (by omega) (fun q _ hq => hp q (hno q hq))
      refine Ev.step (fun k => by simp only [shuffle_form.j2]; exact rfl) ?_
      refine Ev.bind (Ev.from200 fun k hk => choices_ev h (by omega) hk) ?_
      exact Ev.pos rfl (Ev.now _)
    | some c =>
      obtain ⟨hc1, hc2, hc3⟩ := find_range_some e
      refine form_l1 h i (by omega) left out hl hlen d c (by omega) (.inr (by simpa [good] using hc2)) ?_ c 0 (by omega) (fun q _ hq => hp q (hc3 q hq))
      refine Ev.step (fun k => by simp only [shuffle_form.j2]; exact rfl) ?_
      refine Ev.bind (Ev.from200 fun k hk => choices_ev h (by omega) hk) ?_
      refine Ev.neg (by omega) (Ev.pos (by omega) ?_)
      have e3 : wrap64 ((i : Int) + 1) = ((i + 1 : Nat) : Int) := by rw [wrap_in (by omega) (by omega)]; push_cast; rfl
      have hrec := form_l0 h d hd n (i + 1) (out ++ [(c : Int)]) (subL m i c left) (by omega) (by simp [ho]) (Left.subL (by omega)) (by rw [subL_length, hlen])
      have := form_l2 h i c (by omega) (by omega) left (out ++ [(c : Int)]) hl hlen (d : Int) (r := formS m n (i + 1) (out ++ [(c : Int)]) (subL m i c left)) (by rw [e3]; exact hrec) m 0 (by omega)
      simp only [List.take_zero, List.nil_append, List.drop_zero] at this
      rw [hlen]
      exact this

theorem form_ev {m : Nat} (h : Mod m) {f : List Int} (hf : Rem m f) (hlen : f.length = m) : Ev (fun k => shuffle_form.f k (m : Int) f) (formS m (degN m) 0 [] f) := by
  have h2 := h.hi
  have hd := deg_le h
  have e0 : slices_Clone_int_int.f f = some f := by
    unfold slices_Clone_int_int.f
    rw [if_pos (by omega)]
  refine Ev.congr (f := fun k => (shuffle_degree.f k (m : Int)).bind fun t => shuffle_form.l0 k (m : Int) [] f (mn t (m : Int)) 0) (fun k => by unfold shuffle_form.f; rw [e0]; rfl) ?_
  refine Ev.bind (Ev.from200 fun k hk => degree_ev h hk) ?_
  have e : mn (degN m : Int) (m : Int) = (degN m : Int) := by unfold mn; split <;> omega
  rw [e]
  exact form_l0 h (degN m) hd (degN m) 0 [] f (by omega) rfl hf hlen

theorem Form_ev {m : Nat} (h : Mod m) {f : List Int} (hf : Rem m f) (hlen : f.length = m) :
    Ev (fun k => shuffle_Form.f k (m : Int) f) (if (formS m (degN m) 0 [] f).2 = true then ((formS m (degN m) 0 [] f).1, 0) else ([], 6)) := by
  refine Ev.congr (f := fun k => (shuffle_form.f k (m : Int) f).bind fun bt => if bt.2 = true then some (bt.1, 0) else some ([], 6)) (fun k => by unfold shuffle_Form.f; rw [isFun_ev h hf hlen]; simp only [Option.bind_some, if_true]) ?_
  refine Ev.bind (form_ev h hf hlen) ?_
  split
  · exact Ev.now _
  · exact Ev.now _


end Go.Proofs.Ytpkmmbicpijgpaa.Pure
