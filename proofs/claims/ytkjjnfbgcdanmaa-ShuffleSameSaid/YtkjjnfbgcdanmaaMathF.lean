/- Unform of the program and of the reference. -/
import Derived.Test.YtkjjnfbgcdanmaaMathF0
namespace Go.Proofs.Ytkjjnfbgcdanmaa.Pure
open Go.RowKit Go.Proofs.Ytkjjnfbgcdanmaa.P Go.Proofs.YtkjjnfbgcdanmaaW.PrintWords Go.Proofs.YtkjjnfbgcdanmaaW.PrintLast
open Go.Proofs.Ytkjjnfbgcdanmaa.MathA Go.Proofs.Ytkjjnfbgcdanmaa.MathB

theorem step_nat {j : Nat} (h : j ≤ 1000000) : wrap64 ((j : Int) + 1) = ((j + 1 : Nat) : Int) := by
  rw [wrap_in (by omega) (by omega)]; push_cast; rfl

/-! ### falling of the reference -/
theorem rfalling_l0 {m : Nat} (h : Mod m) (x n : Nat) (hx : x ≤ 64) (hn : n ≤ 65) : ∀ (d j : Nat), j + d = n → 0 < j → ∀ k, d < k →
    galloonref06_falling.l0 k (m : Int) (x : Int) (n : Int) (ff (x : Int) j % (m : Int)) (j : Int) = some (ff (x : Int) n % (m : Int)) := by
  have h1 := h.lo
  have h2 := h.hi
  intro d
  induction d with
  | zero =>
    intro j hj hj0 k hk
    obtain ⟨k, rfl, _⟩ := succ_of_lt hk
    simp only [galloonref06_falling.l0]
    rw [if_neg (by omega)]
    obtain rfl : j = n := by omega
    rfl
  | succ d ih =>
    intro j hj hj0 k hk
    obtain ⟨k, rfl, hk⟩ := succ_of_lt hk
    simp only [galloonref06_falling.l0]
    rw [if_pos (by omega), if_neg (by omega)]
    have e1 : wrap64 ((x : Int) - (j : Int)) = (x : Int) - j := wrap_in (by omega) (by omega)
    have b1 := Int.emod_nonneg (ff (x : Int) j) (show (m : Int) ≠ 0 by omega)
    have b2 := Int.emod_lt_of_pos (ff (x : Int) j) (show (0 : Int) < m by omega)
    have b3 : 0 ≤ mx ((x : Int) - j) 0 ∧ mx ((x : Int) - j) 0 ≤ 64 := by unfold mx; split <;> omega
    have b5 := mulmod_small b1 b2 b3.1 b3.2 (by omega)
    rw [e1, step_nat (by omega), wrap_in (n := ff (x : Int) j % (m : Int) * mx ((x : Int) - j) 0) (by omega) (by omega), Int.tmod_eq_emod_of_nonneg b5.1]
    have e5 : ff (x : Int) j % (m : Int) * mx ((x : Int) - j) 0 % (m : Int) = ff (x : Int) (j + 1) % (m : Int) := by
      by_cases hc : j ≤ x
      · have e6 : mx ((x : Int) - j) 0 = (x : Int) - j := by unfold mx; split <;> omega
        rw [e6, ff_succ, Int.mul_emod, Int.emod_emod, ← Int.mul_emod]
      · rw [ff_zero_of_lt x j (by omega), ff_zero_of_lt x (j + 1) (by omega)]
        simp
    rw [e5]
    exact ih (j + 1) (by omega) (by omega) k (by omega)

theorem rfalling_ev {m : Nat} (h : Mod m) (x n : Nat) (hx : x ≤ 64) (hn : n ≤ 65) {k : Nat} (hk : 200 ≤ k) : galloonref06_falling.f k (m : Int) (x : Int) (n : Int) = some (ff (x : Int) n % (m : Int)) := by
  have h1 := h.lo
  have h2 := h.hi
  unfold galloonref06_falling.f
  cases n with
  | zero =>
    obtain ⟨k, rfl, _⟩ := succ_of_lt (show 0 < k by omega)
    simp only [galloonref06_falling.l0]
    rw [if_neg (by omega)]
    have : (1 : Int) % (m : Int) = 1 := Int.emod_eq_of_lt (by omega) (by omega)
    simp [ff, this]
  | succ n =>
    obtain ⟨k, rfl, hk⟩ := succ_of_lt (show 199 < k by omega)
    simp only [galloonref06_falling.l0]
    rw [if_pos (by omega), if_neg (by omega)]
    have b3 : mx (wrap64 ((x : Int) - 0)) 0 = (x : Int) := by rw [wrap_in (by omega) (by omega)]; unfold mx; split <;> omega
    rw [b3, wrap_in (n := 1 * (x : Int)) (by omega) (by omega), Int.tmod_eq_emod_of_nonneg (by omega)]
    have e : (1 * (x : Int)) % (m : Int) = ff (x : Int) 1 % (m : Int) := by simp [ff]
    have e2 : wrap64 ((0 : Int) + 1) = ((1 : Nat) : Int) := by rw [wrap_in (by omega) (by omega)]; rfl
    rw [e, e2]
    exact rfalling_l0 h x (n + 1) hx hn n 1 (by omega) (by omega) k (by omega)

/-! ### what fits -/
def fitsB (m : Nat) : Nat → List Int → Bool
  | _, [] => true
  | i, c :: l => decide (0 ≤ c) && decide (c < (ch m i : Int)) && fitsB m (i + 1) l

theorem fitsB_iff (m : Nat) (i : Nat) (l : List Int) : fitsB m i l = true ↔ MathB.Fits m i l := by
  induction l generalizing i with
  | nil => simp [fitsB, MathB.Fits]
  | cons c l ih => simp [fitsB, MathB.Fits, ih, and_assoc]

def lastPos (l : List Int) : Bool := match l.getLast? with | none => true | some v => decide (0 < v)

theorem drop_cons {l : List Int} {i : Nat} (hi : i < l.length) : l.drop i = l.getD i 0 :: l.drop (i + 1) := by
  rw [List.drop_eq_getElem_cons hi]
  simp [hi]

theorem formed_l0 {m : Nat} (h : Mod m) (l : List Int) (hl : l.length ≤ 65) : ∀ (d i : Nat), i + d = l.length →
    Ev (fun k => galloonref06_Formed.l0 k (m : Int) l (i : Int)) (fitsB m i (l.drop i) && lastPos l) := by
  have h1 := h.lo
  have h2 := h.hi
  intro d
  induction d with
  | zero =>
    intro i hi
    refine Ev.step (fun k => by simp only [galloonref06_Formed.l0]; exact rfl) ?_
    refine Ev.neg (by omega) ?_
    rw [List.drop_eq_nil_of_le (by omega)]
    simp only [fitsB, Bool.true_and]
    rcases List.eq_nil_or_concat l with e | ⟨l', a, e⟩
    · subst e
      exact Ev.pos (by simp) (Ev.now _)
    · rw [List.concat_eq_append] at e
      subst e
      have e1 : wrap64 (((l' ++ [a]).length : Int) - 1) = (l'.length : Int) := by simp only [List.length_append, List.length_singleton] at hl ⊢; rw [wrap_in (by omega) (by omega)]; omega
      rw [e1, rd_nat]
      refine Ev.neg (by simp; omega) (Ev.pos (by omega) (Ev.pos (by simp; omega) ?_))
      have e2 : (l' ++ [a]).getD l'.length 0 = a := by simp
      have e3 : lastPos (l' ++ [a]) = decide (a > 0) := by unfold lastPos; simp
      rw [e2, e3]
      exact Ev.now _
  | succ d ih =>
    intro i hi
    refine Ev.step (fun k => by simp only [galloonref06_Formed.l0]; exact rfl) ?_
    refine Ev.pos (by omega) (Ev.pos (by omega) ?_)
    rw [rd_nat, drop_cons (by omega), fitsB]
    by_cases hv : l.getD i 0 < 0
    · refine Ev.pos hv ?_
      rw [decide_eq_false (show ¬ 0 ≤ l.getD i 0 by omega)]
      exact Ev.now _
    · refine Ev.neg hv ?_
      refine Ev.bind (Ev.from200 fun k hk => room_ev h (by omega) hk) ?_
      rw [decide_eq_true (show 0 ≤ l.getD i 0 by omega)]
      by_cases hv2 : l.getD i 0 ≥ (ch m i : Int)
      · refine Ev.pos hv2 ?_
        rw [decide_eq_false (show ¬ l.getD i 0 < (ch m i : Int) by omega)]
        exact Ev.now _
      · refine Ev.neg hv2 ?_
        rw [decide_eq_true (show l.getD i 0 < (ch m i : Int) by omega), step_nat (by omega)]
        simp only [Bool.true_and]
        exact ih (i + 1) (by omega)

theorem formed_ev {m : Nat} (h : Mod m) (l : List Int) (hl : l.length ≤ 65) : Ev (fun k => galloonref06_Formed.f k (m : Int) l) (fitsB m 0 l && lastPos l) :=
  formed_l0 h l hl l.length 0 (by omega)

/-! ### the function with a form -/
def combS (m : Nat) (l : List Int) : List Int := (List.range m).map fun (x : Nat) => comb 0 l (x : Int) % (m : Int)
theorem combS_length (m : Nat) (l : List Int) : (combS m l).length = m := by simp [combS]
theorem combS_get {m : Nat} (l : List Int) {x : Nat} (hx : x < m) : (combS m l).getD x 0 = comb 0 l (x : Int) % (m : Int) := by simp [combS, hx]
theorem combS_rem {m : Nat} (h : Mod m) (l : List Int) : Rem m (combS m l) := by
  have h1 := h.lo
  intro v hv
  unfold combS at hv
  rw [List.mem_map] at hv
  obtain ⟨x, _, rfl⟩ := hv
  exact ⟨Int.emod_nonneg _ (by omega), Int.emod_lt_of_pos _ (by omega)⟩

theorem take_comb {l : List Int} {i : Nat} (hi : i < l.length) (x : Int) : comb 0 (l.take (i + 1)) x = comb 0 (l.take i) x + l.getD i 0 * ff x i := by
  have e : l.take (i + 1) = l.take i ++ [l.getD i 0] := by
    rw [List.take_succ_eq_append_getElem hi]
    simp [hi]
  rw [e, comb_append, Nat.zero_add, List.length_take, show min i l.length = i by omega]
  simp [comb]

theorem part_step (m : Nat) (g g' : Nat → Int) (j : Nat) (hj : j < m) :
    (((List.range m).map g').take j ++ ((List.range m).map g).drop j).set j (g' j) = ((List.range m).map g').take (j + 1) ++ ((List.range m).map g).drop (j + 1) := by
  rw [List.set_append_right _ _ (by simp; omega)]
  have e : j - (((List.range m).map g').take j).length = 0 := by simp; omega
  rw [e, List.drop_eq_getElem_cons (by simpa using hj), List.set_cons_zero, List.take_succ_eq_append_getElem (by simpa using hj), List.append_assoc]
  simp

theorem unform_l1 {m : Nat} (h : Mod m) (l : List Int) (hd : l.length ≤ m) (i : Nat) (hi : i < l.length) (hc0 : 0 ≤ l.getD i 0) (hc1 : l.getD i 0 < m) {r : List Int × Int}
    (hr : Ev (fun k => shuffle_Unform.l0 k (m : Int) (combS m (l.take (i + 1))) l (l.length : Int) ((i + 1 : Nat) : Int)) r) : ∀ (d j : Nat), j + d = m →
    Ev (fun k => shuffle_Unform.l1 k (m : Int) ((combS m (l.take (i + 1))).take j ++ (combS m (l.take i)).drop j) (i : Int) (l.getD i 0) l (l.length : Int) (i : Int) (m : Int) (j : Int)) r := by
  have h1 := h.lo
  have h2 := h.hi
  have s1 := combS_length m (l.take i)
  have s2 := combS_length m (l.take (i + 1))
  intro d
  induction d with
  | zero =>
    intro j hj
    refine Ev.step (fun k => by simp only [shuffle_Unform.l1]; exact rfl) ?_
    refine Ev.neg (by omega) ?_
    obtain rfl : j = m := by omega
    rw [List.take_of_length_le (by omega), List.drop_eq_nil_of_le (by omega), List.append_nil, step_nat (by omega)]
    exact hr
  | succ d ih =>
    intro j hj
    refine Ev.step (fun k => by simp only [shuffle_Unform.l1]; exact rfl) ?_
    have hL : ((combS m (l.take (i + 1))).take j ++ (combS m (l.take i)).drop j).length = m := by simp [s1, s2]; omega
    refine Ev.pos (by omega) (Ev.pos (by omega) (Ev.pos (by omega) ?_))
    have hfall : Ev (fun k => shuffle_falling.f k (m : Int) (j : Int) (i : Int)) (ff (j : Int) i % (m : Int)) := Ev.from200 fun k hk => falling_ev h (j : Int) i (by omega) (by omega) (by omega) hk
    refine Ev.bind hfall (Ev.neg (by omega) ?_)
    have hv : rd ((combS m (l.take (i + 1))).take j ++ (combS m (l.take i)).drop j) (j : Int) = comb 0 (l.take i) (j : Int) % (m : Int) := by
      rw [rd_nat, ← combS_get (l.take i) (show j < m by omega)]
      simp only [List.getD_eq_getElem?_getD]
      rw [List.getElem?_append_right (by simp [s2]; omega)]
      simp [s2, show min j m = j by omega]
    have c1 := Int.emod_nonneg (comb 0 (l.take i) (j : Int)) (show (m : Int) ≠ 0 by omega)
    have c2 := Int.emod_lt_of_pos (comb 0 (l.take i) (j : Int)) (show (0 : Int) < m by omega)
    have b1 := Int.emod_nonneg (ff (j : Int) i) (show (m : Int) ≠ 0 by omega)
    have b2 := Int.emod_lt_of_pos (ff (j : Int) i) (show (0 : Int) < m by omega)
    have b5 := mulmod_small (a := l.getD i 0) (b := ff (j : Int) i % (m : Int)) (m := m) (by omega) (by omega) b1 (by omega) (by omega)
    rw [hv, wrap_in (n := l.getD i 0 * (ff (j : Int) i % (m : Int))) (by omega) (by omega), wrap_in (by omega) (by omega), Int.tmod_eq_emod_of_nonneg (by omega)]
    have e1 : (comb 0 (l.take i) (j : Int) % (m : Int) + l.getD i 0 * (ff (j : Int) i % (m : Int))) % (m : Int) = comb 0 (l.take (i + 1)) (j : Int) % (m : Int) := by
      rw [take_comb hi, Int.add_emod, Int.mul_emod, Int.emod_emod, Int.emod_emod, ← Int.mul_emod, ← Int.add_emod]
    rw [e1, step_nat (by omega), Int.toNat_natCast]
    have e4 := part_step m (fun (x : Nat) => comb 0 (l.take i) (x : Int) % (m : Int)) (fun (x : Nat) => comb 0 (l.take (i + 1)) (x : Int) % (m : Int)) j (by omega)
    unfold combS at e4 ⊢
    rw [e4]
    exact ih (j + 1) (by omega)

theorem unform_l0 {m : Nat} (h : Mod m) (l : List Int) (hd : l.length ≤ m) : ∀ (d i : Nat), i + d = l.length →
    Ev (fun k => shuffle_Unform.l0 k (m : Int) (combS m (l.take i)) l (l.length : Int) (i : Int)) (if fitsB m i (l.drop i) = true then (combS m l, 0) else ([], 2)) := by
  have h1 := h.lo
  have h2 := h.hi
  intro d
  induction d with
  | zero =>
    intro i hi
    refine Ev.step (fun k => by simp only [shuffle_Unform.l0]; exact rfl) ?_
    refine Ev.neg (by omega) ?_
    rw [List.drop_eq_nil_of_le (by omega), List.take_of_length_le (by omega)]
    exact Ev.now _
  | succ d ih =>
    intro i hi
    have hil : i < l.length := by omega
    refine Ev.step (fun k => by simp only [shuffle_Unform.l0]; exact rfl) ?_
    refine Ev.pos (by omega) (Ev.pos (by omega) (Ev.pos (by omega) ?_))
    refine Ev.bind (Ev.from200 fun k hk => choices_ev h (by omega) hk) ?_
    have hc := ch_pos (m := m) i (by omega)
    have hcm := ch_le (m := m) i
    rw [rd_nat, wrap_in (n := (ch m i : Int) - 1) (by omega) (by omega), drop_cons hil, fitsB]
    by_cases g0 : l.getD i 0 ≥ 0
    · by_cases g1 : l.getD i 0 ≤ (ch m i : Int) - 1
      · have hw : shuffle_within.f (l.getD i 0) 0 ((ch m i : Int) - 1) = some true := by
          unfold shuffle_within.f
          rw [if_pos g0, decide_eq_true g1]
        rw [hw]
        refine Ev.congr (fun k => Option.bind_some _ _) (Ev.pos rfl ?_)
        rw [decide_eq_true (show 0 ≤ l.getD i 0 by omega), decide_eq_true (show l.getD i 0 < (ch m i : Int) by omega), Bool.true_and, Bool.true_and]
        have := unform_l1 h l hd i hil (by omega) (by omega) (ih (i + 1) (by omega)) m 0 (by omega)
        simp only [List.take_zero, List.nil_append, List.drop_zero] at this
        rw [combS_length]
        exact this
      · have hw : shuffle_within.f (l.getD i 0) 0 ((ch m i : Int) - 1) = some false := by
          unfold shuffle_within.f
          rw [if_pos g0, decide_eq_false g1]
        rw [hw]
        refine Ev.congr (fun k => Option.bind_some _ _) (Ev.neg (by simp) ?_)
        rw [decide_eq_false (show ¬ l.getD i 0 < (ch m i : Int) by omega)]
        simp only [Bool.and_false, Bool.false_and, Bool.false_eq_true, if_false]
        exact Ev.now _
    · have hw : shuffle_within.f (l.getD i 0) 0 ((ch m i : Int) - 1) = some false := by
        unfold shuffle_within.f
        rw [if_neg g0]
      rw [hw]
      refine Ev.congr (fun k => Option.bind_some _ _) (Ev.neg (by simp) ?_)
      rw [decide_eq_false (show ¬ 0 ≤ l.getD i 0 by omega)]
      simp only [Bool.false_and, Bool.false_eq_true, if_false]
      exact Ev.now _

/-- Unform: a list that is a form has a function; any other one is refused. -/
theorem unform_ev {m : Nat} (h : Mod m) (l : List Int) : Ev (fun k => shuffle_Unform.f k (m : Int) l) (if (fitsB m 0 l && lastPos l) = true then (combS m l, 0) else ([], 2)) := by
  have h1 := h.lo
  have h2 := h.hi
  have hdm := deg_le h
  refine Ev.congr (f := fun k => (shuffle_degree.f k (m : Int)).bind fun t300 => (if (l.length : Int) > t300 then (shuffle_Unform.j0 k (m : Int) l true) else (if (l.length : Int) > 0 then (if 0 ≤ (wrap64 ((l.length : Int) - 1)) then (if (wrap64 ((l.length : Int) - 1)) < (l.length : Int) then (shuffle_Unform.j0 k (m : Int) l ((rd l (wrap64 ((l.length : Int) - 1))) == 0)) else (none)) else (none)) else (shuffle_Unform.j0 k (m : Int) l false)))) (fun k => by unfold shuffle_Unform.f; rw [isMod h]; simp only [Option.bind_some, if_true]) ?_
  refine Ev.bind (Ev.from200 fun k hk => degree_ev h hk) ?_
  have jt : Ev (fun k => shuffle_Unform.j0 k (m : Int) l true) ([], 2) := by
    refine Ev.step (fun k => by simp only [shuffle_Unform.j0]; exact rfl) ?_
    exact Ev.pos trivial (Ev.now _)
  have jf : l.length ≤ m → Ev (fun k => shuffle_Unform.j0 k (m : Int) l false) (if fitsB m 0 l = true then (combS m l, 0) else ([], 2)) := by
    intro hd
    refine Ev.step (fun k => by simp only [shuffle_Unform.j0]; exact rfl) ?_
    refine Ev.neg (by simp) (Ev.pos (by omega) (Ev.pos (by omega) ?_))
    have := unform_l0 h l hd l.length 0 (by omega)
    have e : combS m (l.take 0) = List.replicate m 0 := by
      apply List.ext_getElem
      · simp [combS]
      · intro i _ _; simp [combS, comb]
    rw [e] at this
    simpa using this
  by_cases hlen : (l.length : Int) > (degN m : Int)
  · refine Ev.pos hlen ?_
    have e : (fitsB m 0 l && lastPos l) = false := by
      rw [Bool.eq_false_iff]
      intro hb
      rw [Bool.and_eq_true, fitsB_iff] at hb
      obtain ⟨hb1, hb2⟩ := hb
      rcases List.eq_nil_or_concat l with e | ⟨l', a, e⟩
      · subst e; simp at hlen; omega
      · rw [List.concat_eq_append] at e
        subst e
        have hl' : degN m ≤ l'.length := by simp at hlen; omega
        have hfit : ∀ (p : List Int) (i : Nat), MathB.Fits m i (p ++ [a]) → 0 ≤ a ∧ a < (ch m (i + p.length) : Int) := by
          intro p
          induction p with
          | nil => intro i hf; exact ⟨hf.1, hf.2.1⟩
          | cons b p ih =>
            intro i hf
            have := ih (i + 1) hf.2.2
            rw [show i + (b :: p).length = i + 1 + p.length by simp; omega]
            exact this
        have hf := hfit l' 0 hb1
        rw [Nat.zero_add] at hf
        have hch : ch m l'.length = 1 := by
          unfold ch
          have : Nat.gcd m (fct l'.length) = m := Nat.gcd_eq_left (Nat.dvd_trans (deg_dvd h) (fct_dvd_fct hl'))
          rw [this, Nat.div_self (by omega)]
        rw [hch] at hf
        unfold lastPos at hb2
        simp at hb2
        omega
    rw [e]
    exact jt
  · refine Ev.neg hlen ?_
    have hd : l.length ≤ m := by omega
    rcases List.eq_nil_or_concat l with e | ⟨l', a, e⟩
    · subst e
      refine Ev.neg (by simp) ?_
      have := jf hd
      simpa [lastPos, fitsB] using this
    · rw [List.concat_eq_append] at e
      have hl' : l.length = l'.length + 1 := by rw [e]; simp
      have e1 : wrap64 ((l.length : Int) - 1) = (l'.length : Int) := by rw [wrap_in (by omega) (by omega)]; omega
      rw [e1, rd_nat]
      refine Ev.pos (by omega) (Ev.pos (by omega) (Ev.pos (by omega) ?_))
      have e2 : l.getD l'.length 0 = a := by rw [e]; simp
      have e3 : lastPos l = decide (0 < a) := by rw [e]; unfold lastPos; simp
      rw [e2, e3]
      by_cases ha : a = 0
      · subst ha
        simp only [beq_self_eq_true, Int.lt_irrefl, decide_false, Bool.and_false, Bool.false_eq_true, if_false]
        exact jt
      · have hb : (a == 0) = false := by simpa using ha
        rw [hb]
        have hj := jf hd
        by_cases hpos : 0 < a
        · rw [decide_eq_true hpos, Bool.and_true]; exact hj
        · rw [decide_eq_false hpos, Bool.and_false]
          have : fitsB m 0 l = false := by
            rw [Bool.eq_false_iff]
            intro hb
            rw [fitsB_iff, e] at hb
            have hfit : ∀ (p : List Int) (i : Nat), MathB.Fits m i (p ++ [a]) → 0 ≤ a := by
              intro p
              induction p with
              | nil => intro i hf; exact hf.1
              | cons b p ih => intro i hf; exact ih (i + 1) hf.2.2
            have := hfit l' 0 hb
            omega
          rw [this] at hj
          simpa using hj

/-! ### Unform of the reference -/
theorem runform_l1 {m : Nat} (h : Mod m) (l : List Int) (hl : l.length ≤ 65) (hf : MathB.Fits m 0 l) (out : List Int) (ho : out.length ≤ 64) (x : Nat) (hx : x < m) {r : List Int}
    (hr : Ev (fun k => galloonref06_Unform.l0 k (m : Int) l (out ++ [comb 0 l (x : Int) % (m : Int)]) ((x + 1 : Nat) : Int)) r) : ∀ (d i : Nat), i + d = l.length →
    Ev (fun k => galloonref06_Unform.l1 k (m : Int) l out (x : Int) (comb 0 (l.take i) (x : Int) % (m : Int)) (i : Int)) r := by
  have h1 := h.lo
  have h2 := h.hi
  have hget : ∀ (p : List Int) (i j : Nat), MathB.Fits m i p → j < p.length → 0 ≤ p.getD j 0 ∧ p.getD j 0 < m := by
    intro p
    induction p with
    | nil => intro i j _ hj; simp at hj
    | cons b p ih =>
      intro i j hfp hj
      cases j with
      | zero =>
        have := ch_le (m := m) i
        have h3 := hfp.1
        have h4 := hfp.2.1
        simp only [List.getD_cons_zero]
        omega
      | succ j => simpa using ih (i + 1) j hfp.2.2 (by simpa using hj)
  intro d
  induction d with
  | zero =>
    intro i hi
    refine Ev.step (fun k => by simp only [galloonref06_Unform.l1]; exact rfl) ?_
    refine Ev.neg (by omega) (Ev.pos (by omega) ?_)
    rw [List.take_of_length_le (by omega), step_nat (by omega)]
    exact hr
  | succ d ih =>
    intro i hi
    refine Ev.step (fun k => by simp only [galloonref06_Unform.l1]; exact rfl) ?_
    refine Ev.pos (by omega) (Ev.pos (by omega) ?_)
    have hfall : Ev (fun k => galloonref06_falling.f k (m : Int) (x : Int) (i : Int)) (ff (x : Int) i % (m : Int)) := Ev.from200 fun k hk => rfalling_ev h x i (by omega) (by omega) hk
    refine Ev.bind hfall (Ev.neg (by omega) ?_)
    have hv := hget l 0 i hf (by omega)
    have c1 := Int.emod_nonneg (comb 0 (l.take i) (x : Int)) (show (m : Int) ≠ 0 by omega)
    have c2 := Int.emod_lt_of_pos (comb 0 (l.take i) (x : Int)) (show (0 : Int) < m by omega)
    have b1 := Int.emod_nonneg (ff (x : Int) i) (show (m : Int) ≠ 0 by omega)
    have b2 := Int.emod_lt_of_pos (ff (x : Int) i) (show (0 : Int) < m by omega)
    have b5 := mulmod_small (a := l.getD i 0) (b := ff (x : Int) i % (m : Int)) (m := m) hv.1 hv.2 b1 (by omega) (by omega)
    rw [rd_nat, wrap_in (n := l.getD i 0 * (ff (x : Int) i % (m : Int))) (by omega) (by omega), wrap_in (by omega) (by omega), Int.tmod_eq_emod_of_nonneg (by omega)]
    have e1 : (comb 0 (l.take i) (x : Int) % (m : Int) + l.getD i 0 * (ff (x : Int) i % (m : Int))) % (m : Int) = comb 0 (l.take (i + 1)) (x : Int) % (m : Int) := by
      rw [take_comb (by omega), Int.add_emod, Int.mul_emod, Int.emod_emod, Int.emod_emod, ← Int.mul_emod, ← Int.add_emod]
    rw [e1, step_nat (by omega)]
    exact ih (i + 1) (by omega)

theorem runform_l0 {m : Nat} (h : Mod m) (l : List Int) (hl : l.length ≤ 65) (hf : MathB.Fits m 0 l) : ∀ (d x : Nat), x + d = m →
    Ev (fun k => galloonref06_Unform.l0 k (m : Int) l ((List.range x).map fun (x : Nat) => comb 0 l (x : Int) % (m : Int)) (x : Int)) (combS m l) := by
  have h1 := h.lo
  have h2 := h.hi
  intro d
  induction d with
  | zero =>
    intro x hx
    refine Ev.step (fun k => by simp only [galloonref06_Unform.l0]; exact rfl) ?_
    refine Ev.neg (by omega) ?_
    obtain rfl : x = m := by omega
    exact Ev.now _
  | succ d ih =>
    intro x hx
    refine Ev.step (fun k => by simp only [galloonref06_Unform.l0]; exact rfl) ?_
    refine Ev.pos (by omega) ?_
    have e4 : ((List.range x).map fun (x : Nat) => comb 0 l (x : Int) % (m : Int)) ++ [comb 0 l (x : Int) % (m : Int)] = (List.range (x + 1)).map fun (x : Nat) => comb 0 l (x : Int) % (m : Int) := by simp [List.range_succ]
    have := runform_l1 h l hl hf ((List.range x).map fun (x : Nat) => comb 0 l (x : Int) % (m : Int)) (by simp; omega) x (by omega) (by rw [e4]; exact ih (x + 1) (by omega)) l.length 0 (by omega)
    simpa [comb] using this

theorem runform_ev {m : Nat} (h : Mod m) (l : List Int) (hl : l.length ≤ 65) (hf : MathB.Fits m 0 l) : Ev (fun k => galloonref06_Unform.f k (m : Int) l) (combS m l) := by
  exact runform_l0 h l hl hf m 0 (by omega)

/-! ### equal lists -/
theorem ints_l0 (l : List Int) (hl : l.length ≤ 1000000) : ∀ (d j : Nat), j + d = l.length → Ev (fun k => galloonlaw06_ints.l0 k l l (j : Int)) true := by
  intro d
  induction d with
  | zero =>
    intro j hj
    refine Ev.step (fun k => by simp only [galloonlaw06_ints.l0]; exact rfl) ?_
    exact Ev.neg (by omega) (Ev.now _)
  | succ d ih =>
    intro j hj
    refine Ev.step (fun k => by simp only [galloonlaw06_ints.l0]; exact rfl) ?_
    refine Ev.pos (by omega) (Ev.pos (by omega) (Ev.pos (by omega) (Ev.pos trivial ?_)))
    rw [step_nat (by omega)]
    exact ih (j + 1) (by omega)
theorem ints_same (l : List Int) (hl : l.length ≤ 1000000) : Ev (fun k => galloonlaw06_ints.f k l l) true := by
  unfold galloonlaw06_ints.f
  exact Ev.pos rfl (ints_l0 l hl l.length 0 (by omega))

end Go.Proofs.Ytkjjnfbgcdanmaa.Pure
