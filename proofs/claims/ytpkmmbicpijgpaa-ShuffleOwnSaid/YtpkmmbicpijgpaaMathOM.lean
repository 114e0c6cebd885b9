/- The reference, and the functions of a polynomial for the prime powers. -/
import Derived.Test.YtpkmmbicpijgpaaMathJ00
import Derived.Test.YtpkmmbicpijgpaaMathC2
namespace Go.Proofs.Ytpkmmbicpijgpaa.Pure
open Go.RowKit Go.Proofs.Ytpkmmbicpijgpaa.O Go.Proofs.YtpkmmbicpijgpaaW.PrintWords Go.Proofs.YtpkmmbicpijgpaaW.PrintLast
open Go.Proofs.Ytpkmmbicpijgpaa.MathA Go.Proofs.Ytpkmmbicpijgpaa.MathB

theorem listed_l0 (m : Int) (l : List Int) (hl : l.length ≤ 1000) : ∀ (d j : Nat), j + d = l.length → Ev (fun k => galloonref06_Listed.l0 k m l (j : Int)) (remB m (l.drop j)) := by
  intro d
  induction d with
  | zero =>
    intro j hj
    refine Ev.step (fun k => by simp only [galloonref06_Listed.l0]; exact rfl) ?_
    have e : l.drop j = [] := List.drop_eq_nil_of_le (by omega)
    rw [e]
    exact Ev.neg (by omega) (Ev.now _)
  | succ d ih =>
    intro j hj
    refine Ev.step (fun k => by simp only [galloonref06_Listed.l0]; exact rfl) ?_
    have e : l.drop j = l.getD j 0 :: l.drop (j + 1) := by
      rw [List.drop_eq_getElem_cons (show j < l.length by omega)]
      simp [show j < l.length by omega]
    have e2 : remB m (l.drop j) = (decide (0 ≤ l.getD j 0) && decide (l.getD j 0 < m) && remB m (l.drop (j + 1))) := by rw [e]; simp [remB]
    refine Ev.pos (by omega) (Ev.pos (by omega) ?_)
    rw [rd_nat, e2]
    by_cases h0 : l.getD j 0 < 0
    · rw [decide_eq_false (show ¬ 0 ≤ l.getD j 0 by omega)]
      exact Ev.pos h0 (Ev.now _)
    · rw [decide_eq_true (show 0 ≤ l.getD j 0 by omega)]
      refine Ev.neg h0 ?_
      by_cases h1 : l.getD j 0 ≥ m
      · rw [decide_eq_false (show ¬ l.getD j 0 < m by omega)]
        exact Ev.pos h1 (Ev.now _)
      · rw [decide_eq_true (show l.getD j 0 < m by omega), nat_step (by omega)]
        exact Ev.neg h1 (ih (j + 1) (by omega))
theorem listed_ev (m : Int) (l : List Int) (hl : l.length ≤ 1000) : Ev (fun k => galloonref06_Listed.f k m l) (remB m l) := listed_l0 m l hl l.length 0 (by omega)

theorem refVal_l1 {m : Nat} (h : Mod m) {l : List Int} (hl : Rem m l) (h12 : l.length ≤ 1000) (x : Nat) (hx : x < m) (out : List Int) (ho : out.length ≤ 1000) {r : List Int}
    (hr : Ev (fun k => galloonref06_Values.l0 k (m : Int) l (out ++ [horn l (x : Int) % (m : Int)]) ((x + 1 : Nat) : Int)) r) : ∀ (d : Nat), d ≤ l.length →
    Ev (fun k => galloonref06_Values.l1 k (m : Int) l out (x : Int) (horn (l.drop d) (x : Int) % (m : Int)) ((d : Int) - 1)) r := by
  have h1 := h.lo
  have h2 := h.hi
  intro d
  induction d with
  | zero =>
    intro _
    refine Ev.step (fun k => by simp only [galloonref06_Values.l1]; exact rfl) ?_
    refine Ev.neg (by omega) (Ev.pos (by omega) ?_)
    rw [nat_step (by omega)]
    exact hr
  | succ d ih =>
    intro hd
    refine Ev.step (fun k => by simp only [galloonref06_Values.l1]; exact rfl) ?_
    have e0 : ((d + 1 : Nat) : Int) - 1 = (d : Int) := by omega
    rw [e0]
    refine Ev.pos (by omega) (Ev.pos (by omega) (Ev.pos (by omega) (Ev.neg (by omega) ?_)))
    have e : l.drop d = l.getD d 0 :: l.drop (d + 1) := by
      rw [List.drop_eq_getElem_cons (show d < l.length by omega)]
      simp [show d < l.length by omega]
    have hc := hl.get (i := d) (by omega)
    have b1 := Int.emod_nonneg (horn (l.drop (d + 1)) (x : Int)) (show (m : Int) ≠ 0 by omega)
    have b2 := Int.emod_lt_of_pos (horn (l.drop (d + 1)) (x : Int)) (show (0 : Int) < m by omega)
    have b5 := mulmod_small b1 b2 (show (0 : Int) ≤ (x : Int) by omega) (by omega) (by omega)
    rw [rd_nat, wrap_in (n := horn (l.drop (d + 1)) (x : Int) % (m : Int) * (x : Int)) (by omega) (by omega), wrap_in (by omega) (by omega), Int.tmod_eq_emod_of_nonneg (by omega), wrap_in (n := (d : Int) - 1) (by omega) (by omega)]
    have e2 : (horn (l.drop (d + 1)) (x : Int) % (m : Int) * (x : Int) + l.getD d 0) % (m : Int) = horn (l.drop d) (x : Int) % (m : Int) := by
      rw [e, horn, Int.add_emod, Int.mul_emod, Int.emod_emod, ← Int.mul_emod, ← Int.add_emod]
    rw [e2]
    exact ih (by omega)

theorem refVal_l0 {m : Nat} (h : Mod m) {l : List Int} (hl : Rem m l) (h12 : l.length ≤ 1000) : ∀ (d x : Nat), x + d = m →
    Ev (fun k => galloonref06_Values.l0 k (m : Int) l ((List.range x).map fun (x : Nat) => horn l (x : Int) % (m : Int)) (x : Int)) (valS m l) := by
  have h1 := h.lo
  have h2 := h.hi
  intro d
  induction d with
  | zero =>
    intro x hx
    refine Ev.step (fun k => by simp only [galloonref06_Values.l0]; exact rfl) ?_
    refine Ev.neg (by omega) ?_
    obtain rfl : x = m := by omega
    exact Ev.now _
  | succ d ih =>
    intro x hx
    refine Ev.step (fun k => by simp only [galloonref06_Values.l0]; exact rfl) ?_
    refine Ev.pos (by omega) ?_
    have e4 : ((List.range x).map fun (x : Nat) => horn l (x : Int) % (m : Int)) ++ [horn l (x : Int) % (m : Int)] = (List.range (x + 1)).map fun (x : Nat) => horn l (x : Int) % (m : Int) := by simp [List.range_succ]
    have := refVal_l1 h hl h12 x (by omega) ((List.range x).map fun (x : Nat) => horn l (x : Int) % (m : Int)) (by simp; omega) (by rw [e4]; exact ih (x + 1) (by omega)) l.length (Nat.le_refl _)
    have e5 : l.drop l.length = [] := List.drop_eq_nil_of_le (Nat.le_refl _)
    rw [e5] at this
    rw [wrap_in (n := (l.length : Int) - 1) (by omega) (by omega)]
    simpa [horn] using this

theorem refVal_ev {m : Nat} (h : Mod m) {l : List Int} (hl : Rem m l) (h12 : l.length ≤ 1000) : Ev (fun k => galloonref06_Values.f k (m : Int) l) (valS m l) := refVal_l0 h hl h12 m 0 (by omega)


/-! ### the prime powers: each of the 63 moduli is reckoned -/
def toS (q : Nat × Nat) : S35 := ⟨(q.1 : Int), (q.2 : Int)⟩
def ofS (s : S35) : Int × Int := (s.f0, s.f1)
def prt (m : Nat) : List (Nat × Nat) := ((shuffle_primes.f 200 (m : Int)).getD []).map fun s => (s.f0.toNat, s.f1.toNat)
def pw (q : Nat × Nat) : Nat := q.1 ^ q.2
def okB (q : Nat × Nat) : Bool := decide (shuffle_prime_power.f 200 (q.1 : Int) (q.2 : Int) = some (pw q : Int)) && decide (2 ≤ pw q) && decide (pw q ≤ 64)
theorem prt_all : ∀ t : Fin 63, (shuffle_primes.f 200 ((t.val + 2 : Nat) : Int)).map (List.map ofS) = some ((prt (t.val + 2)).map fun q => ((q.1 : Int), (q.2 : Int))) ∧
    (prt (t.val + 2)).all okB = true ∧ (prt (t.val + 2)).length ≤ 10 := by decide +kernel

theorem of_ofS {o : Option (List S35)} {L : List (Nat × Nat)} (h : o.map (List.map ofS) = some (L.map fun q => ((q.1 : Int), (q.2 : Int)))) : o = some (L.map toS) := by
  obtain ⟨l, rfl, h2⟩ := Option.map_eq_some_iff.1 h
  congr 1
  have e : (l.map ofS).map (fun p : Int × Int => (⟨p.1, p.2⟩ : S35)) = l := by rw [List.map_map]; exact (List.map_congr_left (fun s _ => rfl)).trans (List.map_id l)
  rw [← e, h2, List.map_map]
  rfl
theorem primes_ev {m : Nat} (h : Mod m) {k : Nat} (hk : 200 ≤ k) : shuffle_primes.f k (m : Int) = some ((prt m).map toS) := by
  obtain ⟨t, rfl⟩ := h.fin
  exact at_rounds (fun k => shuffle_primes.mono _ k) hk (of_ofS (prt_all t).1)
theorem prt_len {m : Nat} (h : Mod m) : (prt m).length ≤ 10 := by
  obtain ⟨t, rfl⟩ := h.fin
  exact (prt_all t).2.2
theorem prt_ok {m : Nat} (h : Mod m) {q : Nat × Nat} (hq : q ∈ prt m) : Mod (pw q) ∧ ∀ k, 200 ≤ k → shuffle_prime_power.f k (q.1 : Int) (q.2 : Int) = some (pw q : Int) := by
  obtain ⟨t, rfl⟩ := h.fin
  have := List.all_eq_true.1 (prt_all t).2.1 q hq
  unfold okB at this
  simp only [Bool.and_eq_true, decide_eq_true_iff] at this
  obtain ⟨⟨a1, a3⟩, a4⟩ := this
  exact ⟨⟨a3, a4⟩, fun k hk => at_rounds (fun k => shuffle_prime_power.mono _ _ k) hk a1⟩

/-! ### the functions for the prime powers -/
theorem rfold {q : Nat} (h : Mod q) (x : Int) (hx0 : 0 ≤ x) (hx : x ≤ 64) : ∀ (l : List Int), Rem 64 l → (l.reverse.foldl (fun out c => Hand.horner (q : Int) x out c) 0) = horn l x % (q : Int) := by
  have h1 := h.lo
  have h2 := h.hi
  intro l hl
  induction l with
  | nil => simp [horn]
  | cons c l ih =>
    have hc := hl c (List.mem_cons_self ..)
    rw [List.reverse_cons, List.foldl_append, ih (fun v hv => hl v (List.mem_cons_of_mem _ hv))]
    simp only [List.foldl_cons, List.foldl_nil]
    unfold Hand.horner
    have b1 := Int.emod_nonneg (horn l x) (show (q : Int) ≠ 0 by omega)
    have b2 := Int.emod_lt_of_pos (horn l x) (show (0 : Int) < q by omega)
    have b5 := mulmod_small b1 b2 hx0 hx (by omega)
    rw [wrap_in (n := horn l x % (q : Int) * x) (by omega) (by omega), wrap_in (by omega) (by omega), Int.tmod_eq_emod_of_nonneg (by omega), horn, Int.add_emod, Int.mul_emod, Int.emod_emod, ← Int.mul_emod, ← Int.add_emod]

theorem at_any {q : Nat} (h : Mod q) (x : Int) (hx0 : 0 ≤ x) (hx : x ≤ 64) (l : List Int) (hl : Rem 64 l) : shuffle_at.f (q : Int) l x = some (horn l x % (q : Int)) := by
  have h1 := h.lo
  unfold shuffle_at.f Hand.atF
  rw [if_neg (by omega)]
  have e : Hand.atList (q : Int) x (Hand.back l l.length) = l.reverse.foldl (fun out c => Hand.horner (q : Int) x out c) 0 := by
    rw [← back_snd, List.foldl_map]
    rfl
  rw [e, rfold h x hx0 hx l hl]

theorem split_l1 (l : List Int) (hl : Rem 64 l) {q : Nat} (h : Mod q) (x7 : List S35) (x8 : List (List Int)) (x19 : List S35) (n : Int) (i : Nat) (hi : i ≤ 1000) (p0 p1 : Int) (h7 : x7.length ≤ 1000) (h8 : x8.length ≤ 1000) {r : List S35 × List (List Int) × Int}
    (hr : Ev (fun k => shuffle_Split.l0 k l (x7 ++ [(⟨p0, p1⟩ : S35)]) (x8 ++ [valS q l]) x19 n ((i + 1 : Nat) : Int)) r) : ∀ (d x : Nat), x + d = q →
    Ev (fun k => shuffle_Split.l1 k l x7 x8 (q : Int) ((List.range x).map fun (x : Nat) => horn l (x : Int) % (q : Int)) x19 n (i : Int) (q : Int) (x : Int) p0 p1) r := by
  have h1 := h.lo
  have h2 := h.hi
  intro d
  induction d with
  | zero =>
    intro x hx
    obtain rfl : x = q := by omega
    refine Ev.step (fun k => by simp only [shuffle_Split.l1]; exact rfl) ?_
    refine Ev.neg (by omega) (Ev.pos (by omega) (Ev.pos (by omega) ?_))
    rw [nat_step (by omega)]
    exact hr
  | succ d ih =>
    intro x hx
    refine Ev.step (fun k => by simp only [shuffle_Split.l1]; exact rfl) ?_
    refine Ev.pos (by omega) (Ev.bind (Ev.from200 (r := horn l (x : Int) % (q : Int)) fun k _ => at_any h _ (by omega) (by omega) l hl) (Ev.pos (by simp; omega) ?_))
    rw [nat_step (by omega)]
    have := ih (x + 1) (by omega)
    rw [List.range_succ, List.map_append] at this
    exact this

theorem rdT_nat (L : List (Nat × Nat)) {i : Nat} (h : i < L.length) : rd_T35 (L.map toS) (i : Int) = toS (L[i]) := by
  simp [rd_T35, h]

theorem split_l0 (l : List Int) (hl : Rem 64 l) (L : List (Nat × Nat)) (hL : L.length ≤ 10) (hok : ∀ q ∈ L, Mod (pw q) ∧ ∀ k, 200 ≤ k → shuffle_prime_power.f k (q.1 : Int) (q.2 : Int) = some (pw q : Int)) : ∀ (d i : Nat), i + d = L.length →
    Ev (fun k => shuffle_Split.l0 k l ((L.take i).map toS) ((L.take i).map fun q => valS (pw q) l) (L.map toS) (L.length : Int) (i : Int)) (L.map toS, L.map (fun q => valS (pw q) l), 0) := by
  intro d
  induction d with
  | zero =>
    intro i hi
    refine Ev.step (fun k => by simp only [shuffle_Split.l0]; exact rfl) ?_
    rw [List.take_of_length_le (by omega)]
    exact Ev.neg (by omega) (Ev.now _)
  | succ d ih =>
    intro i hi
    have hlt : i < L.length := by omega
    obtain ⟨hm, hp⟩ := hok L[i] (List.getElem_mem hlt)
    refine Ev.step (fun k => by simp only [shuffle_Split.l0]; exact rfl) ?_
    refine Ev.pos (by omega) (Ev.pos (by omega) (Ev.pos (by simp; omega) ?_))
    rw [rdT_nat L hlt]
    refine Ev.bind (Ev.from200 (r := (pw L[i] : Int)) fun k hk => hp k hk) ?_
    refine split_l1 l hl hm _ _ _ _ i (by omega) _ _ (by simp; omega) (by simp; omega) ?_ (pw L[i]) 0 (by omega)
    have := ih (i + 1) (by omega)
    rw [List.take_succ_eq_append_getElem hlt, List.map_append, List.map_append] at this
    exact this

theorem Rem.le {m n : Nat} (h : m ≤ n) {l : List Int} (hl : Rem m l) : Rem n l := fun v hv => by have := hl v hv; omega

theorem split_ev {m : Nat} (h : Mod m) {l : List Int} (hl : Rem m l) (h12 : l.length ≤ 12) : Ev (fun k => shuffle_Split.f k (m : Int) l) ((prt m).map toS, (prt m).map (fun q => valS (pw q) l), 0) := by
  unfold shuffle_Split.f
  rw [isPoly_ev h hl h12]
  refine Ev.congr (fun k => Option.bind_some _ _) (Ev.pos rfl ?_)
  refine Ev.bind (Ev.from200 fun k hk => primes_ev h hk) ?_
  have := split_l0 l (hl.le h.hi) (prt m) (prt_len h) (fun q hq => prt_ok h hq) (prt m).length 0 (by omega)
  rw [List.length_map]
  exact this

theorem ints_self_l0 (l : List Int) (hl : l.length ≤ 1000000) : ∀ (d j : Nat), j + d = l.length → Ev (fun k => galloonlaw06_ints.l0 k l l (j : Int)) true := by
  intro d
  induction d with
  | zero =>
    intro j hj
    refine Ev.step (fun k => by simp only [galloonlaw06_ints.l0]; exact rfl) ?_
    exact Ev.neg (by omega) (Ev.now _)
  | succ d ih =>
    intro j hj
    refine Ev.step (fun k => by simp only [galloonlaw06_ints.l0]; exact rfl) ?_
    refine Ev.pos (by omega) (Ev.pos (by omega) (Ev.pos (by omega) (Ev.pos trivial ?_)))
    rw [nat_step (by omega)]
    exact ih (j + 1) (by omega)
theorem ints_self (l : List Int) (hl : l.length ≤ 1000000) : Ev (fun k => galloonlaw06_ints.f k l l) true := by
  unfold galloonlaw06_ints.f
  exact Ev.pos rfl (ints_self_l0 l hl l.length 0 (by omega))


end Go.Proofs.Ytpkmmbicpijgpaa.Pure
