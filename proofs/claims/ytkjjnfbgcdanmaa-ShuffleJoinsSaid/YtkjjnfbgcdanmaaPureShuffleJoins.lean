/- For every list of pairs and list, ShuffleJoins answers true: Joined finds the smallest number with the remainders, and refuses what are no prime powers of different primes in order, or no remainders. -/
import Derived.Test.YtkjjnfbgcdanmaaPx19 -- @galloonlaw06_ShuffleJoins
import Derived.Test.YtkjjnfbgcdanmaaPx10 -- @galloonref06_Product
import Derived.Test.YtkjjnfbgcdanmaaPx19 -- @galloonref06_Left
import Derived.Test.YtkjjnfbgcdanmaaPx19 -- @galloonref06_Joined
import Derived.Test.YtkjjnfbgcdanmaaMathP
namespace Go.Proofs.Ytkjjnfbgcdanmaa.Pure
open Go.RowKit Go.Proofs.Ytkjjnfbgcdanmaa.P Go.Proofs.YtkjjnfbgcdanmaaW.PrintWords Go.Proofs.YtkjjnfbgcdanmaaW.PrintLast
open Go.Proofs.Ytkjjnfbgcdanmaa.MathA Go.Proofs.Ytkjjnfbgcdanmaa.MathB

/-! ### what the reference's product is -/
def primeB (p : Nat) : Bool := (List.range p).all fun d => decide (d < 2) || decide (p % d ≠ 0)
/-- The product from a last prime and a number on; 0: it is none. -/
def pS : Int → Nat → List S44 → Nat
  | _, m, [] => if m < 2 then 0 else m
  | last, m, s :: l => if 2 ≤ s.f0 ∧ s.f0 ≤ 64 ∧ 1 ≤ s.f1 ∧ s.f1 ≤ 6 ∧ last < s.f0 ∧ primeB s.f0.toNat = true ∧ m * s.f0.toNat ^ s.f1.toNat ≤ 64 then pS s.f0 (m * s.f0.toNat ^ s.f1.toNat) l else 0

theorem rdT_cons {l : List S44} {i : Nat} (h : i < l.length) : l.drop i = rd_T44 l (i : Int) :: l.drop (i + 1) := Hand.rdT_drop l i h

theorem prod_l2 {l : List S44} {i : Nat} (hi : i ≤ 1000) {p : Nat} (hp1 : 2 ≤ p) (hp2 : p ≤ 64) (e : Nat) {r : Int} :
    ∀ (d : Nat), d ≤ e → ∀ (m : Nat), m ≤ 64 → 1 ≤ m → (e ≤ 6) →
    (m * p ^ d ≤ 64 → Ev (fun k => galloonref06_Product.l0 k l ((m * p ^ d : Nat) : Int) ((i + 1 : Nat) : Int)) r) → (¬ m * p ^ d ≤ 64 → r = 0) →
    Ev (fun k => galloonref06_Product.l2 k l (m : Int) (i : Int) (p : Int) (e : Int) ((e - d : Nat) : Int)) r := by
  intro d
  induction d with
  | zero =>
    intro _ m hm hm1 he h1 h2
    refine Ev.step (fun k => by rw [galloonref06_Product.l2]) ?_
    refine Ev.neg (by omega) ?_
    rw [nat_step (by omega)]
    rw [Nat.pow_zero, Nat.mul_one] at h1
    exact h1 hm
  | succ d ih =>
    intro hd m hm hm1 he h1 h2
    refine Ev.step (fun k => by rw [galloonref06_Product.l2]) ?_
    refine Ev.pos (by omega) ?_
    have hmp : m * p ≤ 64 * 64 := Nat.mul_le_mul hm hp2
    have ew : wrap64 ((m : Int) * (p : Int)) = ((m * p : Nat) : Int) := by
      rw [← Int.natCast_mul]; exact wrap_in (by omega) (by omega)
    rw [ew, nat_step (by omega)]
    have ep : m * p ^ (d + 1) = m * p * p ^ d := by rw [Nat.pow_succ, Nat.mul_comm (p ^ d) p, Nat.mul_assoc]
    rw [ep] at h1 h2
    by_cases hc : m * p ≤ 64
    · refine Ev.neg (by omega) ?_
      have hpos : 1 ≤ m * p := Nat.mul_pos (by omega) (by omega)
      have := ih (by omega) (m * p) hc hpos he h1 h2
      rw [show e - d = (e - (d + 1)) + 1 by omega] at this
      exact this
    · refine Ev.pos (by omega) ?_
      have hge : m * p ≤ m * p * p ^ d := Nat.le_mul_of_pos_right _ (Nat.pow_pos (by omega))
      rw [h2 (by omega)]
      exact Ev.now _

theorem prod_l1 {l : List S44} {i : Nat} {p : Nat} (hp1 : 2 ≤ p) (hp2 : p ≤ 64) (e : Int) (m : Nat) {r : Int}
    (h1 : primeB p = true → Ev (fun k => galloonref06_Product.l2 k l (m : Int) (i : Int) (p : Int) e 0) r) (h2 : ¬ primeB p = true → r = 0) :
    ∀ (d c : Nat), c + d = p → 2 ≤ c → (∀ x, 2 ≤ x → x < c → p % x ≠ 0) → Ev (fun k => galloonref06_Product.l1 k l (m : Int) (i : Int) (p : Int) e (c : Int)) r := by
  intro d
  induction d with
  | zero =>
    intro c hc h2c hx
    refine Ev.step (fun k => by rw [galloonref06_Product.l1]) ?_
    refine Ev.neg (by omega) (h1 ?_)
    unfold primeB
    rw [List.all_eq_true]
    intro x hx'
    have := List.mem_range.1 hx'
    rcases Nat.lt_or_ge x 2 with h | h
    · rw [decide_eq_true h]; rfl
    · rw [decide_eq_true (hx x h (by omega))]; simp
  | succ d ih =>
    intro c hc h2c hx
    refine Ev.step (fun k => by rw [galloonref06_Product.l1]) ?_
    refine Ev.pos (by omega) (Ev.neg (by omega) ?_)
    have em : Int.tmod (p : Int) (c : Int) = ((p % c : Nat) : Int) := by rw [Int.tmod_eq_emod_of_nonneg (by omega), cast_mod]
    rw [em]
    by_cases h0 : p % c = 0
    · refine Ev.pos (by omega) ?_
      rw [h2 (fun hb => by
        unfold primeB at hb
        have := List.all_eq_true.1 hb c (List.mem_range.2 (by omega))
        rw [Bool.or_eq_true, decide_eq_true_iff, decide_eq_true_iff] at this
        omega)]
      exact Ev.now _
    · refine Ev.neg (by omega) ?_
      rw [nat_step (by omega)]
      refine ih (c + 1) (by omega) (by omega) (fun x hx1 hx2 => ?_)
      rcases Nat.lt_or_ge x c with h | h
      · exact hx x hx1 h
      · obtain rfl : x = c := by omega
        exact h0

/-- The first number of the pair before, or 0. -/
def lastOf (l : List S44) (i : Nat) : Int := if i = 0 then 0 else (rd_T44 l ((i - 1 : Nat) : Int)).f0

theorem prod_l0 (l : List S44) (hl : l.length ≤ 1000) : ∀ (d i : Nat), i + d = l.length → ∀ m : Nat, 1 ≤ m → m ≤ 64 →
    Ev (fun k => galloonref06_Product.l0 k l (m : Int) (i : Int)) ((pS (lastOf l i) m (l.drop i) : Nat) : Int) := by
  intro d
  induction d with
  | zero =>
    intro i hi m hm1 hm
    refine Ev.step (fun k => by rw [galloonref06_Product.l0]) ?_
    refine Ev.neg (by omega) ?_
    rw [List.drop_eq_nil_of_le (by omega), pS]
    by_cases h2 : m < 2
    · rw [if_pos h2]; exact Ev.pos (by omega) (Ev.now _)
    · rw [if_neg h2]; exact Ev.neg (by omega) (Ev.now _)
  | succ d ih =>
    intro i hi m hm1 hm
    have hlt : i < l.length := by omega
    refine Ev.step (fun k => by rw [galloonref06_Product.l0]) ?_
    refine Ev.pos (by omega) (Ev.pos (by omega) ?_)
    rw [rdT_cons hlt, pS]
    have hnext : lastOf l (i + 1) = (rd_T44 l (i : Int)).f0 := by unfold lastOf; rw [if_neg (by omega)]; rfl
    have ihn := ih (i + 1) (by omega)
    rw [hnext] at ihn
    have hlast : lastOf l i = if 0 < i then (rd_T44 l (wrap64 ((i : Int) - 1))).f0 else 0 := by
      unfold lastOf
      by_cases h0 : i = 0
      · rw [if_pos h0, if_neg (by omega)]
      · rw [if_neg h0, if_pos (by omega), wrap_in (by omega) (by omega), show ((i - 1 : Nat) : Int) = (i : Int) - 1 by omega]
    generalize rd_T44 l (i : Int) = s at ihn ⊢
    have bad : ∀ {r : Int}, r = 0 → Ev (fun k => galloonref06_Product.j1 k l (m : Int) (i : Int) s.f0 s.f1 true) r := fun hr => by
      subst hr
      refine Ev.step (fun k => by rw [galloonref06_Product.j1]) ?_
      exact Ev.pos rfl (Ev.now _)
    by_cases c1 : s.f0 < 2
    · exact Ev.pos c1 (bad (by rw [if_neg (by omega)]; rfl))
    refine Ev.neg c1 ?_
    by_cases c2 : s.f0 > 64
    · exact Ev.pos c2 (bad (by rw [if_neg (by omega)]; rfl))
    refine Ev.neg c2 ?_
    by_cases c3 : s.f1 < 1
    · exact Ev.pos c3 (bad (by rw [if_neg (by omega)]; rfl))
    refine Ev.neg c3 ?_
    by_cases c4 : s.f1 > 6
    · exact Ev.pos c4 (bad (by rw [if_neg (by omega)]; rfl))
    refine Ev.neg c4 ?_
    obtain ⟨p, hp⟩ : ∃ p : Nat, s.f0 = (p : Int) := ⟨s.f0.toNat, by omega⟩
    obtain ⟨e, he⟩ : ∃ e : Nat, s.f1 = (e : Int) := ⟨s.f1.toNat, by omega⟩
    have good : lastOf l i < s.f0 → Ev (fun k => galloonref06_Product.j1 k l (m : Int) (i : Int) s.f0 s.f1 false) (((if 2 ≤ s.f0 ∧ s.f0 ≤ 64 ∧ 1 ≤ s.f1 ∧ s.f1 ≤ 6 ∧ lastOf l i < s.f0 ∧ primeB s.f0.toNat = true ∧ m * s.f0.toNat ^ s.f1.toNat ≤ 64 then pS s.f0 (m * s.f0.toNat ^ s.f1.toNat) (l.drop (i + 1)) else 0 : Nat)) : Int) := fun hlo => by
      refine Ev.step (fun k => by rw [galloonref06_Product.j1]) ?_
      refine Ev.neg (by decide) ?_
      have b1 : 2 ≤ p := by omega
      have b2 : p ≤ 64 := by omega
      have b3 : 1 ≤ e := by omega
      have b4 : e ≤ 6 := by omega
      rw [hp] at ihn
      rw [hp, he]
      rw [hp] at hlo
      rw [Int.toNat_natCast, Int.toNat_natCast]
      refine prod_l1 (by omega) (by omega) (e : Int) m (fun hb => ?_) (fun hb => by rw [if_neg (fun h => hb h.2.2.2.2.2.1)]; rfl) (p - 2) 2 (by omega) (by omega) (fun x h1 h2 => by omega)
      have := prod_l2 (l := l) (i := i) (by omega) (p := p) (by omega) (by omega) e (r := (((if 2 ≤ (p : Int) ∧ (p : Int) ≤ 64 ∧ 1 ≤ (e : Int) ∧ (e : Int) ≤ 6 ∧ lastOf l i < (p : Int) ∧ primeB p = true ∧ m * p ^ e ≤ 64 then pS (p : Int) (m * p ^ e) (l.drop (i + 1)) else 0 : Nat)) : Int)) e (Nat.le_refl _) m hm hm1 (by omega)
        (fun h64 => by rw [if_pos ⟨by omega, by omega, by omega, by omega, hlo, hb, h64⟩]; exact ihn (m * p ^ e) (Nat.mul_pos (by omega) (Nat.pow_pos (by omega))) h64)
        (fun h64 => by rw [if_neg (fun h => h64 h.2.2.2.2.2.2)]; rfl)
      rw [Nat.sub_self] at this
      exact this
    by_cases h0 : 0 < i
    · have e1 : wrap64 ((i : Int) - 1) = ((i - 1 : Nat) : Int) := by rw [wrap_in (by omega) (by omega)]; omega
      rw [if_pos h0] at hlast
      refine Ev.pos (by omega) (Ev.pos (by omega) (Ev.pos (by omega) ?_))
      by_cases c5 : (rd_T44 l (wrap64 ((i : Int) - 1))).f0 ≥ s.f0
      · rw [decide_eq_true c5]
        exact bad (by rw [if_neg (by omega)]; rfl)
      · rw [decide_eq_false c5]
        exact good (by omega)
    · rw [if_neg h0] at hlast
      exact Ev.neg (by omega) (good (by omega))
theorem product_ev (l : List S44) (hl : l.length ≤ 1000) : Ev (fun k => galloonref06_Product.f k l) ((pS 0 1 l : Nat) : Int) := prod_l0 l hl l.length 0 (by omega) 1 (by omega) (by omega)

/-! ### all prime powers up to 64, one after the other -/
def checkP : Nat → Nat → Nat → List (Nat × Nat) → Bool
  | f, last, m, acc => (decide (m < 2) || (decide (prt m = acc))) && (List.range 65).all fun p => (List.range 7).all fun e =>
      if last < p ∧ 2 ≤ p ∧ 1 ≤ e ∧ m * p ^ e ≤ 64 then (if primeB p = true then (match f with | 0 => false | f + 1 => checkP f p (m * p ^ e) (acc ++ [(p, e)])) else true) else true
theorem checkP_all : checkP 4 0 1 [] = true := by decide +kernel

theorem pS_enum : ∀ (l : List S44) (f last m : Nat) (acc : List (Nat × Nat)), checkP f last m acc = true → m ≤ 64 → pS (last : Int) m l ≠ 0 → ∃ m', Mod m' ∧ ∃ L, l = L.map toS ∧ prt m' = acc ++ L ∧ pS (last : Int) m l = m'
  | [], f, last, m, acc, hc, hm, hp => by
    rw [pS] at hp ⊢
    split at hp
    · exact absurd rfl hp
    · rename_i h2
      rw [if_neg h2]
      unfold checkP at hc
      rw [Bool.and_eq_true, Bool.or_eq_true, decide_eq_true_iff, decide_eq_true_iff] at hc
      refine ⟨m, ⟨by omega, hm⟩, [], rfl, ?_, rfl⟩
      rcases hc.1 with h | h
      · omega
      · rw [h]; simp
  | s :: l, f, last, m, acc, hc, hm, hp => by
    rw [pS] at hp ⊢
    split at hp
    · rename_i h
      rw [if_pos h]
      obtain ⟨a1, a2, a3, a4, a5, a6, a7⟩ := h
      obtain ⟨p, hp'⟩ : ∃ p : Nat, s.f0 = (p : Int) := ⟨s.f0.toNat, by omega⟩
      obtain ⟨e, he⟩ : ∃ e : Nat, s.f1 = (e : Int) := ⟨s.f1.toNat, by omega⟩
      rw [hp', he] at hp
      rw [hp', he]
      rw [hp'] at a1 a2 a5 a6 a7
      rw [he] at a3 a4 a7
      simp only [Int.toNat_natCast] at hp a6 a7 ⊢
      unfold checkP at hc
      rw [Bool.and_eq_true] at hc
      have := List.all_eq_true.1 (List.all_eq_true.1 hc.2 p (List.mem_range.2 (by omega))) e (List.mem_range.2 (by omega))
      rw [if_pos ⟨by omega, by omega, by omega, a7⟩, if_pos a6] at this
      cases f with
      | zero => cases this
      | succ f =>
        obtain ⟨m', hm', L, hL, hpr, hps⟩ := pS_enum l f p (m * p ^ e) (acc ++ [(p, e)]) this a7 hp
        refine ⟨m', hm', (p, e) :: L, ?_, by rw [hpr]; simp, hps⟩
        rw [List.map_cons, ← hL]
        congr 1
        cases s
        simp only at hp' he
        rw [hp', he]
        rfl
    · exact absurd rfl hp

theorem pS_all : ∀ t : Fin 63, pS 0 1 ((prt (t.val + 2)).map toS) = t.val + 2 := by decide +kernel
theorem pS_prt {m : Nat} (h : Mod m) : pS 0 1 ((prt m).map toS) = m := by
  obtain ⟨t, rfl⟩ := h.fin
  exact pS_all t

/-! ### remainders -/
def leftOK (L : List (Nat × Nat)) (rem : List Int) : Bool := decide (rem.length = L.length) && (List.range L.length).all fun i => decide (0 ≤ rem.getD i 0) && decide (rem.getD i 0 < (pw (L.getD i (0, 0)) : Int))

theorem leftOK_iff {L : List (Nat × Nat)} {rem : List Int} : leftOK L rem = true ↔ rem.length = L.length ∧ ∀ i (hi : i < L.length), 0 ≤ rem.getD i 0 ∧ rem.getD i 0 < (pw L[i] : Int) := by
  unfold leftOK
  rw [Bool.and_eq_true, decide_eq_true_iff, List.all_eq_true]
  constructor
  · rintro ⟨h1, h2⟩
    refine ⟨h1, fun i hi => ?_⟩
    have := h2 i (List.mem_range.2 hi)
    rw [Bool.and_eq_true, decide_eq_true_iff, decide_eq_true_iff] at this
    simpa [hi] using this
  · rintro ⟨h1, h2⟩
    refine ⟨h1, fun i hi => ?_⟩
    have hi' := List.mem_range.1 hi
    have := h2 i hi'
    rw [Bool.and_eq_true, decide_eq_true_iff, decide_eq_true_iff]
    simpa [hi'] using this

theorem left_l0 {m : Nat} (h : Mod m) (rem : List Int) (hlen : rem.length = (prt m).length) : ∀ (d i : Nat), i + d = (prt m).length →
    Ev (fun k => galloonref06_Left.l0 k ((prt m).map toS) rem (i : Int)) ((List.range' i d).all fun i => decide (0 ≤ rem.getD i 0) && decide (rem.getD i 0 < (pw ((prt m).getD i (0, 0)) : Int))) := by
  have hL := prt_len h
  intro d
  induction d with
  | zero =>
    intro i hi
    refine Ev.step (fun k => by rw [galloonref06_Left.l0]) ?_
    exact Ev.neg (by omega) (Ev.now _)
  | succ d ih =>
    intro i hi
    have hlt : i < (prt m).length := by omega
    refine Ev.step (fun k => by rw [galloonref06_Left.l0]) ?_
    refine Ev.pos (by omega) (Ev.pos (by omega) ?_)
    rw [rd_nat, List.range'_succ, List.all_cons]
    by_cases h0 : rem.getD i 0 < 0
    · rw [decide_eq_false (show ¬ 0 ≤ rem.getD i 0 by omega)]
      exact Ev.pos h0 (Ev.now _)
    · rw [decide_eq_true (show 0 ≤ rem.getD i 0 by omega)]
      refine Ev.neg h0 (Ev.pos (by simp; omega) ?_)
      rw [rdT_nat _ hlt]
      refine Ev.bind (Ev.from200 (r := (pw (prt m)[i] : Int)) fun k hk => (prt_ok h (List.getElem_mem hlt)).2.2 k hk) ?_
      have eg : (prt m).getD i (0, 0) = (prt m)[i] := by simp [hlt]
      rw [eg]
      by_cases h1 : rem.getD i 0 ≥ (pw (prt m)[i] : Int)
      · rw [decide_eq_false (show ¬ rem.getD i 0 < (pw (prt m)[i] : Int) by omega)]
        exact Ev.pos h1 (Ev.now _)
      · rw [decide_eq_true (show rem.getD i 0 < (pw (prt m)[i] : Int) by omega), nat_step (by omega)]
        exact Ev.neg h1 (ih (i + 1) (by omega))
theorem left_ev {m : Nat} (h : Mod m) (rem : List Int) : Ev (fun k => galloonref06_Left.f k ((prt m).map toS) rem) (leftOK (prt m) rem) := by
  unfold galloonref06_Left.f leftOK
  by_cases hlen : rem.length = (prt m).length
  · rw [decide_eq_true hlen, Bool.true_and, List.range_eq_range']
    exact Ev.pos (by simp; omega) (left_l0 h rem hlen (prt m).length 0 (by omega))
  · rw [decide_eq_false hlen]
    exact Ev.neg (by simp; omega) (Ev.now _)

/-! ### there is a number with the remainders -/
def vecs : List (Nat × Nat) → List (List Nat)
  | [] => [[]]
  | q :: L => (List.range (pw q)).flatMap fun r => (vecs L).map fun v => r :: v
def fitN : List (Nat × Nat) → List Nat → Nat → Bool
  | q :: L, r :: v, n => n % pw q == r && fitN L v n
  | _, _, _ => true
theorem exists_all : ∀ t : Fin 63, ((vecs (prt (t.val + 2))).all fun v => (List.range (t.val + 2)).any (fitN (prt (t.val + 2)) v)) = true := by decide +kernel

theorem mem_vecs : ∀ (L : List (Nat × Nat)) (rem : List Int), leftOK L rem = true → ∃ v, v ∈ vecs L ∧ ∀ n, fitN L v n = fitS L rem n
  | [], rem, h => by
    refine ⟨[], by simp [vecs], fun n => by simp [fitN, fitS]⟩
  | q :: L, rem, h => by
    obtain ⟨h1, h2⟩ := leftOK_iff.1 h
    cases rem with
    | nil => simp at h1
    | cons a rem =>
      have ha := h2 0 (by simp)
      simp only [List.getD_cons_zero, List.getElem_cons_zero] at ha
      obtain ⟨v, hv, hf⟩ := mem_vecs L rem (leftOK_iff.2 ⟨by simpa using h1, fun i hi => h2 (i + 1) (by simpa using hi)⟩)
      refine ⟨a.toNat :: v, ?_, fun n => ?_⟩
      · rw [vecs, List.mem_flatMap]
        exact ⟨a.toNat, List.mem_range.2 (by omega), List.mem_map.2 ⟨v, hv, rfl⟩⟩
      · rw [fitN, hf n]
        unfold fitS
        rw [List.length_cons, List.range_succ_eq_map, List.all_cons, List.all_map]
        congr 1
        rw [Bool.eq_iff_iff, beq_iff_eq, decide_eq_true_iff]
        simp only [List.getD_cons_zero]
        rw [← cast_mod]
        omega

theorem least {p : Nat → Bool} : ∀ n, p n = true → ∃ n0, n0 ≤ n ∧ p n0 = true ∧ ∀ x, x < n0 → p x = false
  | 0, h => ⟨0, Nat.le_refl _, h, fun x hx => by omega⟩
  | n + 1, h => by
    by_cases hex : ∃ x, x ≤ n ∧ p x = true
    · obtain ⟨x, hx, hpx⟩ := hex
      have : ∀ y, y ≤ n → p y = true → ∃ n0, n0 ≤ n ∧ p n0 = true ∧ ∀ x, x < n0 → p x = false := by
        intro y
        induction y using Nat.strongRecOn with
        | _ y ih =>
          intro hy hpy
          by_cases hl : ∃ z, z < y ∧ p z = true
          · obtain ⟨z, hz, hpz⟩ := hl
            exact ih z hz (by omega) hpz
          · exact ⟨y, hy, hpy, fun z hz => by
              rw [Bool.eq_false_iff]
              exact fun hc => hl ⟨z, hz, hc⟩⟩
      obtain ⟨n0, a, b, c⟩ := this x hx hpx
      exact ⟨n0, by omega, b, c⟩
    · exact ⟨n + 1, Nat.le_refl _, h, fun x hx => by
        rw [Bool.eq_false_iff]
        exact fun hc => hex ⟨x, by omega, hc⟩⟩

theorem solve {m : Nat} (h : Mod m) {rem : List Int} (hr : leftOK (prt m) rem = true) : ∃ n0, n0 ≤ 64 ∧ fitS (prt m) rem n0 = true ∧ ∀ n, n < n0 → fitS (prt m) rem n = false := by
  obtain ⟨v, hv, hf⟩ := mem_vecs _ _ hr
  have h2 := h.hi
  obtain ⟨t, rfl⟩ := h.fin
  have := List.all_eq_true.1 (exists_all t) v hv
  rw [List.any_eq_true] at this
  obtain ⟨n, hn, hfn⟩ := this
  rw [hf n] at hfn
  obtain ⟨n0, a, b, c⟩ := least n hfn
  exact ⟨n0, by have := List.mem_range.1 hn; omega, b, c⟩

/-! ### the reference's search -/
theorem rjoined_l1 {m : Nat} (h : Mod m) {rem : List Int} (hlen : rem.length = (prt m).length) (x : Nat) (hx : x ≤ 1000) {r : Int}
    (h1 : fitS (prt m) rem x = true → r = (x : Int)) (h2 : ¬ fitS (prt m) rem x = true → Ev (fun k => galloonref06_Joined.l0 k ((prt m).map toS) rem ((x + 1 : Nat) : Int)) r) : ∀ (d i : Nat), i + d = (prt m).length →
    Ev (fun k => galloonref06_Joined.l1 k ((prt m).map toS) rem (x : Int) ((List.range i).all fun i => decide ((x : Int) % (pw ((prt m).getD i (0, 0)) : Int) = rem.getD i 0)) (i : Int)) r := by
  have hL := prt_len h
  intro d
  induction d with
  | zero =>
    intro i hi
    obtain rfl : i = (prt m).length := by omega
    refine Ev.step (fun k => by rw [galloonref06_Joined.l1]) ?_
    refine Ev.neg (by omega) ?_
    by_cases hb : fitS (prt m) rem x = true
    · refine Ev.pos hb ?_
      rw [h1 hb]
      exact Ev.now _
    · refine Ev.neg hb ?_
      rw [nat_step (by omega)]
      exact h2 hb
  | succ d ih =>
    intro i hi
    have hlt : i < (prt m).length := by omega
    have hn := ih (i + 1) (by omega)
    rw [List.range_succ, List.all_append] at hn
    refine Ev.step (fun k => by rw [galloonref06_Joined.l1]) ?_
    refine Ev.pos (by omega) ?_
    by_cases hb : ((List.range i).all fun i => decide ((x : Int) % (pw ((prt m).getD i (0, 0)) : Int) = rem.getD i 0)) = true
    · refine Ev.pos hb (Ev.pos (by omega) (Ev.pos (by simp; omega) ?_))
      rw [rdT_nat _ hlt]
      have hm := (prt_ok h (List.getElem_mem hlt)).1.lo
      refine Ev.bind (Ev.from200 (r := (pw (prt m)[i] : Int)) fun k hk => (prt_ok h (List.getElem_mem hlt)).2.2 k hk) (Ev.neg (by omega) ?_)
      rw [Int.tmod_eq_emod_of_nonneg (by omega), rd_nat, nat_step (by omega)]
      rw [hb, Bool.true_and] at hn
      have eg : (prt m).getD i (0, 0) = (prt m)[i] := by simp [hlt]
      simp only [List.all_cons, List.all_nil, Bool.and_true, eg] at hn
      have eb : ((x : Int) % (pw (prt m)[i] : Int) == rem.getD i 0) = decide ((x : Int) % (pw (prt m)[i] : Int) = rem.getD i 0) := by
        rw [Bool.eq_iff_iff, beq_iff_eq, decide_eq_true_iff]
      rw [eb]
      exact hn
    · refine Ev.neg hb ?_
      have hb' : ((List.range i).all fun i => decide ((x : Int) % (pw ((prt m).getD i (0, 0)) : Int) = rem.getD i 0)) = false := by simpa using hb
      rw [hb', Bool.false_and] at hn
      rw [nat_step (by omega)]
      exact hn

theorem rjoined_l0 {m : Nat} (h : Mod m) {rem : List Int} (hlen : rem.length = (prt m).length) {n0 : Nat} (hn0 : n0 ≤ 64) (h0 : fitS (prt m) rem n0 = true) (hl : ∀ n, n < n0 → fitS (prt m) rem n = false) : ∀ (d x : Nat), x + d = n0 →
    Ev (fun k => galloonref06_Joined.l0 k ((prt m).map toS) rem (x : Int)) (n0 : Int) := by
  intro d
  induction d with
  | zero =>
    intro x hx
    obtain rfl : x = n0 := by omega
    refine Ev.step (fun k => by rw [galloonref06_Joined.l0]) ?_
    exact rjoined_l1 h hlen x (by omega) (fun _ => rfl) (fun hc => absurd h0 hc) (prt m).length 0 (by omega)
  | succ d ih =>
    intro x hx
    refine Ev.step (fun k => by rw [galloonref06_Joined.l0]) ?_
    exact rjoined_l1 h hlen x (by omega) (fun hc => by rw [hl x (by omega)] at hc; cases hc) (fun _ => ih (x + 1) (by omega)) (prt m).length 0 (by omega)

/-! ### what the program refuses -/
theorem toS_ofS (s : S44) {q : Nat × Nat} (h0 : (toS q).f0 = s.f0) (h1 : (toS q).f1 = s.f1) : s = toS q := by
  cases s
  simp only at h0 h1
  rw [← h0, ← h1]

theorem joined_bad (P : List S44) (rem : List Int) (hbad : ∀ m, Mod m → P = (prt m).map toS → ¬ leftOK (prt m) rem = true) {k : Nat} (hk : 200 ≤ k) : shuffle_Joined.f k P rem = some (0, 2) := by
  unfold shuffle_Joined.f Hand.joinedF
  cases hj : Hand.j1 P 1 with
  | none => rfl
  | some m =>
    dsimp only
    by_cases hc : 2 ≤ m ∧ m ≤ 64 ∧ rem.length = P.length
    · obtain ⟨n, rfl⟩ : ∃ n : Nat, m = (n : Int) := ⟨m.toNat, by omega⟩
      have h : Mod n := ⟨by omega, by omega⟩
      have hL := prt_len h
      rw [if_pos hc, primes_ev h hk, Option.bind_some]
      by_cases hlen : ((prt n).map toS).length = P.length
      · rw [if_pos hlen]
        have hpows : Hand.powsB k ((prt n).map toS) = true := by
          unfold Hand.powsB
          rw [List.all_eq_true]
          intro s hs
          obtain ⟨q, hq, rfl⟩ := List.mem_map.1 hs
          have hm := (prt_ok h hq).1
          have := hm.lo
          have := hm.hi
          rw [powOf_toS h hq hk]
          simp only [Bool.and_eq_true, decide_eq_true_iff]
          exact ⟨⟨(prt_ok h hq).2.1 k hk, by omega⟩, by omega⟩
        rw [if_pos ⟨hpows, by simp; omega⟩, if_neg]
        intro hok
        rw [List.length_map] at hlen
        have hat : ∀ i (hi : i < (prt n).length), rd_T44 P (i : Int) = toS (prt n)[i] ∧ 0 ≤ rem.getD i 0 ∧ rem.getD i 0 < (pw (prt n)[i] : Int) := by
          intro i hi
          have := List.all_eq_true.1 hok i (List.mem_range.2 (by simpa using hi))
          unfold Hand.okAt at this
          rw [rdT_nat _ hi, powOf_toS h (List.getElem_mem hi) hk, rd_nat] at this
          simp only [Bool.and_eq_true, beq_iff_eq] at this
          obtain ⟨⟨a, b⟩, c⟩ := this
          unfold Hand.within at c
          split at c
          · rw [decide_eq_true_iff] at c
            exact ⟨toS_ofS _ a b, by omega, by omega⟩
          · cases c
        refine hbad n h ?_ (leftOK_iff.2 ⟨by omega, fun i hi => (hat i hi).2⟩)
        refine List.ext_getElem (by simpa using hlen.symm) fun i h1 h2 => ?_
        have := (hat i (by omega)).1
        simpa [rd_T44, h1] using this
      · rw [if_neg hlen]
    · rw [if_neg hc]

theorem ShuffleJoins (l0 : List S44) (h0 : l0.length ≤ 9223372036854775807) (l1 : List Int) : ∃ k, galloonlaw06_ShuffleJoins.f k l0 l1 = some true := by
  refine Ev.rounds ?_
  unfold galloonlaw06_ShuffleJoins.f
  have hmn : 0 ≤ mn (l0.length : Int) 8 ∧ mn (l0.length : Int) 8 ≤ (l0.length : Int) ∧ mn (l0.length : Int) 8 ≤ 8 := by unfold mn; split <;> omega
  refine Ev.pos hmn.1 (Ev.pos hmn.2.1 ?_)
  have hP : (l0.take (mn (l0.length : Int) 8).toNat).length ≤ 8 := by rw [List.length_take]; omega
  generalize l0.take (mn (l0.length : Int) 8).toNat = P at hP
  refine Ev.congr (fun k => Option.bind_some _ _) (Ev.pos (by simp; omega) (Ev.congr (fun k => Option.bind_some _ _) ?_))
  rw [List.nil_append]
  refine Ev.bind (Ev.from200 (r := l1.take 65) fun k _ => rfl) ?_
  generalize l1.take 65 = rem
  have bad : (∀ m, Mod m → P = (prt m).map toS → ¬ leftOK (prt m) rem = true) → Ev (fun k => shuffle_Joined.f k P rem) (0, 2) ∧ Ev (fun k => galloonlaw06_ShuffleJoins.j0 k P rem 0 2 true) true := fun hb => by
    refine ⟨Ev.from200 fun k hk => joined_bad P rem hb hk, ?_⟩
    refine Ev.step (fun k => by rw [galloonlaw06_ShuffleJoins.j0]) ?_
    exact Ev.pos rfl (Ev.pos rfl (Ev.pos rfl (Ev.bind awake_ev (Ev.now _))))
  have hpr := product_ev P (by omega)
  by_cases hz : pS 0 1 P = 0
  · obtain ⟨b1, b2⟩ := bad (fun m h e => by
      subst e
      rw [pS_prt h] at hz
      have := h.lo
      omega)
    rw [hz] at hpr
    exact Ev.bind b1 (Ev.bind hpr (Ev.pos rfl b2))
  · obtain ⟨m, h, L, hL, hprt, hps⟩ := pS_enum P 4 0 1 [] checkP_all (by omega) hz
    rw [List.nil_append] at hprt
    subst hprt
    have h1 := h.lo
    rw [show (((0 : Nat) : Int)) = 0 from rfl] at hps
    rw [hps] at hpr
    subst hL
    have hleft := left_ev h rem
    cases hlo : leftOK (prt m) rem with
    | false =>
      obtain ⟨b1, b2⟩ := bad (fun m' h' e => by
        have : m' = m := by
          have e1 := pS_prt h'
          rw [← e, hps] at e1
          exact e1.symm
        subst this
        rw [hlo]
        decide)
      rw [hlo] at hleft
      exact Ev.bind b1 (Ev.bind hpr (Ev.neg (by omega) (Ev.bind hleft b2)))
    | true =>
      rw [hlo] at hleft
      obtain ⟨hlen, hrem⟩ := leftOK_iff.1 hlo
      obtain ⟨n0, hn0, hf, hl⟩ := solve h hlo
      refine Ev.bind (Ev.from200 fun k hk => joined_ev h rem hlen hrem hn0 hf hl hk) (Ev.bind hpr (Ev.neg (by omega) (Ev.bind hleft ?_)))
      refine Ev.step (fun k => by rw [galloonlaw06_ShuffleJoins.j0]) ?_
      refine Ev.neg (by decide) (Ev.bind (rjoined_l0 h hlen hn0 hf hl n0 0 (by omega)) (Ev.pos rfl (Ev.pos rfl (Ev.bind awake_ev (Ev.now _)))))

end Go.Proofs.Ytkjjnfbgcdanmaa.Pure
