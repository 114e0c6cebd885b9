/- What the reference finds: equal places, numbers that move along; and the functions of a polynomial for the prime powers. -/
import Derived.Test.YtkjjnfbgcdanmaaMathH
import Derived.Test.YtkjjnfbgcdanmaaMathJ1
import Derived.Test.YtkjjnfbgcdanmaaMathL
import Derived.Test.YtkjjnfbgcdanmaaPx6 -- @galloonref06_Equal
import Derived.Test.YtkjjnfbgcdanmaaPx7 -- @galloonref06_Shifts
import Derived.Test.YtkjjnfbgcdanmaaPx4 -- @galloonref06_Parts
import Derived.Test.YtkjjnfbgcdanmaaPx7 -- @galloonref06_Reduced
import Derived.Test.YtkjjnfbgcdanmaaPx7 -- @galloonref06_Power
import Derived.Test.YtkjjnfbgcdanmaaPx6 -- @shuffle_Split
namespace Go.Proofs.Ytkjjnfbgcdanmaa.Pure
open Go.RowKit Go.Proofs.Ytkjjnfbgcdanmaa.P Go.Proofs.YtkjjnfbgcdanmaaW.PrintWords Go.Proofs.YtkjjnfbgcdanmaaW.PrintLast
open Go.Proofs.Ytkjjnfbgcdanmaa.MathA Go.Proofs.Ytkjjnfbgcdanmaa.MathB

/-! ### the first two equal places -/
theorem idxS_add (v : Int) : ∀ (l : List Int) (j c : Nat), idxS v (j + c) l = if 0 ≤ idxS v j l then idxS v j l + (c : Int) else -1
  | [], j, c => by simp [idxS]
  | a :: l, j, c => by
    rw [idxS, idxS]
    by_cases h : v = a
    · rw [if_pos h, if_pos h, if_pos (by omega)]; push_cast; rfl
    · rw [if_neg h, if_neg h, show j + c + 1 = (j + 1) + c by omega, idxS_add v l (j + 1) c]

theorem equal_l1 (f : List Int) (hl : f.length ≤ 1000) (x : Nat) (hx : x < f.length) {r : Int × Int} (hr : Ev (fun k => galloonref06_Equal.l0 k f ((x + 1 : Nat) : Int)) r) : ∀ (d y : Nat), y + d = f.length →
    Ev (fun k => galloonref06_Equal.l1 k f (x : Int) (y : Int)) (if 0 ≤ idxS (f.getD x 0) y (f.drop y) then ((x : Int), idxS (f.getD x 0) y (f.drop y)) else r) := by
  intro d
  induction d with
  | zero =>
    intro y hy
    refine Ev.step (fun k => by simp only [galloonref06_Equal.l1]; exact rfl) ?_
    have e : f.drop y = [] := List.drop_eq_nil_of_le (by omega)
    have ex : wrap64 ((x : Int) + 1) = ((x + 1 : Nat) : Int) := nat_step (by omega)
    rw [e, idxS, if_neg (by omega), ex]
    exact Ev.neg (by omega) hr
  | succ d ih =>
    intro y hy
    refine Ev.step (fun k => by simp only [galloonref06_Equal.l1]; exact rfl) ?_
    refine Ev.pos (by omega) (Ev.pos (by omega) (Ev.pos (by omega) (Ev.pos (by omega) ?_)))
    rw [rd_nat, rd_nat, drop_getD (show y < f.length by omega), idxS]
    by_cases h : f.getD x 0 = f.getD y 0
    · rw [if_pos h, if_pos (by omega)]
      exact Ev.pos h (Ev.now _)
    · rw [if_neg h, nat_step (by omega)]
      exact Ev.neg h (ih (y + 1) (by omega))

theorem equal_l0 (f : List Int) (hl : f.length ≤ 1000) : ∀ (d x : Nat), x + d = f.length → Ev (fun k => galloonref06_Equal.l0 k f (x : Int)) (twiceS x (f.drop x)) := by
  intro d
  induction d with
  | zero =>
    intro x hx
    refine Ev.step (fun k => by simp only [galloonref06_Equal.l0]; exact rfl) ?_
    have e : f.drop x = [] := List.drop_eq_nil_of_le (by omega)
    rw [e]
    exact Ev.neg (by omega) (Ev.now _)
  | succ d ih =>
    intro x hx
    refine Ev.step (fun k => by simp only [galloonref06_Equal.l0]; exact rfl) ?_
    refine Ev.pos (by omega) ?_
    rw [nat_step (by omega)]
    have h1 := equal_l1 f hl x (by omega) (ih (x + 1) (by omega)) d (x + 1) (by omega)
    rw [drop_getD (show x < f.length by omega), twiceS]
    have e := idxS_add (f.getD x 0) (f.drop (x + 1)) 0 (x + 1)
    rw [Nat.zero_add] at e
    rw [e] at h1
    by_cases h0 : 0 ≤ idxS (f.getD x 0) 0 (f.drop (x + 1))
    · rw [if_pos h0]
      rw [if_pos h0, if_pos (by omega)] at h1
      have e2 : (x : Int) + 1 + idxS (f.getD x 0) 0 (f.drop (x + 1)) = idxS (f.getD x 0) 0 (f.drop (x + 1)) + ((x + 1 : Nat) : Int) := by omega
      rw [e2]
      exact h1
    · rw [if_neg h0]
      rw [if_neg h0, if_neg (by omega)] at h1
      exact h1
theorem equal_ev (f : List Int) (hl : f.length ≤ 1000) : Ev (fun k => galloonref06_Equal.f k f) (twiceS 0 f) := equal_l0 f hl f.length 0 (by omega)

/-! ### what moves along -/
theorem refMove {m : Nat} (h : Mod m) {f : List Int} (hf : Rem m f) (hl : f.length = m) {a x : Nat} (ha : a < m) (hx : x < m) :
    0 ≤ Int.tmod (wrap64 ((x : Int) + (a : Int))) (m : Int) ∧ Int.tmod (wrap64 ((x : Int) + (a : Int))) (m : Int) < (m : Int) ∧
    (rd f (Int.tmod (wrap64 ((x : Int) + (a : Int))) (m : Int)) == Int.tmod (wrap64 (rd f (x : Int) + (a : Int))) (m : Int)) = moveB m f a x := by
  have h1 := h.lo
  have h2 := h.hi
  have e : ((x : Int) + (a : Int)) % (m : Int) = (((x + a) % m : Nat) : Int) := by push_cast; rfl
  have hlt : (x + a) % m < m := Nat.mod_lt _ (by omega)
  have hb := hf _ (getD_mem (f := f) (i := (x + a) % m) (by omega))
  have hc := hf _ (getD_mem (f := f) (i := x) (by omega))
  rw [wrap_in (n := (x : Int) + (a : Int)) (by omega) (by omega), Int.tmod_eq_emod_of_nonneg (a := (x : Int) + (a : Int)) (by omega), e, rd_nat, rd_nat,
    wrap_in (n := f.getD x 0 + (a : Int)) (by omega) (by omega), Int.tmod_eq_emod_of_nonneg (by omega)]
  refine ⟨by omega, by omega, ?_⟩
  unfold moveB
  rw [Bool.eq_iff_iff, beq_iff_eq, decide_eq_true_iff]
  have e2 : f.getD ((x + a) % m) 0 - f.getD x 0 - (a : Int) = f.getD ((x + a) % m) 0 - (f.getD x 0 + (a : Int)) := by omega
  rw [e2, ← Int.emod_eq_emod_iff_emod_sub_eq_zero, Int.emod_eq_of_lt hb.1 hb.2]

theorem rshifts_l1 {m : Nat} (h : Mod m) {f : List Int} (hf : Rem m f) (hl : f.length = m) (a : Nat) (ha : a < m) (out : List Int) (ho : out.length ≤ 1000) {r : List Int}
    (hr : Ev (fun k => galloonref06_Shifts.l0 k f (m : Int) (if shB m f a = true then out ++ [(a : Int)] else out) ((a + 1 : Nat) : Int)) r) : ∀ (d x : Nat), x + d = m →
    Ev (fun k => galloonref06_Shifts.l1 k f (m : Int) out (a : Int) ((List.range x).all (moveB m f a)) (x : Int)) r := by
  have h1 := h.lo
  have h2 := h.hi
  intro d
  induction d with
  | zero =>
    intro x hx
    obtain rfl : x = m := by omega
    refine Ev.step (fun k => by simp only [galloonref06_Shifts.l1]; exact rfl) ?_
    refine Ev.neg (by omega) ?_
    rw [nat_step (by omega)]
    by_cases hs : (List.range x).all (moveB x f a) = true
    · refine Ev.pos hs (Ev.pos (by omega) ?_)
      rw [if_pos (by unfold shB; exact hs)] at hr
      exact hr
    · refine Ev.neg hs ?_
      rw [if_neg (by unfold shB; exact hs)] at hr
      exact hr
  | succ d ih =>
    intro x hx
    refine Ev.step (fun k => by simp only [galloonref06_Shifts.l1]; exact rfl) ?_
    refine Ev.pos (by omega) ?_
    obtain ⟨b0, b1, b2⟩ := refMove h hf hl ha (show x < m by omega)
    have hn := ih (x + 1) (by omega)
    have es : (List.range (x + 1)).all (moveB m f a) = ((List.range x).all (moveB m f a) && moveB m f a x) := by rw [List.range_succ, List.all_append]; simp
    by_cases hs : (List.range x).all (moveB m f a) = true
    · refine Ev.pos hs (Ev.neg (by omega) (Ev.pos b0 (Ev.pos (by omega) (Ev.pos (by omega) (Ev.pos (by omega) ?_)))))
      rw [b2, nat_step (by omega)]
      rw [es, hs, Bool.true_and] at hn
      exact hn
    · refine Ev.neg hs ?_
      rw [nat_step (by omega)]
      have hs' : (List.range x).all (moveB m f a) = false := by simpa using hs
      rw [es, hs', Bool.false_and] at hn
      exact hn

theorem rshifts_l0 {m : Nat} (h : Mod m) {f : List Int} (hf : Rem m f) (hl : f.length = m) : ∀ (d a : Nat), a + d = m →
    Ev (fun k => galloonref06_Shifts.l0 k f (m : Int) (((List.range a).filter (shB m f)).map (fun a : Nat => (a : Int))) (a : Int)) (shS m f) := by
  have h1 := h.lo
  have h2 := h.hi
  intro d
  induction d with
  | zero =>
    intro a ha
    obtain rfl : a = m := by omega
    refine Ev.step (fun k => by simp only [galloonref06_Shifts.l0]; exact rfl) ?_
    exact Ev.neg (by omega) (Ev.now _)
  | succ d ih =>
    intro a ha
    refine Ev.step (fun k => by simp only [galloonref06_Shifts.l0]; exact rfl) ?_
    refine Ev.pos (by omega) ?_
    have hle : (((List.range a).filter (shB m f)).map (fun a : Nat => (a : Int))).length ≤ a := by
      rw [List.length_map]
      exact Nat.le_trans (List.length_filter_le _ _) (by simp)
    refine rshifts_l1 h hf hl a (by omega) _ (by omega) ?_ m 0 (by omega)
    have hn := ih (a + 1) (by omega)
    have e : (((List.range (a + 1)).filter (shB m f)).map (fun a : Nat => (a : Int))) = if shB m f a = true then ((List.range a).filter (shB m f)).map (fun a : Nat => (a : Int)) ++ [(a : Int)] else ((List.range a).filter (shB m f)).map (fun a : Nat => (a : Int)) := by
      rw [List.range_succ, List.filter_append]
      split <;> simp [*]
    rw [e] at hn
    exact hn
theorem rshifts_ev {m : Nat} (h : Mod m) {f : List Int} (hf : Rem m f) (hl : f.length = m) : Ev (fun k => galloonref06_Shifts.f k f) (shS m f) := by
  unfold galloonref06_Shifts.f
  rw [hl]
  exact rshifts_l0 h hf hl m 0 (by omega)

/-! ### the prime powers: each of the 63 moduli is reckoned -/
def toS (q : Nat × Nat) : S44 := ⟨(q.1 : Int), (q.2 : Int)⟩
def ofS (s : S44) : Int × Int := (s.f0, s.f1)
def prt (m : Nat) : List (Nat × Nat) := ((shuffle_primes.f 200 (m : Int)).getD []).map fun s => (s.f0.toNat, s.f1.toNat)
def pw (q : Nat × Nat) : Nat := q.1 ^ q.2
def okB (q : Nat × Nat) : Bool := decide (shuffle_prime_power.f 200 (q.1 : Int) (q.2 : Int) = some (pw q : Int)) && decide (galloonref06_Power.f 200 (q.1 : Int) (q.2 : Int) = some (pw q : Int)) && decide (2 ≤ pw q) && decide (pw q ≤ 64)
theorem prt_all : ∀ t : Fin 63, (shuffle_primes.f 200 ((t.val + 2 : Nat) : Int)).map (List.map ofS) = some ((prt (t.val + 2)).map fun q => ((q.1 : Int), (q.2 : Int))) ∧
    (galloonref06_Parts.f 200 ((t.val + 2 : Nat) : Int)).map (List.map ofS) = some ((prt (t.val + 2)).map fun q => ((q.1 : Int), (q.2 : Int))) ∧ (prt (t.val + 2)).all okB = true ∧ (prt (t.val + 2)).length ≤ 10 := by decide +kernel

theorem of_ofS {o : Option (List S44)} {L : List (Nat × Nat)} (h : o.map (List.map ofS) = some (L.map fun q => ((q.1 : Int), (q.2 : Int)))) : o = some (L.map toS) := by
  obtain ⟨l, rfl, h2⟩ := Option.map_eq_some_iff.1 h
  congr 1
  have e : (l.map ofS).map (fun p : Int × Int => (⟨p.1, p.2⟩ : S44)) = l := by rw [List.map_map]; exact (List.map_congr_left (fun s _ => rfl)).trans (List.map_id l)
  rw [← e, h2, List.map_map]
  rfl
theorem primes_ev {m : Nat} (h : Mod m) {k : Nat} (hk : 200 ≤ k) : shuffle_primes.f k (m : Int) = some ((prt m).map toS) := by
  obtain ⟨t, rfl⟩ := h.fin
  exact at_rounds (fun k => shuffle_primes.mono _ k) hk (of_ofS (prt_all t).1)
theorem parts_ev {m : Nat} (h : Mod m) {k : Nat} (hk : 200 ≤ k) : galloonref06_Parts.f k (m : Int) = some ((prt m).map toS) := by
  obtain ⟨t, rfl⟩ := h.fin
  exact at_rounds (fun k => galloonref06_Parts.mono _ k) hk (of_ofS (prt_all t).2.1)
theorem prt_len {m : Nat} (h : Mod m) : (prt m).length ≤ 10 := by
  obtain ⟨t, rfl⟩ := h.fin
  exact (prt_all t).2.2.2
theorem prt_ok {m : Nat} (h : Mod m) {q : Nat × Nat} (hq : q ∈ prt m) : Mod (pw q) ∧ (∀ k, 200 ≤ k → shuffle_prime_power.f k (q.1 : Int) (q.2 : Int) = some (pw q : Int)) ∧ ∀ k, 200 ≤ k → galloonref06_Power.f k (q.1 : Int) (q.2 : Int) = some (pw q : Int) := by
  obtain ⟨t, rfl⟩ := h.fin
  have := List.all_eq_true.1 (prt_all t).2.2.1 q hq
  unfold okB at this
  simp only [Bool.and_eq_true, decide_eq_true_iff] at this
  obtain ⟨⟨⟨a1, a2⟩, a3⟩, a4⟩ := this
  exact ⟨⟨a3, a4⟩, fun k hk => at_rounds (fun k => shuffle_prime_power.mono _ _ k) hk a1, fun k hk => at_rounds (fun k => galloonref06_Power.mono _ _ k) hk a2⟩

/-! ### the functions for the prime powers -/
theorem rfold {q : Nat} (h : Mod q) (x : Int) (hx0 : 0 ≤ x) (hx : x ≤ 64) : ∀ (l : List Int), Rem 64 l → (l.reverse.foldl (fun out c => Hand.horner (q : Int) x out c) 0) = horn l x % (q : Int) := by
  have h1 := h.lo
  have h2 := h.hi
  intro l hl
  induction l with
  | nil => simp [horn]
  | cons c l ih =>
    have hc := hl c (List.mem_cons_self ..)
    rw [List.reverse_cons, List.foldl_append, ih (fun v hv => hl v (List.mem_cons_of_mem _ hv))]
    simp only [List.foldl_cons, List.foldl_nil]
    unfold Hand.horner
    have b1 := Int.emod_nonneg (horn l x) (show (q : Int) ≠ 0 by omega)
    have b2 := Int.emod_lt_of_pos (horn l x) (show (0 : Int) < q by omega)
    have b5 := mulmod_small b1 b2 hx0 hx (by omega)
    rw [wrap_in (n := horn l x % (q : Int) * x) (by omega) (by omega), wrap_in (by omega) (by omega), Int.tmod_eq_emod_of_nonneg (by omega), horn, Int.add_emod, Int.mul_emod, Int.emod_emod, ← Int.mul_emod, ← Int.add_emod]

theorem at_any {q : Nat} (h : Mod q) (x : Int) (hx0 : 0 ≤ x) (hx : x ≤ 64) (l : List Int) (hl : Rem 64 l) : shuffle_at.f (q : Int) l x = some (horn l x % (q : Int)) := by
  have h1 := h.lo
  unfold shuffle_at.f Hand.atF
  rw [if_neg (by omega)]
  have e : Hand.atList (q : Int) x (Hand.back l l.length) = l.reverse.foldl (fun out c => Hand.horner (q : Int) x out c) 0 := by
    rw [← back_snd, List.foldl_map]
    rfl
  rw [e, rfold h x hx0 hx l hl]

theorem split_l1 (l : List Int) (hl : Rem 64 l) {q : Nat} (h : Mod q) (x7 : List S44) (x8 : List (List Int)) (x19 : List S44) (n : Int) (i : Nat) (hi : i ≤ 1000) (p0 p1 : Int) (h7 : x7.length ≤ 1000) (h8 : x8.length ≤ 1000) {r : List S44 × List (List Int) × Int}
    (hr : Ev (fun k => shuffle_Split.l0 k l (x7 ++ [(⟨p0, p1⟩ : S44)]) (x8 ++ [valS q l]) x19 n ((i + 1 : Nat) : Int)) r) : ∀ (d x : Nat), x + d = q →
    Ev (fun k => shuffle_Split.l1 k l x7 x8 (q : Int) ((List.range x).map fun (x : Nat) => horn l (x : Int) % (q : Int)) x19 n (i : Int) (q : Int) (x : Int) p0 p1) r := by
  have h1 := h.lo
  have h2 := h.hi
  intro d
  induction d with
  | zero =>
    intro x hx
    obtain rfl : x = q := by omega
    refine Ev.step (fun k => by simp only [shuffle_Split.l1]; exact rfl) ?_
    refine Ev.neg (by omega) (Ev.pos (by omega) (Ev.pos (by omega) ?_))
    rw [nat_step (by omega)]
    exact hr
  | succ d ih =>
    intro x hx
    refine Ev.step (fun k => by simp only [shuffle_Split.l1]; exact rfl) ?_
    refine Ev.pos (by omega) (Ev.bind (Ev.from200 (r := horn l (x : Int) % (q : Int)) fun k _ => at_any h _ (by omega) (by omega) l hl) (Ev.pos (by simp; omega) ?_))
    rw [nat_step (by omega)]
    have := ih (x + 1) (by omega)
    rw [List.range_succ, List.map_append] at this
    exact this

theorem rdT_nat (L : List (Nat × Nat)) {i : Nat} (h : i < L.length) : rd_T44 (L.map toS) (i : Int) = toS (L[i]) := by
  simp [rd_T44, h]

theorem split_l0 (l : List Int) (hl : Rem 64 l) (L : List (Nat × Nat)) (hL : L.length ≤ 10) (hok : ∀ q ∈ L, Mod (pw q) ∧ ∀ k, 200 ≤ k → shuffle_prime_power.f k (q.1 : Int) (q.2 : Int) = some (pw q : Int)) : ∀ (d i : Nat), i + d = L.length →
    Ev (fun k => shuffle_Split.l0 k l ((L.take i).map toS) ((L.take i).map fun q => valS (pw q) l) (L.map toS) (L.length : Int) (i : Int)) (L.map toS, L.map (fun q => valS (pw q) l), 0) := by
  intro d
  induction d with
  | zero =>
    intro i hi
    refine Ev.step (fun k => by simp only [shuffle_Split.l0]; exact rfl) ?_
    rw [List.take_of_length_le (by omega)]
    exact Ev.neg (by omega) (Ev.now _)
  | succ d ih =>
    intro i hi
    have hlt : i < L.length := by omega
    obtain ⟨hm, hp⟩ := hok L[i] (List.getElem_mem hlt)
    refine Ev.step (fun k => by simp only [shuffle_Split.l0]; exact rfl) ?_
    refine Ev.pos (by omega) (Ev.pos (by omega) (Ev.pos (by simp; omega) ?_))
    rw [rdT_nat L hlt]
    refine Ev.bind (Ev.from200 (r := (pw L[i] : Int)) fun k hk => hp k hk) ?_
    refine split_l1 l hl hm _ _ _ _ i (by omega) _ _ (by simp; omega) (by simp; omega) ?_ (pw L[i]) 0 (by omega)
    have := ih (i + 1) (by omega)
    rw [List.take_succ_eq_append_getElem hlt, List.map_append, List.map_append] at this
    exact this

theorem Rem.le {m n : Nat} (h : m ≤ n) {l : List Int} (hl : Rem m l) : Rem n l := fun v hv => by have := hl v hv; omega

theorem split_ev {m : Nat} (h : Mod m) {l : List Int} (hl : Rem m l) (h12 : l.length ≤ 12) : Ev (fun k => shuffle_Split.f k (m : Int) l) ((prt m).map toS, (prt m).map (fun q => valS (pw q) l), 0) := by
  unfold shuffle_Split.f
  rw [isPoly_ev h hl h12]
  refine Ev.congr (fun k => Option.bind_some _ _) (Ev.pos rfl ?_)
  refine Ev.bind (Ev.from200 fun k hk => primes_ev h hk) ?_
  have := split_l0 l (hl.le h.hi) (prt m) (prt_len h) (fun q hq => ⟨(prt_ok h hq).1, (prt_ok h hq).2.1⟩) (prt m).length 0 (by omega)
  rw [List.length_map]
  exact this

/-! ### what the reference says of a prime power -/
theorem reduced_l0 {q : Nat} (h : Mod q) (l : List Int) (hl : Rem 64 l) (hlen : l.length ≤ 1000) : ∀ (d j : Nat), j + d = l.length →
    Ev (fun k => galloonref06_Reduced.l0 k (q : Int) l ((l.take j).map (· % (q : Int))) (j : Int)) (l.map (· % (q : Int))) := by
  have h1 := h.lo
  intro d
  induction d with
  | zero =>
    intro j hj
    refine Ev.step (fun k => by simp only [galloonref06_Reduced.l0]; exact rfl) ?_
    rw [List.take_of_length_le (by omega)]
    exact Ev.neg (by omega) (Ev.now _)
  | succ d ih =>
    intro j hj
    have hlt : j < l.length := by omega
    refine Ev.step (fun k => by simp only [galloonref06_Reduced.l0]; exact rfl) ?_
    have hb := hl _ (getD_mem hlt)
    refine Ev.pos (by omega) (Ev.pos (by omega) (Ev.neg (by omega) (Ev.pos (by simp; omega) ?_)))
    rw [rd_nat, nat_step (by omega), Int.tmod_eq_emod_of_nonneg hb.1]
    have := ih (j + 1) (by omega)
    rw [List.take_succ_eq_append_getElem hlt, List.map_append] at this
    simpa [hlt] using this
theorem reduced_ev {q : Nat} (h : Mod q) (l : List Int) (hl : Rem 64 l) (hlen : l.length ≤ 1000) : Ev (fun k => galloonref06_Reduced.f k (q : Int) l) (l.map (· % (q : Int))) := reduced_l0 h l hl hlen l.length 0 (by omega)

theorem horn_map {q : Int} (x : Int) : ∀ l : List Int, horn (l.map (· % q)) x % q = horn l x % q
  | [] => rfl
  | c :: l => by
    rw [List.map_cons, horn, horn, Int.add_emod, Int.mul_emod, horn_map x l, ← Int.mul_emod, Int.emod_emod, ← Int.add_emod]
theorem valS_map (q : Nat) (l : List Int) : valS q (l.map (· % (q : Int))) = valS q l := by
  unfold valS
  exact List.map_congr_left fun x _ => horn_map _ l
theorem map_rem {q : Nat} (h : Mod q) (l : List Int) : Rem q (l.map (· % (q : Int))) := by
  have h1 := h.lo
  intro v hv
  rw [List.mem_map] at hv
  obtain ⟨x, _, rfl⟩ := hv
  exact ⟨Int.emod_nonneg _ (by omega), Int.emod_lt_of_pos _ (by omega)⟩

theorem ints_self_l0 (l : List Int) (hl : l.length ≤ 1000000) : ∀ (d j : Nat), j + d = l.length → Ev (fun k => galloonlaw06_ints.l0 k l l (j : Int)) true := by
  intro d
  induction d with
  | zero =>
    intro j hj
    refine Ev.step (fun k => by simp only [galloonlaw06_ints.l0]; exact rfl) ?_
    exact Ev.neg (by omega) (Ev.now _)
  | succ d ih =>
    intro j hj
    refine Ev.step (fun k => by simp only [galloonlaw06_ints.l0]; exact rfl) ?_
    refine Ev.pos (by omega) (Ev.pos (by omega) (Ev.pos (by omega) (Ev.pos trivial ?_)))
    rw [nat_step (by omega)]
    exact ih (j + 1) (by omega)
theorem ints_self (l : List Int) (hl : l.length ≤ 1000000) : Ev (fun k => galloonlaw06_ints.f k l l) true := by
  unfold galloonlaw06_ints.f
  exact Ev.pos rfl (ints_self_l0 l hl l.length 0 (by omega))

end Go.Proofs.Ytkjjnfbgcdanmaa.Pure
