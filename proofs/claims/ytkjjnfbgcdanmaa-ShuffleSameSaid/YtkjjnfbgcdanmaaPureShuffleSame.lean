/- For every ints and lists, ShuffleSame answers true: functions and forms tell each other, and the product of falling factors changes no value. -/
import Derived.Test.YtkjjnfbgcdanmaaPx9 -- @galloonlaw06_ShuffleSame
import Derived.Test.YtkjjnfbgcdanmaaMathI
import Derived.Test.YtkjjnfbgcdanmaaMathJ0
namespace Go.Proofs.Ytkjjnfbgcdanmaa.Pure
open Go.RowKit Go.Proofs.Ytkjjnfbgcdanmaa.P Go.Proofs.YtkjjnfbgcdanmaaW.PrintWords Go.Proofs.YtkjjnfbgcdanmaaW.PrintLast
open Go.Proofs.Ytkjjnfbgcdanmaa.MathA Go.Proofs.Ytkjjnfbgcdanmaa.MathB

/-! ### comparing lists -/
theorem ints_gen_l0 (f g : List Int) (hl : f.length = g.length) (hs : f.length ≤ 1000) : ∀ (d j : Nat), j + d = f.length → Ev (fun k => galloonlaw06_ints.l0 k f g (j : Int)) (decide (f.drop j = g.drop j)) := by
  intro d
  induction d with
  | zero =>
    intro j hj
    refine Ev.step (fun k => by simp only [galloonlaw06_ints.l0]; exact rfl) ?_
    have e : f.drop j = [] := List.drop_eq_nil_of_le (by omega)
    have e2 : g.drop j = [] := List.drop_eq_nil_of_le (by omega)
    rw [e, e2]
    exact Ev.neg (by omega) (Ev.now _)
  | succ d ih =>
    intro j hj
    refine Ev.step (fun k => by simp only [galloonlaw06_ints.l0]; exact rfl) ?_
    refine Ev.pos (by omega) (Ev.pos (by omega) (Ev.pos (by omega) ?_))
    rw [rd_nat, rd_nat, drop_getD (show j < f.length by omega), drop_getD (show j < g.length by omega)]
    by_cases h : f.getD j 0 = g.getD j 0
    · have e : decide (f.getD j 0 :: f.drop (j + 1) = g.getD j 0 :: g.drop (j + 1)) = decide (f.drop (j + 1) = g.drop (j + 1)) := by rw [h]; simp
      rw [e, nat_step (by omega)]
      exact Ev.pos h (ih (j + 1) (by omega))
    · have e : decide (f.getD j 0 :: f.drop (j + 1) = g.getD j 0 :: g.drop (j + 1)) = false := decide_eq_false (fun e => h (List.cons.inj e).1)
      rw [e]
      exact Ev.neg h (Ev.now _)
theorem ints_gen (f g : List Int) (hs : f.length ≤ 1000) : Ev (fun k => galloonlaw06_ints.f k f g) (decide (f = g)) := by
  unfold galloonlaw06_ints.f
  by_cases h : (f.length : Int) = (g.length : Int)
  · exact Ev.pos h (by simpa using ints_gen_l0 f g (by omega) hs f.length 0 (by omega))
  · rw [decide_eq_false (fun e => h (by rw [e]))]
    exact Ev.neg h (Ev.now _)

theorem diffS_spec : ∀ (f g : List Int) (i : Nat), f.length = g.length → (diffS i f g = -1 ∧ f = g) ∨ (∃ j, j < f.length ∧ diffS i f g = ((i + j : Nat) : Int) ∧ f.getD j 0 ≠ g.getD j 0)
  | [], [], i, _ => .inl ⟨rfl, rfl⟩
  | [], _ :: _, _, h => by simp at h
  | _ :: _, [], _, h => by simp at h
  | a :: f, b :: g, i, h => by
    rw [diffS]
    by_cases e : a = b
    · rw [if_pos e]
      rcases diffS_spec f g (i + 1) (by simpa using h) with ⟨h1, h2⟩ | ⟨j, h1, h2, h3⟩
      · exact .inl ⟨h1, by rw [e, h2]⟩
      · exact .inr ⟨j + 1, by simpa using h1, by rw [h2]; congr 1; omega, by simpa using h3⟩
    · rw [if_neg e]
      exact .inr ⟨0, by simp, by simp, by simpa using e⟩

/-! ### the product of falling factors -/
theorem horn_append (l : List Int) (a x : Int) : horn (l ++ [a]) x = horn l x + a * (x ^ l.length) := by
  induction l with
  | nil => simp [horn]
  | cons c l ih => rw [List.cons_append, horn, ih, horn, List.length_cons, Int.pow_succ]; grind

/-- A coefficient's change. -/
theorem horn_set (l : List Int) (i : Nat) (v x : Int) (h : i < l.length) : horn (l.set i v) x = horn l x + (v - l.getD i 0) * x ^ i := by
  induction l generalizing i with
  | nil => simp at h
  | cons c l ih =>
    cases i with
    | zero => simp [horn]; grind
    | succ i =>
      have h' : i < l.length := by simpa using h
      rw [List.set_cons_succ, horn, ih i h', horn, List.getD_cons_succ, Int.pow_succ]
      grind

theorem horn_replicate (n : Nat) (x : Int) : horn (List.replicate n 0) x = 0 := by
  induction n with
  | zero => rfl
  | succ n ih => rw [List.replicate_succ, horn, ih]; simp

/-- A list of L remainders with the values of P. -/
structure Good (m L : Nat) (P : Int → Int) (l : List Int) : Prop where
  len : l.length = L
  rem : Rem m l
  val : ∀ x, (m : Int) ∣ horn l x - P x

theorem Good.set {m L : Nat} (h : Mod m) {P : Int → Int} {l : List Int} (g : Good m L P l) {i : Nat} (hi : i < L) (t : Int) {Q : Int → Int} (hQ : ∀ x, Q x = P x + t * x ^ i) :
    Good m L Q (l.set i ((l.getD i 0 + t) % (m : Int))) := by
  have h1 := h.lo
  refine ⟨by rw [List.length_set, g.len], ?_, fun x => ?_⟩
  · intro v hv
    rcases List.mem_or_eq_of_mem_set hv with e | e
    · exact g.rem v e
    · rw [e]; exact ⟨Int.emod_nonneg _ (by omega), Int.emod_lt_of_pos _ (by omega)⟩
  · rw [hQ, horn_set l i _ x (by rw [g.len]; exact hi)]
    obtain ⟨q, hq⟩ := g.val x
    obtain ⟨r, hr⟩ := emod_dvd_sub (l.getD i 0 + t) (m : Int)
    refine ⟨q + r * x ^ i, ?_⟩
    have e1 : horn l x = P x + (m : Int) * q := by omega
    have e2 : (l.getD i 0 + t) % (m : Int) = l.getD i 0 + t + (m : Int) * r := by omega
    rw [e1, e2]
    grind

theorem Good.congr {m L : Nat} {P Q : Int → Int} {l : List Int} (g : Good m L P l) (h : ∀ x, (m : Int) ∣ P x - Q x) : Good m L Q l :=
  ⟨g.len, g.rem, fun x => by
    have := Int.dvd_add (g.val x) (h x)
    have e : horn l x - P x + (P x - Q x) = horn l x - Q x := by omega
    rwa [e] at this⟩

theorem horn_take_succ {l : List Int} {z : Nat} (hz : z < l.length) (x : Int) : horn (l.take (z + 1)) x = horn (l.take z) x + l.getD z 0 * x ^ z := by
  have e : l.take (z + 1) = l.take z ++ [l.getD z 0] := by
    rw [List.take_succ_eq_append_getElem hz]
    simp [hz]
  rw [e, horn_append, List.length_take, show min z l.length = z by omega]

theorem Good.zeros {m : Nat} (h : Mod m) (L : Nat) : Good m L (fun _ => 0) (List.replicate L 0) := by
  have h1 := h.lo
  refine ⟨by simp, ?_, fun x => by rw [horn_replicate]; exact ⟨0, by simp⟩⟩
  intro v hv
  rw [List.mem_replicate] at hv
  rw [hv.2]
  omega

theorem lawSame_l1 {m : Nat} (h : Mod m) (i : Int) (a more : List Int) (hm : Rem m more) (hlen : more.length ≤ 100) (n : Nat) (hn : n ≤ 100) {r : Bool}
    (hr : ∀ next, Good m (more.length + 1) (fun x => (x - n) * horn more x) next → Ev (fun k => galloonlaw06_ShuffleSame.l0 k (m : Int) i a next ((n + 1 : Nat) : Int)) r) :
    ∀ (d z : Nat) (next : List Int), z + d = more.length → Good m (more.length + 1) (fun x => (x - n) * horn (more.take z) x) next →
      Ev (fun k => galloonlaw06_ShuffleSame.l1 k (m : Int) i a more (n : Int) next (z : Int)) r := by
  have h1 := h.lo
  have h2 := h.hi
  intro d
  induction d with
  | zero =>
    intro z next hz g
    refine Ev.step (fun k => by simp only [galloonlaw06_ShuffleSame.l1]; exact rfl) ?_
    refine Ev.neg (by omega) ?_
    rw [nat_step (by omega)]
    rw [List.take_of_length_le (by omega)] at g
    exact hr next g
  | succ d ih =>
    intro z next hz g
    have hz' : z < more.length := by omega
    refine Ev.step (fun k => by simp only [galloonlaw06_ShuffleSame.l1]; exact rfl) ?_
    rw [nat_step (by omega)]
    have hlN := g.len
    refine Ev.pos (by omega) (Ev.pos (by omega) (Ev.pos (by omega) (Ev.pos (by omega) (Ev.neg (by omega) ?_))))
    have b0 := hm.get (i := z) hz'
    have b1 := g.rem.get (i := z + 1) (by omega)
    rw [rd_nat, rd_nat, wrap_in (n := next.getD (z + 1) 0 + more.getD z 0) (by omega) (by omega), Int.tmod_eq_emod_of_nonneg (by omega), Int.toNat_natCast]
    have g1 := g.set h (i := z + 1) (by omega) (more.getD z 0) (Q := fun x => (x - n) * horn (more.take z) x + more.getD z 0 * x ^ (z + 1)) (fun x => rfl)
    generalize next.set (z + 1) ((next.getD (z + 1) 0 + more.getD z 0) % (m : Int)) = y at g1
    have hlY := g1.len
    refine Ev.congr (fun k => Option.bind_some _ _) (Ev.pos (by omega) ?_)
    have b2 := g1.rem.get (i := z) (by omega)
    have c1 := Int.emod_nonneg (n : Int) (show (m : Int) ≠ 0 by omega)
    have c2 := Int.emod_lt_of_pos (n : Int) (show (0 : Int) < m by omega)
    rw [rd_nat, Int.tmod_eq_emod_of_nonneg (a := (n : Int)) (by omega), wrap_in (n := (m : Int) - (n : Int) % (m : Int)) (by omega) (by omega)]
    have b5 := mulmod_small (a := more.getD z 0) (b := (m : Int) - (n : Int) % (m : Int)) (m := m) b0.1 b0.2 (by omega) (by omega) (by omega)
    rw [Int.mul_comm] at b5
    rw [wrap_in (n := ((m : Int) - (n : Int) % (m : Int)) * more.getD z 0) (by omega) (by omega), wrap_in (by omega) (by omega), Int.tmod_eq_emod_of_nonneg (by omega), Int.toNat_natCast]
    have g2 := g1.set h (i := z) (by omega) (((m : Int) - (n : Int) % (m : Int)) * more.getD z 0) (Q := fun x => (x - n) * horn (more.take z) x + more.getD z 0 * x ^ (z + 1) + ((m : Int) - (n : Int) % (m : Int)) * more.getD z 0 * x ^ z) (fun x => rfl)
    refine ih (z + 1) _ (by omega) (g2.congr fun x => ?_)
    rw [horn_take_succ hz', Int.pow_succ]
    obtain ⟨q, hq⟩ := emod_dvd_sub (n : Int) (m : Int)
    have e : (n : Int) % (m : Int) = (n : Int) + (m : Int) * q := by omega
    rw [e]
    refine ⟨(1 - q) * more.getD z 0 * x ^ z, ?_⟩
    grind

theorem lawSame_l2 {m : Nat} (h : Mod m) (a more : List Int) (ha : Rem m a) (hm : Rem m more) (hla : a.length ≤ 12) (hlm : more.length ≤ 12) {r : Bool}
    (hr : ∀ s, Good m (max a.length more.length) (fun x => horn a x + horn more x) s → Ev (fun k => (shuffle_Same.f k (m : Int) a s).bind fun bt288 => (if bt288.2 = 0 then (if bt288.1 = (-1) then ((galloonlaw06_awake.f k).bind fun t290 => (some t290)) else (none)) else (none))) r) :
    ∀ (d z : Nat) (s : List Int), z + d = max a.length more.length → Good m (max a.length more.length) (fun x => horn (a.take z) x + horn (more.take z) x) s → (∀ q, z ≤ q → s.getD q 0 = 0) →
      Ev (fun k => galloonlaw06_ShuffleSame.l2 k (m : Int) a more s (z : Int)) r := by
  have h1 := h.lo
  have h2 := h.hi
  intro d
  induction d with
  | zero =>
    intro z s hz g hs
    have hl := g.len
    refine Ev.step (fun k => by simp only [galloonlaw06_ShuffleSame.l2]; exact rfl) ?_
    refine Ev.neg (by omega) ?_
    rw [List.take_of_length_le (by omega), List.take_of_length_le (by omega)] at g
    exact hr s g
  | succ d ih =>
    intro z s hz g hs
    have hl := g.len
    refine Ev.step (fun k => by simp only [galloonlaw06_ShuffleSame.l2]; exact rfl) ?_
    rw [nat_step (by omega), Int.toNat_natCast]
    refine Ev.pos (by omega) ?_
    have hz0 := hs z (Nat.le_refl _)
    have keep : ∀ (l : List Int) (v : Int), (∀ q, z + 1 ≤ q → l.getD q 0 = 0) → ∀ q, z + 1 ≤ q → (l.set z v).getD q 0 = 0 := by
      intro l v hk q hq
      have := hk q hq
      simp only [List.getD_eq_getElem?_getD] at this ⊢
      rw [List.getElem?_set_ne (by omega)]
      exact this
    have hs1 : ∀ q, z + 1 ≤ q → s.getD q 0 = 0 := fun q hq => hs q (by omega)
    by_cases hza : z < a.length
    · have b0 := ha.get (i := z) hza
      have ea : a.getD z 0 = (s.getD z 0 + a.getD z 0) % (m : Int) := by rw [hz0, Int.zero_add, Int.emod_eq_of_lt b0.1 b0.2]
      have g1 := g.set h (i := z) (by omega) (a.getD z 0) (Q := fun x => horn (a.take (z + 1)) x + horn (more.take z) x) (fun x => by rw [horn_take_succ hza]; omega)
      rw [← ea] at g1
      refine Ev.pos (by omega) (Ev.pos (by omega) ?_)
      rw [rd_nat]
      have hk1 := keep s (a.getD z 0) hs1
      generalize s.set z (a.getD z 0) = y at g1 hk1
      have hlY := g1.len
      refine Ev.congr (fun k => Option.bind_some _ _) ?_
      by_cases hzm : z < more.length
      · have b1 := hm.get (i := z) hzm
        have b2 := g1.rem.get (i := z) (by omega)
        refine Ev.pos (by omega) (Ev.neg (by omega) ?_)
        rw [rd_nat, rd_nat, wrap_in (by omega) (by omega), Int.tmod_eq_emod_of_nonneg (by omega)]
        exact ih (z + 1) _ (by omega) (g1.set h (i := z) (by omega) (more.getD z 0) (fun x => by rw [horn_take_succ hzm]; omega)) (keep y _ hk1)
      · refine Ev.neg (by omega) ?_
        refine ih (z + 1) _ (by omega) (g1.congr fun x => ?_) hk1
        rw [List.take_of_length_le (show more.length ≤ z by omega), List.take_of_length_le (show more.length ≤ z + 1 by omega)]
        exact ⟨0, by omega⟩
    · refine Ev.neg (by omega) ?_
      have et : ∀ x, horn (a.take z) x = horn (a.take (z + 1)) x := fun x => by rw [List.take_of_length_le (show a.length ≤ z by omega), List.take_of_length_le (show a.length ≤ z + 1 by omega)]
      by_cases hzm : z < more.length
      · have b1 := hm.get (i := z) hzm
        have b2 := g.rem.get (i := z) (by omega)
        refine Ev.pos (by omega) (Ev.pos (by omega) (Ev.neg (by omega) ?_))
        rw [rd_nat, rd_nat, wrap_in (by omega) (by omega), Int.tmod_eq_emod_of_nonneg (by omega)]
        exact ih (z + 1) _ (by omega) (g.set h (i := z) (by omega) (more.getD z 0) (fun x => by rw [horn_take_succ hzm, et]; omega)) (keep s _ hs1)
      · omega

theorem lawSame_l0 {m : Nat} (h : Mod m) (i : Nat) (hi : i < 12) (a : List Int) (ha : Rem m a) (hla : a.length ≤ 12) : ∀ (d n : Nat) (more : List Int), n + d = i → Good m (n + 1) (fun x => (ch m i : Int) * ff x n) more →
    Ev (fun k => galloonlaw06_ShuffleSame.l0 k (m : Int) (i : Int) a more (n : Int)) true := by
  have h1 := h.lo
  have h2 := h.hi
  intro d
  induction d with
  | zero =>
    intro n more hn g
    have hl := g.len
    obtain rfl : n = i := by omega
    refine Ev.step (fun k => by simp only [galloonlaw06_ShuffleSame.l0]; exact rfl) ?_
    have e : mx (a.length : Int) (more.length : Int) = ((max a.length more.length : Nat) : Int) := by unfold mx; split <;> omega
    rw [e, Int.toNat_natCast]
    refine Ev.neg (by omega) (Ev.pos (by omega) (Ev.pos (by omega) ?_))
    refine lawSame_l2 h a more ha g.rem hla (by omega) ?_ (max a.length more.length) 0 _ (by omega) ((Good.zeros h _).congr fun x => ⟨0, by simp [horn]⟩) (fun q _ => by simp [List.getD_eq_getElem?_getD, List.getElem?_replicate]; split <;> rfl)
    intro s gs
    have hls := gs.len
    have hv : valS m s = valS m a := by
      unfold valS
      apply List.map_congr_left
      intro x _
      have d1 := gs.val (x : Int)
      have d2 := g.val (x : Int)
      have d3 := dvd_ff (m := m) (i := n) (by omega) (Int.dvd_refl (ch m n : Int)) x
      refine Int.emod_eq_emod_iff_emod_sub_eq_zero.2 (Int.emod_eq_zero_of_dvd ?_)
      have d4 := Int.dvd_add (Int.dvd_add d1 d2) d3
      have e : horn s (x : Int) - (horn a (x : Int) + horn more (x : Int)) + (horn more (x : Int) - (ch m n : Int) * ff (x : Int) n) + (ch m n : Int) * ff (x : Int) n = horn s (x : Int) - horn a (x : Int) := by omega
      rwa [e] at d4
    have hd : diffS 0 (valS m a) (valS m s) = -1 := by
      rcases diffS_spec (valS m a) (valS m s) 0 (by rw [hv]) with ⟨e, _⟩ | ⟨j, _, _, e⟩
      · exact e
      · rw [hv] at e; exact absurd rfl e
    have hsm := same_ev h ha gs.rem hla (by omega)
    rw [hd] at hsm
    exact Ev.bind hsm (Ev.pos rfl (Ev.pos rfl (Ev.bind awake_ev (Ev.now _))))
  | succ d ih =>
    intro n more hn g
    have hl := g.len
    refine Ev.step (fun k => by simp only [galloonlaw06_ShuffleSame.l0]; exact rfl) ?_
    have e : wrap64 ((more.length : Int) + 1) = ((more.length + 1 : Nat) : Int) := nat_step (by omega)
    rw [e, Int.toNat_natCast]
    refine Ev.pos (by omega) (Ev.pos (by omega) (Ev.pos (by omega) ?_))
    refine lawSame_l1 h (i : Int) a more g.rem (by omega) n (by omega) ?_ more.length 0 _ (by omega) ((Good.zeros h _).congr fun x => ⟨0, by simp [horn]⟩)
    intro next gn
    refine ih (n + 1) next (by omega) ?_
    rw [hl] at gn
    refine gn.congr fun x => ?_
    obtain ⟨q, hq⟩ := g.val x
    refine ⟨(x - n) * q, ?_⟩
    have e2 : horn more x = (ch m i : Int) * ff x n + (m : Int) * q := by omega
    rw [e2, ff_succ]
    grind

theorem ShuffleSame : galloonlaw06_ShuffleSame.Pure := by
  intro a l1 l2 a3 _ hm1 _ _ hm2 _ _ _
  obtain ⟨m, h, t, ht, hw⟩ := mod_of a
  have h1 := h.lo
  have h2 := h.hi
  unfold maxLen at hm1 hm2
  refine Ev.rounds (g := fun k => galloonlaw06_ShuffleSame.f k a l1 l2 a3) ?_
  unfold galloonlaw06_ShuffleSame.f
  rw [ht]
  simp only [Option.bind_some, hw]
  have hp := tameS_rem h l1
  have ht1 := tame_ev h l1 (by omega)
  have hpl := tameS_len m l1
  generalize tameS m l1 = p at hp ht1 hpl
  have hq := tameS_rem h l2
  have ht2 := tame_ev h l2 (by omega)
  have hql := tameS_len m l2
  generalize tameS m l2 = q at hq ht2 hql
  have hf := valS_length m p
  have hg := valS_length m q
  obtain ⟨c, hc, hcl, _, hcs⟩ := Form_all h (valS_rem h p) hf (valS_same m p)
  obtain ⟨d, hd, hdl, _, hds⟩ := Form_all h (valS_rem h q) hg (valS_same m q)
  have hcd : c = d ↔ valS m p = valS m q := by
    constructor
    · intro e; rw [← hcs, ← hds, e]
    · intro e
      obtain ⟨K1, k1⟩ := hc
      obtain ⟨K2, k2⟩ := hd
      have a1 := k1 (max K1 K2) (Nat.le_max_left ..)
      have a2 := k2 (max K1 K2) (Nat.le_max_right ..)
      dsimp only at a1 a2
      rw [e, a2] at a1
      exact (Prod.mk.inj (Option.some.inj a1)).1.symm
  have hdeg := deg_le h
  refine Ev.bind ht1 (Ev.bind ht2 (Ev.bind (same_ev h hp hq hpl hql) (Ev.bind (Ev.from200 fun k hk => values_ev h hp hpl hk) (Ev.bind (Ev.from200 fun k hk => values_ev h hq hql hk) (Ev.bind hc (Ev.bind hd ?_))))))
  refine Ev.pos rfl (Ev.pos rfl (Ev.pos rfl (Ev.pos rfl (Ev.pos rfl (Ev.pos (by simp only [hf]) (Ev.pos (by simp only [hg]) ?_))))))
  have fin : Ev (fun k => galloonlaw06_ShuffleSame.j0 k (m : Int) a3 p false) true := by
    refine Ev.step (fun k => by simp only [galloonlaw06_ShuffleSame.j0]; exact rfl) ?_
    obtain ⟨y, hy, hy0, hy1⟩ := mod_some a3 12 (by omega) (by omega)
    obtain ⟨i, rfl⟩ : ∃ i : Nat, y = (i : Int) := ⟨y.toNat, by omega⟩
    rw [hy]
    refine Ev.neg (by simp) (Ev.congr (fun k => Option.bind_some _ _) ?_)
    refine Ev.bind (Ev.from200 fun k hk => room_ev h (show i ≤ 65 by omega) hk) (Ev.neg (by omega) ?_)
    refine lawSame_l0 h i (by omega) p hp hpl i 0 _ (by omega) ⟨rfl, ?_, fun x => ?_⟩
    · intro v hv
      rw [List.mem_singleton.1 hv, Int.tmod_eq_emod_of_nonneg (by omega)]
      exact ⟨Int.emod_nonneg _ (by omega), Int.emod_lt_of_pos _ (by omega)⟩
    · rw [Int.tmod_eq_emod_of_nonneg (by omega)]
      have e : horn [(ch m i : Int) % (m : Int)] x - (ch m i : Int) * ff x 0 = (ch m i : Int) % (m : Int) - (ch m i : Int) := by simp [horn, ff]
      rw [e]
      exact emod_dvd_sub _ _
  rcases diffS_spec (valS m p) (valS m q) 0 (by rw [hf, hg]) with ⟨e1, e2⟩ | ⟨j, e1, e2, e3⟩
  · rw [e1]
    refine Ev.neg (by simp) (Ev.neg (by simp; omega) ?_)
    refine Ev.bind (ints_gen _ _ (by rw [hf]; omega)) ?_
    rw [decide_eq_true e2]
    refine Ev.neg (by simp) (Ev.bind (ints_gen _ _ (by dsimp only; omega)) ?_)
    rw [decide_eq_true (hcd.2 e2)]
    exact Ev.neg (by simp) (Ev.neg (by simp) fin)
  · rw [e2]
    have hne : valS m p ≠ valS m q := fun e => e3 (by rw [e])
    rw [Nat.zero_add]
    refine Ev.neg (by simp) (Ev.neg (by simp; omega) ?_)
    refine Ev.bind (ints_gen _ _ (by rw [hf]; omega)) ?_
    rw [decide_eq_false hne]
    have hj : ((j : Int) == -1) = false := beq_eq_false_iff_ne.mpr (by omega)
    refine Ev.neg (by simp [hj]) (Ev.bind (ints_gen _ _ (by dsimp only; omega)) ?_)
    rw [decide_eq_false (fun e => hne (hcd.1 e))]
    refine Ev.neg (by simp [hj]) (Ev.pos (by simp) (Ev.pos (by simp) (Ev.pos (by simp; omega) (Ev.pos (by simp; omega) ?_))))
    have hb : (rd (valS m p) (j : Int) == rd (valS m q) (j : Int)) = false := beq_eq_false_iff_ne.mpr (by rw [rd_nat, rd_nat]; exact e3)
    simp only [hb]
    exact fin

end Go.Proofs.Ytkjjnfbgcdanmaa.Pure
