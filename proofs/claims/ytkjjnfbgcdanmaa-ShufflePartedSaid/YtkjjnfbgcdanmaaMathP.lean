/- The prime powers of a modulus: what is a permutation for each, and which number has the remainders. -/
import Derived.Test.YtkjjnfbgcdanmaaMathM
import Derived.Test.YtkjjnfbgcdanmaaPx9 -- @shuffle_Joined
namespace Go.Proofs.Ytkjjnfbgcdanmaa.Pure
open Go.RowKit Go.Proofs.Ytkjjnfbgcdanmaa.P Go.Proofs.YtkjjnfbgcdanmaaW.PrintWords Go.Proofs.YtkjjnfbgcdanmaaW.PrintLast
open Go.Proofs.Ytkjjnfbgcdanmaa.MathA Go.Proofs.Ytkjjnfbgcdanmaa.MathB

/-! ### what the kernel reckons of each of the 63 moduli -/
def crtB (m : Nat) : Bool :=
  ((prt m).all fun q => decide (m % pw q = 0) && (List.range m).any fun e => decide (e % pw q = 1 % pw q) && decide (e % (m / pw q) = 0)) &&
  (List.range m).all fun d => decide (d = 0) || (prt m).any fun q => decide (d % pw q ≠ 0)
theorem crt_all : ∀ t : Fin 63, crtB (t.val + 2) = true ∧ Hand.j1 ((prt (t.val + 2)).map toS) 1 = some ((t.val + 2 : Nat) : Int) := by decide +kernel

theorem prt_dvd {m : Nat} (h : Mod m) {q : Nat × Nat} (hq : q ∈ prt m) : m % pw q = 0 ∧ ∃ e : Nat, e % pw q = 1 % pw q ∧ e % (m / pw q) = 0 := by
  obtain ⟨t, rfl⟩ := h.fin
  have := (crt_all t).1
  unfold crtB at this
  rw [Bool.and_eq_true] at this
  have := List.all_eq_true.1 this.1 q hq
  rw [Bool.and_eq_true, decide_eq_true_iff, List.any_eq_true] at this
  obtain ⟨h1, e, _, h2⟩ := this
  rw [Bool.and_eq_true, decide_eq_true_iff, decide_eq_true_iff] at h2
  exact ⟨h1, e, h2⟩
theorem prt_zero {m : Nat} (h : Mod m) {d : Nat} (hd : d < m) (h0 : ∀ q ∈ prt m, d % pw q = 0) : d = 0 := by
  obtain ⟨t, rfl⟩ := h.fin
  have := (crt_all t).1
  unfold crtB at this
  rw [Bool.and_eq_true] at this
  have := List.all_eq_true.1 this.2 d (List.mem_range.2 hd)
  rw [Bool.or_eq_true, decide_eq_true_iff, List.any_eq_true] at this
  rcases this with h1 | ⟨q, hq, h1⟩
  · exact h1
  · rw [decide_eq_true_iff] at h1
    exact absurd (h0 q hq) h1
theorem j1_prt {m : Nat} (h : Mod m) : Hand.j1 ((prt m).map toS) 1 = some (m : Int) := by
  obtain ⟨t, rfl⟩ := h.fin
  exact (crt_all t).2

/-! ### permutations -/
def permB (f : List Int) : Bool := decide ((twiceS 0 f).1 < 0)
theorem permB_iff (f : List Int) : permB f = true ↔ ∀ p q, p < q → q < f.length → f.getD p 0 ≠ f.getD q 0 := by
  unfold permB
  rw [decide_eq_true_iff]
  rcases twiceS_spec f 0 with ⟨h1, h2⟩ | ⟨p, q, h1, h2, h3, h4⟩
  · rw [h1]
    exact ⟨fun _ => h2, fun _ => by show (-1 : Int) < 0; omega⟩
  · rw [h4]
    constructor
    · intro h; simp at h; omega
    · intro h; exact absurd h3 (h p q h1 h2)
theorem twice_first (f : List Int) : ((twiceS 0 f).1 == -1) = permB f := by
  unfold permB
  rcases twiceS_spec f 0 with ⟨h1, _⟩ | ⟨p, q, _, _, _, h4⟩
  · rw [h1]; rfl
  · rw [h4, Bool.eq_iff_iff, beq_iff_eq, decide_eq_true_iff]
    constructor <;> intro h <;> simp at h <;> omega

def InjV (m : Nat) (l : List Int) : Prop := ∀ x y : Nat, x < y → y < m → horn l (x : Int) % (m : Int) ≠ horn l (y : Int) % (m : Int)
theorem permB_valS (m : Nat) (l : List Int) : permB (valS m l) = true ↔ InjV m l := by
  rw [permB_iff, valS_length]
  constructor
  · intro h x y hxy hy
    have := h x y hxy hy
    rwa [valS_get l (by omega), valS_get l hy] at this
  · intro h x y hxy hy
    rw [valS_get l (by omega), valS_get l hy]
    exact h x y hxy hy

theorem cast_mod (a m : Nat) : ((a % m : Nat) : Int) = (a : Int) % (m : Int) := by push_cast; rfl

theorem inj_part {m : Nat} (h : Mod m) (l : List Int) (hi : InjV m l) {q : Nat × Nat} (hq : q ∈ prt m) : InjV (pw q) l := by
  obtain ⟨hd, e, e1, e0⟩ := prt_dvd h hq
  have h1 := h.lo
  have hQ := (prt_ok h hq).1.lo
  generalize pw q = Q at hd e1 e0 hQ ⊢
  obtain ⟨r, rfl⟩ := Nat.dvd_of_mod_eq_zero hd
  rw [Nat.mul_div_cancel_left r (by omega)] at e0
  intro u v huv hv heq
  -- the numbers that are u and v modulo Q, and 0 modulo r
  have hx : ∀ w : Nat, w < Q → ((w * e) % (Q * r)) % Q = w ∧ ((w * e) % (Q * r)) % r = 0 := by
    intro w hw
    rw [Nat.mod_mul_right_mod, Nat.mul_comm Q r, Nat.mod_mul_right_mod]
    constructor
    · rw [Nat.mul_mod, e1, ← Nat.mul_mod, Nat.mul_one, Nat.mod_eq_of_lt hw]
    · rw [Nat.mul_mod, e0, Nat.mul_zero, Nat.zero_mod]
  obtain ⟨x1, x2⟩ := hx u (by omega)
  obtain ⟨y1, y2⟩ := hx v hv
  have hxl : (u * e) % (Q * r) < Q * r := Nat.mod_lt _ (by omega)
  have hyl : (v * e) % (Q * r) < Q * r := Nat.mod_lt _ (by omega)
  generalize (u * e) % (Q * r) = x at x1 x2 hxl
  generalize (v * e) % (Q * r) = y at y1 y2 hyl
  have hQx : horn l (x : Int) % (Q : Int) = horn l (u : Int) % (Q : Int) := horn_mod (by rw [← cast_mod, ← cast_mod, x1, Nat.mod_eq_of_lt (show u < Q by omega)]) l
  have hQy : horn l (y : Int) % (Q : Int) = horn l (v : Int) % (Q : Int) := horn_mod (by rw [← cast_mod, ← cast_mod, y1, Nat.mod_eq_of_lt hv]) l
  have hr : horn l (x : Int) % (r : Int) = horn l (y : Int) % (r : Int) := horn_mod (by rw [← cast_mod, ← cast_mod, x2, y2]) l
  have dQ : (Q : Int) ∣ horn l (x : Int) - horn l (y : Int) := Int.dvd_of_emod_eq_zero (Int.emod_eq_emod_iff_emod_sub_eq_zero.1 (by rw [hQx, hQy, heq]))
  have dr : (r : Int) ∣ horn l (x : Int) - horn l (y : Int) := Int.dvd_of_emod_eq_zero (Int.emod_eq_emod_iff_emod_sub_eq_zero.1 hr)
  have ea : (r : Int) ∣ (e : Int) := Int.natCast_dvd_natCast.2 (Nat.dvd_of_mod_eq_zero e0)
  have eb : (Q : Int) ∣ (e : Int) - 1 := Int.dvd_of_emod_eq_zero (Int.emod_eq_emod_iff_emod_sub_eq_zero.1 (by
    have := congrArg (fun n : Nat => (n : Int)) e1
    simpa using this))
  have dm : ((Q * r : Nat) : Int) ∣ horn l (x : Int) - horn l (y : Int) := by
    generalize horn l (x : Int) - horn l (y : Int) = D at dQ dr
    obtain ⟨c, hc⟩ := dQ
    obtain ⟨c', hc'⟩ := dr
    obtain ⟨a, ha⟩ := ea
    obtain ⟨b, hb⟩ := eb
    refine ⟨a * c - b * c', ?_⟩
    have e2 : D = (e : Int) * D - ((e : Int) - 1) * D := by grind
    rw [e2, hb]
    have t1 : (e : Int) * D = (r : Int) * a * ((Q : Int) * c) := by rw [← hc, ← ha]
    have t2 : (Q : Int) * b * D = (Q : Int) * b * ((r : Int) * c') := by rw [← hc']
    rw [t1, t2]
    push_cast
    grind
  have hm : horn l (x : Int) % ((Q * r : Nat) : Int) = horn l (y : Int) % ((Q * r : Nat) : Int) := Int.emod_eq_emod_iff_emod_sub_eq_zero.2 (Int.emod_eq_zero_of_dvd dm)
  rcases Nat.lt_trichotomy x y with h3 | h3 | h3
  · exact hi x y h3 hyl hm
  · subst h3; omega
  · exact hi y x h3 hxl hm.symm

theorem inj_join {m : Nat} (h : Mod m) (l : List Int) (hi : ∀ q ∈ prt m, InjV (pw q) l) : InjV m l := by
  intro x y hxy hy heq
  have h0 : y - x = 0 := by
    refine prt_zero h (by omega) fun q hq => ?_
    obtain ⟨hd, _⟩ := prt_dvd h hq
    have hQ := (prt_ok h hq).1.lo
    have hinj := hi q hq
    generalize pw q = Q at hd hQ hinj ⊢
    obtain ⟨r, rfl⟩ := Nat.dvd_of_mod_eq_zero hd
    have heQ : horn l (x : Int) % (Q : Int) = horn l (y : Int) % (Q : Int) := by
      have d := Int.dvd_of_emod_eq_zero (Int.emod_eq_emod_iff_emod_sub_eq_zero.1 heq)
      exact Int.emod_eq_emod_iff_emod_sub_eq_zero.2 (Int.emod_eq_zero_of_dvd (Int.dvd_trans ⟨(r : Int), by push_cast; rfl⟩ d))
    have hx : horn l ((x % Q : Nat) : Int) % (Q : Int) = horn l (x : Int) % (Q : Int) := horn_mod (by rw [cast_mod, Int.emod_emod]) l
    have hy' : horn l ((y % Q : Nat) : Int) % (Q : Int) = horn l (y : Int) % (Q : Int) := horn_mod (by rw [cast_mod, Int.emod_emod]) l
    have hxl : x % Q < Q := Nat.mod_lt _ (by omega)
    have hyl : y % Q < Q := Nat.mod_lt _ (by omega)
    have hmod : x % Q = y % Q := by
      rcases Nat.lt_trichotomy (x % Q) (y % Q) with h3 | h3 | h3
      · exact absurd (by rw [hx, hy', heQ]) (hinj _ _ h3 hyl)
      · exact h3
      · exact absurd (by rw [hx, hy', heQ]) (hinj _ _ h3 hxl)
    have := Nat.sub_mod_eq_zero_of_mod_eq hmod.symm
    exact this
  omega

theorem perm_parts {m : Nat} (h : Mod m) (l : List Int) : permB (valS m l) = (prt m).all fun q => permB (valS (pw q) l) := by
  rw [Bool.eq_iff_iff, permB_valS, List.all_eq_true]
  exact ⟨fun hi q hq => (permB_valS _ _).2 (inj_part h l hi hq), fun hi => inj_join h l fun q hq => (permB_valS _ _).1 (hi q hq)⟩

/-! ### which number has the remainders -/
theorem powOf_toS {m : Nat} (h : Mod m) {q : Nat × Nat} (hq : q ∈ prt m) {k : Nat} (hk : 200 ≤ k) : Hand.powOf k (toS q) = (pw q : Int) := by
  unfold Hand.powOf
  rw [show shuffle_prime_power.f k (toS q).f0 (toS q).f1 = some (pw q : Int) from (prt_ok h hq).2.1 k hk]
  rfl

def fitS (L : List (Nat × Nat)) (rem : List Int) (n : Nat) : Bool := (List.range L.length).all fun i => decide ((n : Int) % (pw (L.getD i (0, 0)) : Int) = rem.getD i 0)

theorem fits_eq {m : Nat} (h : Mod m) (rem : List Int) (n : Nat) {k : Nat} (hk : 200 ≤ k) : Hand.fitsB ((prt m).map toS) rem (Hand.powOf k) (n : Int) = fitS (prt m) rem n := by
  unfold Hand.fitsB fitS
  rw [List.length_map]
  refine Hand.all_cong fun i hi => ?_
  unfold Hand.fitB
  rw [rdT_nat _ hi, powOf_toS h (List.getElem_mem hi) hk, Int.tmod_eq_emod_of_nonneg (by omega), rd_nat]
  rw [Bool.eq_iff_iff, beq_iff_eq, decide_eq_true_iff]
  simp [hi]

theorem search_at {all : List S44} {rem : List Int} {qf : S44 → Int} {n0 : Nat} (h0 : Hand.fitsB all rem qf (n0 : Int) = true) (hl : ∀ n, n < n0 → Hand.fitsB all rem qf (n : Int) = false) :
    ∀ (d n N : Nat), n + d = n0 → d < N → Hand.searchF all rem qf N n = some (n0 : Int)
  | 0, n, N, hn, hN => by
    obtain ⟨N, rfl⟩ : ∃ N', N = N' + 1 := ⟨N - 1, by omega⟩
    obtain rfl : n = n0 := by omega
    rw [Hand.searchF, if_pos h0]
  | d + 1, n, N, hn, hN => by
    obtain ⟨N, rfl⟩ : ∃ N', N = N' + 1 := ⟨N - 1, by omega⟩
    rw [Hand.searchF, if_neg (by rw [hl n (by omega)]; decide)]
    exact search_at h0 hl d (n + 1) N (by omega) (by omega)

theorem joined_ev {m : Nat} (h : Mod m) (rem : List Int) (hlen : rem.length = (prt m).length) (hrem : ∀ i (hi : i < (prt m).length), 0 ≤ rem.getD i 0 ∧ rem.getD i 0 < (pw ((prt m)[i]) : Int))
    {n0 : Nat} (hn : n0 ≤ 64) (h0 : fitS (prt m) rem n0 = true) (hl : ∀ n, n < n0 → fitS (prt m) rem n = false) {k : Nat} (hk : 200 ≤ k) :
    shuffle_Joined.f k ((prt m).map toS) rem = some ((n0 : Int), 0) := by
  have h1 := h.lo
  have h2 := h.hi
  have hL := prt_len h
  unfold shuffle_Joined.f Hand.joinedF
  rw [j1_prt h]
  dsimp only
  rw [if_pos ⟨by omega, by omega, by simpa using hlen⟩, primes_ev h hk]
  rw [Option.bind_some, if_pos rfl]
  have hpows : Hand.powsB k ((prt m).map toS) = true := by
    unfold Hand.powsB
    rw [List.all_eq_true]
    intro s hs
    obtain ⟨q, hq, rfl⟩ := List.mem_map.1 hs
    have hm := (prt_ok h hq).1
    have := hm.lo
    have := hm.hi
    rw [powOf_toS h hq hk]
    simp only [Bool.and_eq_true, decide_eq_true_iff]
    exact ⟨⟨(prt_ok h hq).2.1 k hk, by omega⟩, by omega⟩
  rw [if_pos ⟨hpows, by simp; omega⟩]
  have hok : (List.range ((prt m).map toS).length).all (Hand.okAt k ((prt m).map toS) ((prt m).map toS) rem) = true := by
    rw [List.all_eq_true]
    intro i hi
    rw [List.mem_range, List.length_map] at hi
    have hb := hrem i hi
    unfold Hand.okAt
    rw [rdT_nat _ hi, powOf_toS h (List.getElem_mem hi) hk, rd_nat]
    unfold Hand.within
    rw [if_pos hb.1, decide_eq_true (show rem.getD i 0 ≤ (pw (prt m)[i] : Int) - 1 by omega)]
    simp
  rw [if_pos hok, search_at (n0 := n0) (by rw [fits_eq h rem n0 hk]; exact h0) (fun n hn => by rw [fits_eq h rem n hk]; exact hl n hn) n0 0 65 (by omega) (by omega)]
  rfl

end Go.Proofs.Ytkjjnfbgcdanmaa.Pure
