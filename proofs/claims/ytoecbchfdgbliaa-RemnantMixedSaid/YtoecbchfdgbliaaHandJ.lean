-- The number of right packings: the closure of Ways (71), by sets of pieces.
import Derived.Test.YtoecbchfdgbliaaHandU
import Derived.Test.YtoecbchfdgbliaaHandL
import Derived.Test.YtoecbchfdgbliaaHandG
namespace Go.Proofs.Ytoecbchfdgbliaa.Hand
open Go.RowKit Go.Shelf Go.Proofs.Ytoecbchfdgbliaa.P Go.Proofs.YtoecbchfdgbliaaW.PrintWords Go.Proofs.YtoecbchfdgbliaaW.PrintLast Go.Proofs.YtoecbchfdgbliaaW.PrintMore
attribute [local go_sem] Oper.semAt_some
set_option linter.unusedVariables false
set_option linter.unusedSimpArgs false

/-! ### Sets of pieces as numbers -/
def lowN (s : Nat) : Nat := s - (s &&& (s - 1))
def restN (s : Nat) : Nat := s &&& (s - 1)
theorem bits_and (a b : Nat) (ha : a < 18446744073709551616) (hb : b < 18446744073709551616) : bits .and .u64 (a : Int) (b : Int) = ((a &&& b : Nat) : Int) := by
  have h : a &&& b ≤ a := Nat.and_le_left
  show IntKind.u64.wrap (((BitVec.ofInt 64 (a : Int) &&& BitVec.ofInt 64 (b : Int)).toNat : Nat) : Int) = _
  rw [BitVec.ofInt_natCast, BitVec.ofInt_natCast, BitVec.toNat_and, BitVec.toNat_ofNat, BitVec.toNat_ofNat, Nat.mod_eq_of_lt (a := a) (by omega), Nat.mod_eq_of_lt (a := b) (by omega)]
  exact IntWalk.u64_in _ ⟨by omega, by omega⟩
theorem bits_or (a b : Nat) (h : a &&& b = 0) (hs : a + b < 18446744073709551616) : bits .or .u64 (a : Int) (b : Int) = ((a + b : Nat) : Int) := by
  show IntKind.u64.wrap (((BitVec.ofInt 64 (a : Int) ||| BitVec.ofInt 64 (b : Int)).toNat : Nat) : Int) = _
  rw [BitVec.ofInt_natCast, BitVec.ofInt_natCast]
  have e : BitVec.ofNat 64 a &&& BitVec.ofNat 64 b = 0#64 := by
    apply BitVec.eq_of_toNat_eq
    simp only [BitVec.toNat_and, BitVec.toNat_ofNat]
    rw [Nat.mod_eq_of_lt (a := a) (by omega), Nat.mod_eq_of_lt (a := b) (by omega), h]
  rw [← BitVec.add_eq_or_of_and_eq_zero _ _ e, BitVec.toNat_add, BitVec.toNat_ofNat, BitVec.toNat_ofNat, Nat.mod_eq_of_lt (a := a) (by omega), Nat.mod_eq_of_lt (a := b) (by omega), Nat.mod_eq_of_lt (by omega)]
  exact IntWalk.u64_in _ ⟨by omega, by omega⟩
theorem bits_andNot (a b : Nat) (ha : a < 18446744073709551616) (hb : b < 18446744073709551616) : bits .andNot .u64 (a : Int) (b : Int) = ((a - (a &&& b) : Nat) : Int) := by
  show IntKind.u64.wrap (((BitVec.ofInt 64 (a : Int) &&& ~~~(BitVec.ofInt 64 (b : Int))).toNat : Nat) : Int) = _
  rw [BitVec.ofInt_natCast, BitVec.ofInt_natCast]
  have e : (BitVec.ofNat 64 a &&& ~~~BitVec.ofNat 64 b) &&& (BitVec.ofNat 64 a &&& BitVec.ofNat 64 b) = 0#64 := by
    apply BitVec.eq_of_getLsbD_eq
    intro i hi
    simp only [BitVec.getLsbD_and, BitVec.getLsbD_not, BitVec.getLsbD_zero]
    cases (BitVec.ofNat 64 b).getLsbD i <;> simp
  have e2 : (BitVec.ofNat 64 a &&& ~~~BitVec.ofNat 64 b) ||| (BitVec.ofNat 64 a &&& BitVec.ofNat 64 b) = BitVec.ofNat 64 a := by
    apply BitVec.eq_of_getLsbD_eq
    intro i hi
    simp only [BitVec.getLsbD_and, BitVec.getLsbD_not, BitVec.getLsbD_or]
    cases (BitVec.ofNat 64 b).getLsbD i <;> simp [hi]
  have e3 := BitVec.add_eq_or_of_and_eq_zero _ _ e
  rw [e2] at e3
  have e4 := congrArg BitVec.toNat e3
  rw [BitVec.toNat_add, BitVec.toNat_and (x := BitVec.ofNat 64 a) (y := BitVec.ofNat 64 b), BitVec.toNat_ofNat, BitVec.toNat_ofNat, Nat.mod_eq_of_lt (a := a) (by omega), Nat.mod_eq_of_lt (a := b) (by omega)] at e4
  have h1 : a &&& b ≤ a := Nat.and_le_left
  have h2 : (BitVec.ofNat 64 a &&& ~~~BitVec.ofNat 64 b).toNat ≤ a := by
    rw [BitVec.toNat_and, BitVec.toNat_ofNat, Nat.mod_eq_of_lt (a := a) (by omega)]
    exact Nat.and_le_left
  have h3 : (BitVec.ofNat 64 a &&& ~~~BitVec.ofNat 64 b).toNat = a - (a &&& b) := by
    generalize (BitVec.ofNat 64 a &&& ~~~BitVec.ofNat 64 b).toNat = q at e4 h2
    omega
  show IntKind.u64.wrap (((BitVec.ofNat 64 a &&& ~~~BitVec.ofNat 64 b).toNat : Nat) : Int) = _
  rw [h3]
  exact IntWalk.u64_in _ ⟨by omega, by omega⟩
set_option maxRecDepth 100000 in
theorem low_all : ∀ a : Fin 64, ∀ b : Fin 64, bits .and .u64 (((64 * a.val + b.val : Nat)) : Int) (IntKind.u64.wrap (-(((64 * a.val + b.val : Nat)) : Int))) = ((lowN (64 * a.val + b.val) : Nat) : Int) ∧ lowN (64 * a.val + b.val) &&& restN (64 * a.val + b.val) = 0 ∧ (64 * a.val + b.val) - ((64 * a.val + b.val) &&& lowN (64 * a.val + b.val)) = restN (64 * a.val + b.val) ∧ (0 < 64 * a.val + b.val → 0 < lowN (64 * a.val + b.val)) := by decide +kernel
theorem low_of {s : Nat} (hs : s < 4096) : bits .and .u64 (s : Int) (IntKind.u64.wrap (-(s : Int))) = ((lowN s : Nat) : Int) ∧ lowN s &&& restN s = 0 ∧ s - (s &&& lowN s) = restN s ∧ (0 < s → 0 < lowN s) := by
  have e : 64 * (s / 64) + s % 64 = s := by omega
  have h := low_all ⟨s / 64, by omega⟩ ⟨s % 64, by omega⟩
  simp only [e] at h
  exact h
theorem low_add (s : Nat) : lowN s + restN s = s := by
  have h : s &&& (s - 1) ≤ s := Nat.and_le_left
  unfold lowN restN; omega

/-- All parts of the rest, from one on down. -/
def wloop (fit : Nat → Bool) (Wy : Nat → Int) (low rest : Nat) : Nat → Nat → Int → Int
  | 0, _, acc => acc
  | k + 1, s, acc => if s = 0 then (if fit (s + low) = true then wrap64 (acc + Wy (rest - s)) else acc) else wloop fit Wy low rest k ((s - 1) &&& rest) (if fit (s + low) = true then wrap64 (acc + Wy (rest - s)) else acc)
theorem wloop_fuel (fit : Nat → Bool) (Wy : Nat → Int) (low rest : Nat) : ∀ (k k' s : Nat) (acc : Int), s < k → s < k' → wloop fit Wy low rest k s acc = wloop fit Wy low rest k' s acc
  | 0, _, s, _, h, _ => by omega
  | _ + 1, 0, s, _, _, h => by omega
  | k + 1, k' + 1, s, acc, h, h' => by
    rw [wloop, wloop]
    by_cases e : s = 0
    · rw [if_pos e, if_pos e]
    · have : (s - 1) &&& rest ≤ s - 1 := Nat.and_le_left
      rw [if_neg e, if_neg e]
      exact wloop_fuel fit Wy low rest k k' _ _ (by omega) (by omega)

/-- What is known of the sets. -/
def Known (Mb : Nat) (Wy : Nat → Int) (L : List (Int × Int)) (W : World) : Prop := W.heap[Mb]? = some (mp .u64 .i64 L) ∧ look L 0 = some (Wy 0) ∧ ∀ (s : Nat) (v : Int), look L (s : Int) = some v → v = Wy s
theorem Known.kept {Mb : Nat} {Wy : Nat → Int} {L : List (Int × Int)} {A B : World} (h : Known Mb Wy L A) (hg : A.grownBy B none) : Known Mb Wy L B := ⟨blk_grown h.1 hg (by simp), h.2.1, h.2.2⟩
theorem Known.add {Mb : Nat} {Wy : Nat → Int} {L : List (Int × Int)} {A : World} (h : Known Mb Wy L A) {s : Nat} (hl : look L (s : Int) = none) : Known Mb Wy (L ++ [((s : Int), Wy s)]) (A.putObj Mb (mp .u64 .i64 (L ++ [((s : Int), Wy s)]))) := by
  refine ⟨put_same h.1 _, ?_, fun x v hx => ?_⟩
  · rw [look_snoc hl]
    split
    · rename_i e; rw [show s = 0 by omega]
    · exact h.2.1
  · rw [look_snoc hl] at hx
    split at hx
    · rename_i e
      rw [show x = s by omega]
      exact (Option.some.inj hx).symm
    · exact h.2.2 x v hx
theorem grown_trans {A B C : World} {row : Option Nat} (h : A.grownBy B row) (k : B.grownBy C row) : A.grownBy C row :=
  ⟨k.os.trans h.os, k.tape.trans h.tape, k.output.trans h.output, Nat.le_trans h.size k.size, fun b hb hne => (k.block b (Nat.lt_of_lt_of_le hb h.size) hne).trans (h.block b hb hne)⟩
theorem grown_dr (W : World) (q : Nat) : W.grownBy (W.drewN q) none := grown_of (pw_below_drewN (Below.refl _ W) q)
theorem grown_weak {A B : World} {row : Option Nat} (h : A.grownBy B none) : A.grownBy B row := ⟨h.os, h.tape, h.output, h.size, fun b hb _ => h.block b hb (by simp)⟩
theorem grown_put {A : World} {b : Nat} (o : Obj) : A.grownBy (A.putObj b o) (some b) :=
  ⟨rfl, rfl, rfl, by simp [World.putObj], fun i hi hne => World.putObj_heap_other (fun e => hne (by rw [e]))⟩

theorem is_boxed {W : World} {b Mb : Nat} {t : TypeId} {v : Value} {qk qv : IntKind} {L : List (Int × Int)} (hb : Boxed W b t v) (hm : W.heap[Mb]? = some (mp qk qv L)) : some b ≠ some Mb := by
  intro e
  obtain rfl := Option.some.inj e
  rw [show W.heap[b]? = _ from hb] at hm
  cases hm
theorem is_row {W : World} {b Mb : Nat} {o : Array Value} {t : TypeId} {sh : Nat × Nat} {qk qv : IntKind} {L : List (Int × Int)} (hb : W.heap[b]? = some (.cells o t sh)) (hm : W.heap[Mb]? = some (mp qk qv L)) : some b ≠ some Mb := by
  intro e
  obtain rfl := Option.some.inj e
  rw [hb] at hm
  cases hm

set_option maxHeartbeats 4000000 in
set_option maxRecDepth 100000 in
theorem ways_calls (K S R E Mb sb : Nat) (N : Nat) (room : Int) (n : Nat) (hn : n ≤ 12) (sums : List Int) (hsl : sums.length = 2 ^ n) (fit : Nat → Bool) (hfit : ∀ s : Nat, s < 2 ^ n → decide (rd sums (s : Int) ≤ room) = fit s)
    (Wy : Nat → Int) (hrec : ∀ s, 0 < s → s < 2 ^ n → Wy s = wloop fit Wy (lowN s) (restN s) (restN s + 1) (restN s) 0) :
    ∀ (M s : Nat) (L : List (Int × Int)) (w : World), s < M → s < 2 ^ n → Boxed w K 78 (.map (some Mb)) → Boxed w S 22 (.slice (some ⟨sb, 0, none⟩) (2 ^ n) (2 ^ n)) → Boxed w R 3 (.int .i64 room) →
      Boxed w E 79 (.func (.func 71) #[] #[.pointer (some ⟨K, 0, none⟩), .pointer (some ⟨S, 0, none⟩), .pointer (some ⟨R, 0, none⟩), .pointer (some ⟨E, 0, none⟩)]) →
      w.heap[sb]? = some (.cells (enc sums) 3 (0, 0)) → Known Mb Wy L w →
      Calls Try.prog 71 #[.int .u64 (s : Int), .pointer (some ⟨K, 0, none⟩), .pointer (some ⟨S, 0, none⟩), .pointer (some ⟨R, 0, none⟩), .pointer (some ⟨E, 0, none⟩)] w fun e w' => e = .returned (.int .i64 (Wy s)) ∧ (∃ L', Known Mb Wy L' w' ∧ ∀ x : Nat, (look L' (x : Int)).isSome = true → (look L (x : Int)).isSome = true ∨ x ≤ s) ∧ w.grownBy w' (some Mb) := by
  intro M
  induction M with
  | zero => intro s L w h; omega
  | succ M ih =>
    intro s L w hsM hs bK bS bR bE hrow hkn
    have hpow : 2 ^ n ≤ 4096 := Nat.le_trans (Nat.pow_le_pow_right (by decide) hn) (by decide)
    have hmix : Try.prog.follows .mixedOrders = true := by kernel_rfl
    obtain ⟨hm, hl0, hlv⟩ := hkn
    refine (callsIn_wide (n := N)).1 ?_
    have hcK := bK.cell
    have hlk := lookup_run (P := Try.prog) (w := w) (T := 78) Try.underlying78 Try.underlying77 (zero3 w) hm (s : Int)
    cases hl : look L (s : Int) with
    | some v =>
      obtain rfl := hlv s v hl
      have hlk1 := lookup_run1 (P := Try.prog) (w := w) (T := 78) Try.underlying78 Try.underlying77 (zero3 w) hm (s : Int)
      rw [hl] at hlk hlk1
      have hlk : (Instr.lookup 78 (Value.map (some Mb)) (Value.int IntKind.u64 (s : Int)) true).run Try.prog w = .ok (.tuple #[.int .i64 (Wy s), .bool true]) w := hlk
      have hlk1 : (Instr.lookup 78 (Value.map (some Mb)) (Value.int IntKind.u64 (s : Int)) false).run Try.prog w = .ok (.int .i64 (Wy s)) w := hlk1
      have HK : Aside0 (Known Mb Wy L w) := ⟨⟨hm, hl0, hlv⟩⟩
      clear hl hm hl0 hlv ih hrec hfit bK bS bR bE hrow
      refine callsIn_of_wp Try.func71 rfl trivial ?_ rfl
      simp only [Try.ntmps71, List.size_toArray, List.length_cons, List.length_nil, Nat.reduceAdd, Nat.reduceSub, Array.replicate_succ, Array.replicate_zero, List.push_toArray, List.append_toArray, List.nil_append, List.cons_append]
      gi_wp2
      refine bodyPost_ret (results_tmp rfl _ _ _) rfl ?_
      exact ⟨rfl, ⟨L, HK.out, fun x hx => .inl hx⟩, World.grownBy.refl _ _⟩
    | none =>
      rw [hl] at hlk
      have hlk : (Instr.lookup 78 (Value.map (some Mb)) (Value.int IntKind.u64 (s : Int)) true).run Try.prog w = .ok (.tuple #[.int .i64 0, .bool false]) w := hlk
      have h0 : 0 < s := by
        rcases Nat.eq_zero_or_pos s with e | e
        · subst e; rw [show ((0 : Nat) : Int) = 0 from rfl, hl0] at hl; cases hl
        · exact e
      obtain ⟨w1, w2, w3, w4⟩ := low_of (s := s) (by omega)
      have hla := low_add s
      have hbn := bits_andNot s (lowN s) (by omega) (by omega)
      rw [w3] at hbn
      have HREC := Aside0.mk (hrec s h0 hs)
      have w4 := w4 h0
      generalize hlo : lowN s = low at *
      generalize hre : restN s = rest at *
      refine callsIn_of_wp Try.func71 rfl trivial ?_ rfl
      simp only [Try.ntmps71, List.size_toArray, List.length_cons, List.length_nil, Nat.reduceAdd, Nat.reduceSub, Array.replicate_succ, Array.replicate_zero, List.push_toArray, List.append_toArray, List.nil_append, List.cons_append]
      gi_wp2
      have hll : look L (s : Int) = none := hl
      have HREL := Aside0.mk hl0
      have HLV := Aside0.mk hlv
      have HLN := Aside0.mk hll
      have HM := Aside0.mk hm
      have HKN : Aside0 (Known Mb Wy L w) := ⟨⟨hm, hl0, hlv⟩⟩
      have HIH := Aside0.mk ih
      have HK := Aside0.mk bK
      have HS := Aside0.mk bS
      have HR := Aside0.mk bR
      have HE := Aside0.mk bE
      have HRW := Aside0.mk hrow
      have nK := is_boxed bK hm
      have nS := is_boxed bS hm
      have nR := is_boxed bR hm
      have nE := is_boxed bE hm
      have nW := is_row hrow hm
      have HW2 := Aside0.mk w2
      have HFIT := Aside0.mk hfit
      clear hl0 hlv hl hll hm ih bK bS bR bE hrow hfit hlk hcK w1 w2 w3 hbn hrec
      gi_loopw [11, 12] (fun u v wr => ∃ (acc : Int) (t : Nat), u = .int .i64 acc ∧ v = .int .u64 (t : Int) ∧ Aside0 (t ≤ rest ∧ t &&& rest = t ∧ wloop fit Wy low rest (t + 1) t acc = Wy s) ∧ Aside0 (∃ L', Known Mb Wy L' wr ∧ ∀ x : Nat, (look L' (x : Int)).isSome = true → (look L (x : Int)).isSome = true ∨ x < s) ∧ Aside0 (w.grownBy wr (some Mb)))
        (fun _ v _ => (intOf v).toNat)
      case atStart => exact ⟨0, rest, rfl, rfl, ⟨Nat.le_refl _, Nat.and_self _, HREC.out.symm⟩, ⟨L, HKN.out, fun x hx => .inl hx⟩, ⟨World.grownBy.refl _ _⟩⟩
      case round =>
        obtain ⟨acc, t, rfl, rfl, HT, HKX, HG⟩ := hrel
        obtain ⟨L1, hkn1, hkx1⟩ := HKX.out
        have HKN1 := Aside0.mk hkn1
        have HKX1 := Aside0.mk hkx1
        clear hkn1 hkx1 HKX
        obtain ⟨t1, t2, t3⟩ := HT.out
        have bK := HK.out.kept HG.out nK
        have bS := HS.out.kept HG.out nS
        have bR := HR.out.kept HG.out nR
        have bE := HE.out.kept HG.out nE
        have hrow := blk_grown HRW.out HG.out nW
        have hcS := bS.cell
        have hcR := bR.cell
        have hcE := bE.cell
        have hxc := cell_of_encL hrow (i := t + low) (by omega)
        have hor := bits_or t low (by
          have : t &&& low = (t &&& rest) &&& low := by rw [t2]
          rw [this, Nat.and_assoc, Nat.and_comm rest low, HW2.out, Nat.and_zero]) (by omega)
        have han := bits_andNot rest t (by omega) (by omega)
        rw [Nat.and_comm rest t, t2] at han
        have hft := HFIT.out (t + low) (by omega)
        rw [show rd sums ((t + low : Nat) : Int) = sums.getD (t + low) 0 from rfl] at hft
        generalize sums.getD (t + low) 0 = xv at hxc hft
        have hi1 : (0 : Int) ≤ ((t + low : Nat) : Int) := Int.natCast_nonneg _
        have hi2 : ((t + low : Nat) : Int) < ((2 ^ n : Nat) : Int) := by omega
        have e0 : wloop fit Wy low rest (t + 1) t acc = if t = 0 then (if fit (t + low) = true then wrap64 (acc + Wy (rest - t)) else acc) else wloop fit Wy low rest t ((t - 1) &&& rest) (if fit (t + low) = true then wrap64 (acc + Wy (rest - t)) else acc) := by rw [wloop]
        rw [e0] at t3
        have HT3 := Aside0.mk t3
        clear t3 e0
        have hm1 : 0 < t → bits .and .u64 ((t : Int) - 1) (rest : Int) = (((t - 1) &&& rest : Nat) : Int) := fun h => by
          rw [show (t : Int) - 1 = ((t - 1 : Nat) : Int) by omega]
          exact bits_and (t - 1) rest (by omega) (by omega)
        have hnx : (t - 1) &&& rest ≤ t - 1 := Nat.and_le_left
        have hnr : ((t - 1) &&& rest) &&& rest = (t - 1) &&& rest := by rw [Nat.and_assoc, Nat.and_self]
        have HQN := Aside0.mk hnx
        have HQR := Aside0.mk hnr
        clear hnx hnr
        by_cases ht0 : t = 0
        · have hz : ((t : Int) == 0) = true := beq_iff_eq.mpr (by omega)
          have HT0 := Aside0.mk ht0
          rw [if_pos ht0] at HT3
          clear ht0
          cases hf : fit (t + low) with
          | true =>
            rw [hf] at hft
            rw [hf, if_pos rfl] at HT3
            gi_wp2
            gi_big_quiet_th_o (fail)
            have hgd := grown_dr wr nq
            have hgq : wr.grownBy (wr.drewN nq) (some Mb) := grown_weak hgd
            have hcE2 := (bE.kept hgd (by simp)).cell
            have hcall := HIH.out (rest - t) L1 (wr.drewN nq) (by omega) (by omega) (bK.kept hgd (by simp)) (bS.kept hgd (by simp)) (bR.kept hgd (by simp)) (bE.kept hgd (by simp)) (blk_grown hrow hgd (by simp)) (HKN1.out.kept hgd)
            have HCL := Aside0.mk ((callsIn_wide (n := N - 1)).2 hcall)
            have bK2 := bK.kept hgd (by simp)
            have HG2 := Aside0.mk (grown_trans HG.out hgq)
            clear hcall hgd hgq
            gi_wp2
            refine ⟨trivial, fun h => absurd h (by decide), HCL.out.mono ?_⟩
            rintro e w5 ⟨rfl, ⟨L5, hk5, hx5⟩, hg5⟩
            have hx6 : ∀ x : Nat, (look L5 (x : Int)).isSome = true → (look L (x : Int)).isSome = true ∨ x < s := fun x hx => by
              rcases hx5 x hx with h | h
              · exact HKX1.out x h
              · right; omega
            have bK5 := bK2.kept hg5 nK
            have hg6 := grown_trans HG2.out hg5
            have HX6 := Aside0.mk hx6
            have HK5 := Aside0.mk hk5
            have HG6 := Aside0.mk hg6
            have hac := HT3.out
            have hac2 : IntKind.i64.wrap (acc + Wy (rest - t)) = Wy s := (i64_w _).trans hac
            clear hx5 hx6 hk5 hg5 hg6
            have hln : look L5 (s : Int) = none := by
              cases hq : look L5 (s : Int) with
              | none => rfl
              | some v =>
                rcases HX6.out s (by rw [hq]; rfl) with h | h
                · rw [HLN.out] at h; cases h
                · omega
            have hup := update_run (P := Try.prog) (w := w5) (T := 78) Try.underlying78 Try.underlying77 HK5.out.1 (s : Int) (Wy s) hln
            have hka := HK5.out.add hln
            have hlk1 := lookup_run1 (P := Try.prog) (w := (w5).putObj Mb (mp .u64 .i64 (L5 ++ [((s : Int), Wy s)]))) (T := 78) Try.underlying78 Try.underlying77 (zero3 _) hka.1 (s : Int)
            have hsn : look (L5 ++ [((s : Int), Wy s)]) (s : Int) = some (Wy s) := by rw [look_snoc hln, if_pos rfl]
            rw [hsn] at hlk1
            simp only [Option.getD_some] at hlk1
            have hcK2 := (bK5).cell
            have hcK3 := ((bK5).kept (grown_put (mp .u64 .i64 (L5 ++ [((s : Int), Wy s)]))) nK).cell
            have HKA := Aside0.mk hka
            have HGA : Aside0 (w.grownBy ((w5).putObj Mb (mp .u64 .i64 (L5 ++ [((s : Int), Wy s)]))) (some Mb)) := ⟨grown_trans HG6.out (grown_put _)⟩
            have HKY : Aside0 (∀ x : Nat, (look (L5 ++ [((s : Int), Wy s)]) (x : Int)).isSome = true → (look L (x : Int)).isSome = true ∨ x ≤ s) := ⟨fun x hx => by
              rw [look_snoc hln] at hx
              split at hx
              · right; omega
              · rcases HX6.out x hx with h | h
                · exact .inl h
                · right; omega⟩
            clear hka hln hsn
            generalize (w5).putObj Mb (mp .u64 .i64 (L5 ++ [((s : Int), Wy s)])) = W2 at *
            gi_wp2
            refine bodyPost_ret (results_tmp rfl _ _ _) rfl ?_
            exact ⟨rfl, ⟨_, HKA.out, HKY.out⟩, HGA.out⟩
          | false =>
            rw [hf] at hft
            rw [hf, if_neg (by decide)] at HT3
            obtain rfl : acc = Wy s := HT3.out
            gi_wp2
            gi_big_quiet_th_o (fail)
            have hgd := grown_dr wr nq
            have HK5 := Aside0.mk (HKN1.out.kept hgd)
            have bK5 := bK.kept hgd (by simp)
            have HG6 := Aside0.mk (grown_trans HG.out (grown_weak hgd))
            clear hgd
            have hln : look L1 (s : Int) = none := by
              cases hq : look L1 (s : Int) with
              | none => rfl
              | some v =>
                rcases HKX1.out s (by rw [hq]; rfl) with h | h
                · rw [HLN.out] at h; cases h
                · omega
            have hup := update_run (P := Try.prog) (w := wr.drewN nq) (T := 78) Try.underlying78 Try.underlying77 HK5.out.1 (s : Int) (Wy s) hln
            have hka := HK5.out.add hln
            have hlk1 := lookup_run1 (P := Try.prog) (w := (wr.drewN nq).putObj Mb (mp .u64 .i64 (L1 ++ [((s : Int), Wy s)]))) (T := 78) Try.underlying78 Try.underlying77 (zero3 _) hka.1 (s : Int)
            have hsn : look (L1 ++ [((s : Int), Wy s)]) (s : Int) = some (Wy s) := by rw [look_snoc hln, if_pos rfl]
            rw [hsn] at hlk1
            simp only [Option.getD_some] at hlk1
            have hcK2 := (bK5).cell
            have hcK3 := ((bK5).kept (grown_put (mp .u64 .i64 (L1 ++ [((s : Int), Wy s)]))) nK).cell
            have HKA := Aside0.mk hka
            have HGA : Aside0 (w.grownBy ((wr.drewN nq).putObj Mb (mp .u64 .i64 (L1 ++ [((s : Int), Wy s)]))) (some Mb)) := ⟨grown_trans HG6.out (grown_put _)⟩
            have HKY : Aside0 (∀ x : Nat, (look (L1 ++ [((s : Int), Wy s)]) (x : Int)).isSome = true → (look L (x : Int)).isSome = true ∨ x ≤ s) := ⟨fun x hx => by
              rw [look_snoc hln] at hx
              split at hx
              · right; omega
              · rcases HKX1.out x hx with h | h
                · exact .inl h
                · right; omega⟩
            clear hka hln hsn
            generalize (wr.drewN nq).putObj Mb (mp .u64 .i64 (L1 ++ [((s : Int), Wy s)])) = W2 at *
            gi_wp2
            refine bodyPost_ret (results_tmp rfl _ _ _) rfl ?_
            exact ⟨rfl, ⟨_, HKA.out, HKY.out⟩, HGA.out⟩
        · have hz : ((t : Int) == 0) = false := beq_eq_false_iff_ne.mpr (by omega)
          have hm2 := hm1 (by omega)
          have hw1 : IntKind.u64.wrap ((t : Int) - 1) = (t : Int) - 1 := IntWalk.u64_in _ ⟨by omega, by omega⟩
          have HT0 := Aside0.mk ht0
          rw [if_neg ht0] at HT3
          clear ht0 hm1
          cases hf : fit (t + low) with
          | true =>
            rw [hf] at hft
            rw [hf, if_pos rfl] at HT3
            gi_wp2
            gi_big_quiet_th_o (fail)
            have hgd := grown_dr wr nq
            have hgq : wr.grownBy (wr.drewN nq) (some Mb) := grown_weak hgd
            have hcE2 := (bE.kept hgd (by simp)).cell
            have hcall := HIH.out (rest - t) L1 (wr.drewN nq) (by omega) (by omega) (bK.kept hgd (by simp)) (bS.kept hgd (by simp)) (bR.kept hgd (by simp)) (bE.kept hgd (by simp)) (blk_grown hrow hgd (by simp)) (HKN1.out.kept hgd)
            have HCL := Aside0.mk ((callsIn_wide (n := N - 1)).2 hcall)
            have HG2 := Aside0.mk (grown_trans HG.out hgq)
            clear hcall hgd hgq
            gi_wp2
            refine ⟨trivial, fun h => absurd h (by decide), HCL.out.mono ?_⟩
            rintro e w5 ⟨rfl, ⟨L5, hk5, hx5⟩, hg5⟩
            have HX6 : Aside0 (∀ x : Nat, (look L5 (x : Int)).isSome = true → (look L (x : Int)).isSome = true ∨ x < s) := ⟨fun x hx => by
              rcases hx5 x hx with h | h
              · exact HKX1.out x h
              · right; omega⟩
            have HK5 := Aside0.mk hk5
            have HG6 := Aside0.mk (grown_trans HG2.out hg5)
            clear hx5 hk5 hg5
            gi_wp2
            refine ⟨⟨_, (t - 1) &&& rest, rfl, rfl, ⟨by have := HQN.out; omega, HQR.out, ?_⟩, ⟨L5, HK5.out, HX6.out⟩, HG6⟩, ?_⟩
            · exact (wloop_fuel fit Wy low rest _ t _ _ (Nat.lt_succ_self _) (by have := HQN.out; have := HT0.out; omega)).trans HT3.out
            · have := HQN.out; have := HT0.out
              simp [intOf]; omega
          | false =>
            rw [hf] at hft
            rw [hf, if_neg (by decide)] at HT3
            gi_wp2
            gi_big_quiet_th_o (fail)
            have hgd := grown_dr wr nq
            have HK5 := Aside0.mk (HKN1.out.kept hgd)
            have HG6 := Aside0.mk (grown_trans HG.out (grown_weak hgd))
            clear hgd
            gi_wp2
            refine ⟨⟨_, (t - 1) &&& rest, rfl, rfl, ⟨by have := HQN.out; omega, HQR.out, ?_⟩, ⟨L1, HK5.out, HKX1.out⟩, HG6⟩, ?_⟩
            · exact (wloop_fuel fit Wy low rest _ t _ _ (Nat.lt_succ_self _) (by have := HQN.out; have := HT0.out; omega)).trans HT3.out
            · have := HQN.out; have := HT0.out
              simp [intOf]; omega

end Go.Proofs.Ytoecbchfdgbliaa.Hand
