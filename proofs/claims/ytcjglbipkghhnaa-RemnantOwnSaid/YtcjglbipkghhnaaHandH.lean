-- The iterator over right packings: packings (68), its closures (85, 86).
import Derived.Test.YtcjglbipkghhnaaHandG
import Derived.Test.YtcjglbipkghhnaaHandN
namespace Go.Proofs.Ytcjglbipkghhnaa.Hand
open Go.RowKit Go.Shelf Go.Proofs.Ytcjglbipkghhnaa.P Go.Proofs.YtcjglbipkghhnaaW.PrintWords Go.Proofs.YtcjglbipkghhnaaW.PrintLast Go.Proofs.YtcjglbipkghhnaaW.PrintMore
attribute [local go_sem] Oper.semAt_some
set_option linter.unusedVariables false
set_option linter.unusedSimpArgs false

/-- A list that begins a packing, with the number of its boxes and their loads. -/
structure Part (room : Int) (ps : List Int) (most : Nat) (l : List Int) (n : Nat) (x : List Int) : Prop where
  len : l.length ≤ ps.length
  box : boxF 0 0 l = ((n : Int), true)
  few : n ≤ most
  xl : x.length = 12
  load : ∀ b : Nat, 0 ≤ x.getD b 0 ∧ x.getD b 0 ≤ room
  sum : ∀ b : Nat, b < 12 → x.getD b 0 = ((List.range l.length).map fun (i : Nat) => if rd l (i : Int) = (b : Int) then rd ps (i : Int) else 0).sum
/-- The packings that go on from a list, in the order of the walk. -/
def packs (room : Int) (ps : List Int) (most : Nat) : Nat → List Int → Nat → List Int → List (List Int)
  | 0, l, _, _ => [l]
  | d + 1, l, n, x => (List.range (min (n + 1) most)).flatMap fun b => if x.getD b 0 + rd ps (l.length : Int) > room then [] else packs room ps most d (l ++ [(b : Int)]) (max n (b + 1)) (x.set b (x.getD b 0 + rd ps (l.length : Int)))

/-- An element: a row of its own behind block X, that is a right packing. -/
def VP (room : Int) (ps : List Int) (most X : Nat) (x : Elem) (W : World) : Prop :=
  Kd.R (Kd.int .i64) 3 W (X + 1) (fun _ => True) x.val x.2.2 ∧ x.2.2.length = ps.length ∧ ∃ n y, Part room ps most x.2.2 n y

theorem packs_in (F : Fence) (n : Nat) (h : F.fn 69) (hro : F.round = none) (room : Int) (A : Option Addr) (l c : Nat) (most : Int) (w : World) :
    CallsIn F n Try.prog 69 #[.int .i64 room, .slice A l c, .int .i64 most] w fun e w' => e = .returned (.func (.func 86) #[] #[.pointer (some ⟨w.heap.size + 1, 0, none⟩), .pointer (some ⟨w.heap.size + 1 + 1, 0, none⟩), .pointer (some ⟨w.heap.size, 0, none⟩)]) ∧ w' = ((w.alloc (.cells #[.int .i64 room] 3)).alloc (.cells #[.slice A l c] 22)).alloc (.cells #[.int .i64 most] 3) := by
  refine callsIn_of_wp Try.func69 rfl h ?_ hro
  simp only [Try.ntmps69, List.size_toArray, List.length_cons, List.length_nil, Nat.reduceAdd, Nat.reduceSub, Array.replicate_succ, Array.replicate_zero, List.push_toArray, List.append_toArray, List.nil_append, List.cons_append]
  gi_wp2
  go_ret
  exact ⟨rfl, rfl⟩

theorem wpAny_act {P : Program} {md : Region.Mode} {ops : Array Oper} {Q : Exit → Act → World → Prop} {fuel : Nat} {listed : Array Bool} {a a' : Act} {w : World} (h : a = a') (hw : wpAny P md ops Q fuel listed a' w) : wpAny P md ops Q fuel listed a w := h ▸ hw
theorem take_max {P : Program} {md : Region.Mode} {ops : Array Oper} {Q : Exit → Act → World → Prop} {fuel i : Nat} {listed : Array Bool} {o : Oper} {a : Act} {w : World} {v1 v2 v' : Value} (hi : ops[i]? = some o)
    (hn : Region.noSelect ops = true) (hf : Region.free md ops listed i = true) (hr : (Region.ready md ops listed).contains i = true) (hQ : ∀ c a w, Q (.panic c) (a.put o.dst v') w → Q (.panic c) a w)
    (hg : o.guard = none) (s x : Operand) (t : TypeId) (hop : o.op = Op.call { callee := Callee.builtin Builtin.max, args := #[s, x], argTypes := #[t, t] })
    (hs : a.eval s = v1) (hx : a.eval x = v2) (hrun : ∀ ats ty, Builtin.max_ ats ty #[v1, v2] = pure v') (h : wpAny P md ops Q fuel (listed.setIfInBounds i true) (a.put o.dst v') w) : wpAny P md ops Q (fuel + 1) listed a w := by
  refine wpAny_take (v := v') hi hn hf hr hQ (.inl ⟨by simp [Region.wanted, hg], fun w_ => ?_⟩) h
  simp [execOp, hop, resolve, invoke, builtin, hs, hx, hrun, Result.andThen]
theorem Kp.mono {n₀ m : Nat} {A B : World} (h : Kp n₀ A B) (hm : n₀ ≤ m) : Kp m A B := ⟨h.1, fun b cs t s hb hc => h.2 b cs t s (by omega) hc⟩
theorem grown_drewN (W : World) (q : Nat) : W.grownBy (W.drewN q) none := grown_of (pw_below_drewN (Below.refl _ W) q)
/-- The load of a box is put back. -/
theorem kp_back {n₀ X k nq : Nat} {x : List Int} {xk v : Int} {wr W4 W5 : World} (hX : wr.heap[X]? = some (.cells (enc x) 74 (0, 0))) (hk : k < x.length) (hxk : x.getD k 0 = xk)
    (hg : ((wr.drewN nq).setCell ⟨X, k, none⟩ (.int .i64 v)).grownBy W4 none) (h5 : Kp n₀ W4 W5) (hn : n₀ ≤ X) : W5.heap[X]? = some (.cells (enc (x.set k v)) 74 (0, 0)) ∧ Kp n₀ wr (W5.setCell ⟨X, k, none⟩ (.int .i64 xk)) := by
  have h2 : ((wr.drewN nq).setCell ⟨X, k, none⟩ (.int .i64 v)).heap[X]? = some (.cells (enc (x.set k v)) 74 (0, 0)) := by
    refine (heap_setCell_same _ X k (enc x) 74 _ (by simpa using hX)).trans ?_
    rw [enc_set]
  have h4 := blk_grown h2 hg (by simp)
  have h6 := h5.2 X _ _ _ hn h4
  refine ⟨h6, ?_, fun b cs t s hb hc => ?_⟩
  · have e1 := hg.size
    have e2 := h5.1
    have e3 : ((wr.drewN nq).setCell ⟨X, k, none⟩ (.int .i64 v)).heap.size = wr.heap.size := by simp [World.setCell]
    have e4 : (W5.setCell ⟨X, k, none⟩ (.int .i64 xk)).heap.size = W5.heap.size := by simp [World.setCell]
    omega
  · by_cases e : b = X
    · subst e
      rw [hX] at hc
      refine (heap_setCell_same _ b k _ 74 _ h6).trans ?_
      rw [enc_set, List.set_set, ← hxk, ← hc]
      congr 3
      rw [List.getD_eq_getElem?_getD, List.getElem?_eq_getElem hk, Option.getD_some, List.set_getElem_self]
    · refine (Below.heap_setCell W5 ⟨X, k, none⟩ _ b e).trans (h5.2 b cs t s hb (blk_grown ?_ hg (by simp)))
      exact (Below.heap_setCell (wr.drewN nq) ⟨X, k, none⟩ _ b e).trans (by simpa using hc)

theorem flat_prefix {β : Type} (F : Nat → List β) {k m : Nat} (hk : k < m) {q : List β} (h : q <+: F k) : (List.range k).flatMap F ++ q <+: (List.range m).flatMap F := by
  obtain ⟨c, rfl⟩ : ∃ c, m = k + 1 + c := ⟨m - k - 1, by omega⟩
  rw [List.range_add, List.range_succ, List.flatMap_append, List.flatMap_append, List.flatMap_singleton, List.append_assoc]
  exact (List.prefix_append_right_inj _).mpr (h.trans (List.prefix_append _ _))
theorem boxF_snoc {least : Int} : ∀ (l : List Int) (n m b : Int), boxF least n l = (m, true) → least ≤ b → b ≤ m → boxF least n (l ++ [b]) = (mx m (b + 1), true)
  | [], n, m, b, h, h1, h2 => by
    rw [boxF] at h
    injection h with h _
    subst h
    rw [List.nil_append, boxF, if_pos ⟨h1, h2⟩, boxF]
  | a :: l, n, m, b, h, h1, h2 => by
    rw [List.cons_append, boxF]
    rw [boxF] at h
    split at h
    · rename_i hc
      rw [if_pos hc]
      exact boxF_snoc l _ m b h h1 h2
    · cases h
theorem Part.step {room : Int} {ps : List Int} {most n k : Nat} {l x : List Int} (h : Part room ps most l n x) (hl : l.length < ps.length) (hk : k ≤ n) (hkm : k < most) (hm : most ≤ 12) (hs : 0 ≤ rd ps (l.length : Int)) (hf : x.getD k 0 + rd ps (l.length : Int) ≤ room) :
    Part room ps most (l ++ [(k : Int)]) (max n (k + 1)) (x.set k (x.getD k 0 + rd ps (l.length : Int))) := by
  obtain ⟨h1, h2, h3, h4, h5, h6⟩ := h
  have hget : ∀ b : Nat, (x.set k (x.getD k 0 + rd ps (l.length : Int))).getD b 0 = if k = b then x.getD k 0 + rd ps (l.length : Int) else x.getD b 0 := fun b => by
    rw [List.getD_eq_getElem?_getD, List.getElem?_set]
    split
    · rw [if_pos (by omega)]; rfl
    · rw [← List.getD_eq_getElem?_getD]
  refine ⟨by simp; omega, ?_, by omega, by simp [h4], fun b => ?_, fun b hb => ?_⟩
  · rw [boxF_snoc l 0 n k h2 (by omega) (by omega)]
    congr 1
    unfold mx
    split <;> omega
  · rw [hget]
    have h7 := h5 b
    have h8 := h5 k
    split <;> omega
  · rw [hget, List.length_append, List.length_singleton, List.range_succ, List.map_append, List.sum_append]
    have e1 : (List.range l.length).map (fun (i : Nat) => if rd (l ++ [(k : Int)]) (i : Int) = (b : Int) then rd ps (i : Int) else 0) = (List.range l.length).map fun (i : Nat) => if rd l (i : Int) = (b : Int) then rd ps (i : Int) else 0 := by
      refine List.map_congr_left fun i hi => ?_
      have hi' := List.mem_range.1 hi
      have : rd (l ++ [(k : Int)]) (i : Int) = rd l (i : Int) := by
        unfold rd; rw [Int.toNat_natCast, List.getD_eq_getElem?_getD, List.getElem?_append_left hi', ← List.getD_eq_getElem?_getD]
      rw [this]
    have e2 : rd (l ++ [(k : Int)]) (l.length : Int) = (k : Int) := by unfold rd; simp
    rw [e1, ← h6 b hb, List.map_cons, List.map_nil, List.sum_cons, List.sum_nil, e2]
    by_cases e : k = b
    · subst e; rw [if_pos rfl, if_pos rfl]; omega
    · rw [if_neg e, if_neg (by omega)]; omega

set_option maxHeartbeats 40000000 in
set_option maxRecDepth 100000 in
theorem pk_calls (n₀ lr Y P M X R E : Nat) (N : Nat) (hP₀ : n₀ ≤ P) (hM₀ : n₀ ≤ M) (hR₀ : n₀ ≤ R) (hY₀ : n₀ ≤ Y) (hX₀ : n₀ ≤ X) (hE₀ : n₀ ≤ E) (hXne : P ≠ X ∧ M ≠ X ∧ R ≠ X ∧ Y ≠ X ∧ E ≠ X) (room : Int) (hr : 1 ≤ room ∧ room ≤ 100) (ps : List Int) (hps : ∀ p ∈ ps, 1 ≤ p ∧ p ≤ room) (hlen : ps.length ≤ 12) (AP : Option Addr) (cP : Nat) (most : Nat) (hmost : most ≤ 12)
    (J Jx : List Elem → World → Prop) (hJ : ∀ s W W', J s W → W.grownBy W' none → J s W') (hJx : ∀ s W W', Jx s W → W.grownBy W' none → Jx s W') (hLJ : Loose X J) (hLx : Loose X Jx) (hQ : ∀ s W, J s W → Kd.C (Kd.int .i64) W AP ps.length ps)
    (hYd : ∀ pre (x : Elem) W, J pre W → VP room ps most X x W → ∀ m, YieldAt Fence.wide m Try.prog lr #[x.val] W fun e W' => (e = .returned (.bool true) ∧ J (pre ++ [x]) W' ∧ Kp n₀ W W') ∨ (e = .returned (.bool false) ∧ Jx (pre ++ [x]) W' ∧ Kp n₀ W W')) :
    ∀ (d n : Nat) (l : List Int) (A : Option Addr) (c : Nat) (x : List Int) (pre : List Elem) (W : World), l.length + d = ps.length → Kd.R (Kd.int .i64) 3 W (X + 1) (fun _ => True) (.slice A l.length c) l → Part room ps most l n x →
      Boxed W P 22 (.slice AP ps.length cP) → Boxed W Y 87 (.func (.yield lr) #[] #[]) → Boxed W M 3 (.int .i64 (most : Int)) → Boxed W R 3 (.int .i64 room) →
      Boxed W E 88 (.func (.func 87) #[] #[.pointer (some ⟨P, 0, none⟩), .pointer (some ⟨Y, 0, none⟩), .pointer (some ⟨M, 0, none⟩), .pointer (some ⟨X, 0, none⟩), .pointer (some ⟨R, 0, none⟩), .pointer (some ⟨E, 0, none⟩)]) →
      W.heap[X]? = some (.cells (enc x) 74 (0, 0)) → n₀ ≤ W.heap.size → J pre W →
      Calls Try.prog 87 #[.slice A l.length c, .int .i64 (n : Int), .pointer (some ⟨P, 0, none⟩), .pointer (some ⟨Y, 0, none⟩), .pointer (some ⟨M, 0, none⟩), .pointer (some ⟨X, 0, none⟩), .pointer (some ⟨R, 0, none⟩), .pointer (some ⟨E, 0, none⟩)] W fun e W' =>
        (e = .returned (.bool true) ∧ ∃ xs, J (pre ++ xs) W' ∧ xs.map (·.2.2) = packs room ps most d l n x ∧ Kp n₀ W W') ∨ (e = .returned (.bool false) ∧ ∃ q, Jx (pre ++ q) W' ∧ q.map (·.2.2) <+: packs room ps most d l n x ∧ Kp n₀ W W') := by
  intro d
  induction d with
  | zero =>
    intro n l A c x pre W hd hV hpt bP bY bM bR bE hx hn0 h0
    refine (callsIn_wide (n := N)).1 ?_
    have hy0 := hYd pre (A, c, l) W h0 ⟨hV, by dsimp only; omega, n, x, hpt⟩ (N - 1)
    have hcY := bY.cell
    have hcP := bP.cell
    have hll : ((l.length : Int) == (ps.length : Int)) = true := beq_iff_eq.mpr (by omega)
    obtain ⟨fn, tmps, assign, body, hy, hR⟩ := hy0
    dsimp only [Elem.val] at hy
    clear hYd
    refine callsIn_of_wp Try.func87 rfl trivial ?_ rfl
    simp only [Try.ntmps87, List.size_toArray, List.length_cons, List.length_nil, Nat.reduceAdd, Nat.reduceSub, Array.replicate_succ, Array.replicate_zero, List.push_toArray, List.append_toArray, List.nil_append, List.cons_append]
    gi_wp2
    refine ⟨fun h => absurd h (by decide), hR.mono ?_⟩
    rintro e W3 (⟨rfl, hJ3, hk3⟩ | ⟨rfl, hJ3, hk3⟩)
    · gi_wp2
      refine bodyPost_ret (results_tmp rfl _ _ _) rfl ?_
      exact .inl ⟨rfl, [(A, c, l)], hJ3, rfl, hk3⟩
    · gi_wp2
      refine bodyPost_ret (results_tmp rfl _ _ _) rfl ?_
      exact .inr ⟨rfl, [(A, c, l)], hJ3, List.prefix_refl _, hk3⟩
  | succ d ih =>
    intro n l A c x pre W hd hV hpt bP bY bM bR bE hx hn0 h0
    refine (callsIn_wide (n := N)).1 ?_
    have hcP := bP.cell
    have hcM := bM.cell
    have hll : ((l.length : Int) == (ps.length : Int)) = false := beq_eq_false_iff_ne.mpr (by omega)
    obtain ⟨ad, e, g0⟩ := Kd.at_int (hQ _ _ h0) (l.length : Int) (by omega) (by omega)
    cases e
    rw [Int.toNat_natCast] at g0
    have hmix : Try.prog.follows .mixedOrders = true := by kernel_rfl
    have hlc : l.length ≤ c := (Kd.R_reads' hV).2.1
    have hnl : n ≤ most := hpt.few
    have hw1 : IntKind.i64.wrap ((n : Int) + 1) = (n : Int) + 1 := IntWalk.i64_in _ ⟨by omega, by omega⟩
    obtain ⟨lim, HLIM⟩ : ∃ lim, Aside0 (lim = min (n + 1) most) := ⟨_, ⟨rfl⟩⟩
    have hlm : lim ≤ 12 ∧ lim ≤ most ∧ lim ≤ n + 1 := by have := HLIM.out; omega
    have hmn : ∀ ats ty, Builtin.min_ ats ty #[.int .i64 ((n : Int) + 1), .int .i64 (most : Int)] = pure (.int .i64 (lim : Int)) := fun ats ty => by
      rw [min_two, min2_int]
      have := HLIM.out
      split <;> (simp only [pure_bind]; congr 2; omega)
    have HV := Aside0.mk hV
    have HI := Aside0.mk ih
    have HPT := Aside0.mk hpt
    have HP := Aside0.mk bP
    have HY := Aside0.mk bY
    have HM := Aside0.mk bM
    have HR := Aside0.mk bR
    have HE := Aside0.mk bE
    have HX := Aside0.mk hx
    have HJ := Aside0.mk hJ
    have HJx := Aside0.mk hJx
    have HLJ := Aside0.mk hLJ
    have HLx := Aside0.mk hLx
    have H0 := Aside0.mk h0
    clear hV ih hpt bP bY bM bR bE hx hJ hJx hLJ hLx h0 hYd hQ
    refine callsIn_of_wp Try.func87 rfl trivial ?_ rfl
    simp only [Try.ntmps87, List.size_toArray, List.length_cons, List.length_nil, Nat.reduceAdd, Nat.reduceSub, Array.replicate_succ, Array.replicate_zero, List.push_toArray, List.append_toArray, List.nil_append, List.cons_append]
    gi_wp2
    gi_loopw [31] (fun u wr => ∃ (k : Nat) (xs : List Elem), u = .int .i64 (k : Int) ∧ Aside0 (k ≤ lim ∧ xs.map (·.2.2) = (List.range k).flatMap fun b => if x.getD b 0 + rd ps (l.length : Int) > room then [] else packs room ps most d (l ++ [(b : Int)]) (max n (b + 1)) (x.set b (x.getD b 0 + rd ps (l.length : Int)))) ∧ Aside0 (J (pre ++ xs) wr) ∧ Aside0 (Kp n₀ W wr))
      (fun i _ => lim - (intOf i).toNat)
    case atStart => exact ⟨0, [], rfl, ⟨by omega, rfl⟩, by rw [List.append_nil]; exact H0, ⟨Kp.refl _ _⟩⟩
    case round =>
      obtain ⟨k, xs, rfl, HK, HJs, HKp⟩ := hrel
      have hpt := HPT.out
      have bP := HKp.out.boxed hP₀ HP.out
      have bR := HKp.out.boxed hR₀ HR.out
      have bE := HKp.out.boxed hE₀ HE.out
      have hxb := HKp.out.2 X _ _ _ hX₀ HX.out
      have hcR := bR.cell
      have hcE := bE.cell
      have HXB := Aside0.mk hxb
      clear bP bR bE hxb
      by_cases hlt : k < lim
      · have hltz : decide ((k : Int) < (lim : Int)) = true := decide_eq_true (by omega)
        have hk12 : k < 12 := by omega
        have hxc := cell_of_encL HXB.out (i := k) (by rw [hpt.xl]; exact hk12)
        have hfx := frozen_of_row wr X k _ 74 HXB.out
        have hld := hpt.load k
        have hsz : 1 ≤ rd ps (l.length : Int) ∧ rd ps (l.length : Int) ≤ room := hps _ (rd_memR (by omega))
        have hw2 : IntKind.i64.wrap (x.getD k 0 + rd ps (l.length : Int)) = x.getD k 0 + rd ps (l.length : Int) := IntWalk.i64_in _ ⟨by omega, by omega⟩
        have HLD := Aside0.mk hld
        have HSZ := Aside0.mk hsz
        generalize hsv : rd ps (l.length : Int) = size at *
        generalize hxv : x.getD k 0 = xk at *
        by_cases hfit : xk + size > room
        · have hfz : decide (room < xk + size) = true := decide_eq_true (by omega)
          gi_wp2
          gi_big_quiet_th_o (fail)
          gi_wp2
          go_roundw
          case rel =>
            refine ⟨k + 1, xs, by push_cast; rfl, ⟨by omega, ?_⟩, ⟨HJ.out _ _ _ HJs.out ?_⟩, ⟨HKp.out.trans (Kp.of_grown ?_)⟩⟩
            · rw [List.range_succ, List.flatMap_append, ← HK.out.2]
              simp only [List.flatMap_cons, List.flatMap_nil, hxv, if_pos hfit, List.append_nil]
            · exact grown_drewN _ _
            · exact grown_drewN _ _
          case measure => simp [intOf]; omega
        · have hfz : decide (room < xk + size) = false := decide_eq_false (by omega)
          have hfit' : xk + size ≤ room := by omega
          gi_wp2
          gi_big_quiet_th_o (fail)
          gi_wp2
          have hXs : X < W.heap.size := blk_lt HX.out
          have hks := HKp.out.1
          have hgd : wr.grownBy (wr.drewN nq) none := grown_drewN wr nq
          have hkx : Kp (X + 1) W ((wr.drewN nq).setCell ⟨X, k, none⟩ (.int .i64 (xk + size))) := ((HKp.out.mono (by omega)).trans (Kp.of_grown hgd)).trans (Kp.setCell (p := ⟨X, k, none⟩) (Nat.lt_succ_self X) _)
          have hJ2 : J (pre ++ xs) ((wr.drewN nq).setCell ⟨X, k, none⟩ (.int .i64 (xk + size))) := HLJ.out _ _ _ _ rfl (HJ.out _ _ _ HJs.out hgd)
          have hV2 := hkx.R HV.out
          have far : ∀ {b t v}, b ≠ X → Boxed wr b t v → Boxed ((wr.drewN nq).setCell ⟨X, k, none⟩ (.int .i64 (xk + size))) b t v := fun hb h => (Below.heap_setCell _ ⟨X, k, none⟩ _ _ hb).trans (h.kept hgd (by simp))
          have bP := far hXne.1 (HKp.out.boxed hP₀ HP.out)
          have bM := far hXne.2.1 (HKp.out.boxed hM₀ HM.out)
          have bR := far hXne.2.2.1 (HKp.out.boxed hR₀ HR.out)
          have bY := far hXne.2.2.2.1 (HKp.out.boxed hY₀ HY.out)
          have bE := far hXne.2.2.2.2 (HKp.out.boxed hE₀ HE.out)
          have hx2 : ((wr.drewN nq).setCell ⟨X, k, none⟩ (.int .i64 (xk + size))).heap[X]? = some (.cells (enc (x.set k (xk + size))) 74 (0, 0)) := by
            refine (heap_setCell_same _ X k (enc x) 74 _ (by simpa using HXB.out)).trans ?_
            rw [enc_set]
          have HBK : Aside0 (∀ W4 W5, ((wr.drewN nq).setCell ⟨X, k, none⟩ (.int .i64 (xk + size))).grownBy W4 none → Kp n₀ W4 W5 → W5.heap[X]? = some (.cells (enc (x.set k (xk + size))) 74 (0, 0)) ∧ Kp n₀ wr (W5.setCell ⟨X, k, none⟩ (.int .i64 xk))) :=
            ⟨fun W4 W5 hg h5 => kp_back HXB.out (by rw [hpt.xl]; exact hk12) hxv hg h5 hX₀⟩
          have hs2 : W.heap.size ≤ ((wr.drewN nq).setCell ⟨X, k, none⟩ (.int .i64 (xk + size))).heap.size := hkx.1
          generalize (wr.drewN nq).setCell ⟨X, k, none⟩ (.int .i64 (xk + size)) = W2 at *
          have hw3 : IntKind.i64.wrap ((k : Int) + 1) = (k : Int) + 1 := IntWalk.i64_in _ ⟨by omega, by omega⟩
          have hw4 : IntKind.i64.wrap (xk + size - size) = xk := (IntWalk.i64_in _ ⟨by omega, by omega⟩).trans (by omega)
          have hmx : ∀ ats ty, Builtin.max_ ats ty #[.int .i64 (n : Int), .int .i64 ((k : Int) + 1)] = pure (.int .i64 ((max n (k + 1) : Nat) : Int)) := fun ats ty => by
            rw [max_two, max2_int]
            split <;> (simp only [pure_bind]; congr 2; omega)
          have hpt2 := hpt.step (k := k) (by omega) (by omega) (by omega) hmost (by rw [hsv]; omega) (by rw [hsv, hxv]; exact hfit')
          rw [hsv, hxv] at hpt2
          obtain ⟨B, c', W4, hrun, hR4, hg4⟩ := grow_run ((World.drew W2).alloc (.cells #[.int .i64 (k : Int)] 3)) (X + 1) A c l (Kd.R_alloc (Kd.R_drew hV2) _) (by omega) ⟨W2.heap.size, 0, none⟩ (k : Int) (Boxed.new (World.drew W2) 3 _).cell
          have hgw : W2.grownBy W4 none := ⟨hg4.os, hg4.tape, hg4.output, Nat.le_trans (by simp) hg4.size, fun b hb hne => (hg4.block b (by simp; omega) hne).trans (Below.heap_alloc (World.drew W2) _ b hb)⟩
          have hcall := HI.out (max n (k + 1)) (l ++ [(k : Int)]) B c' (x.set k (xk + size)) (pre ++ xs) W4 (by simp; omega) (Kd.R_lower hR4 (by simp; omega)) hpt2
            (bP.kept hgw (by simp)) (bY.kept hgw (by simp)) (bM.kept hgw (by simp)) (bR.kept hgw (by simp)) (bE.kept hgw (by simp)) (blk_grown hx2 hgw (by simp)) (by have := hgw.size; omega) (HJ.out _ _ _ hJ2 hgw)
          rw [show (l ++ [(k : Int)]).length = l.length + 1 from by simp] at hcall hrun
          have HC := Aside0.mk (hcall.mono (R' := fun e W' => ∃ b : Bool, e = .returned (.bool b) ∧ Aside0 (Kp n₀ W4 W') ∧ Aside0 ((b = true ∧ ∃ ys, J (pre ++ xs ++ ys) W' ∧ ys.map (·.2.2) = packs room ps most d (l ++ [(k : Int)]) (max n (k + 1)) (x.set k (xk + size))) ∨ (b = false ∧ ∃ q, Jx (pre ++ xs ++ q) W' ∧ q.map (·.2.2) <+: packs room ps most d (l ++ [(k : Int)]) (max n (k + 1)) (x.set k (xk + size)))))
            (fun e W' h => h.elim (fun ⟨h, ys, h1, h2, h3⟩ => ⟨true, h, ⟨h3⟩, ⟨.inl ⟨rfl, ys, h1, h2⟩⟩⟩) (fun ⟨h, q, h1, h3, h2⟩ => ⟨false, h, ⟨h2⟩, ⟨.inr ⟨rfl, q, h1, h3⟩⟩⟩)))
          have hcE2 := bE.cell
          have hcE3 : ((W2.alloc (.cells #[.int .i64 (k : Int)] 3)).drew).cell? ⟨E, 0, none⟩ = some (.func (.func 87) #[] #[.pointer (some ⟨P, 0, none⟩), .pointer (some ⟨Y, 0, none⟩), .pointer (some ⟨M, 0, none⟩), .pointer (some ⟨X, 0, none⟩), .pointer (some ⟨R, 0, none⟩), .pointer (some ⟨E, 0, none⟩)]) := (bE.alloc _).cell
          have hcE4 := (bE.kept hgw (by simp)).cell
          have HGW := Aside0.mk hgw
          have HRN := Aside0.mk hrun
          clear hrun hR4 hg4 hgw hcall bP bM bR bY bE far hV2 hkx hJ2 hx2 hgd
          refine wpIn_wide.2 (wp_mono (Q := fun e a' w' => match e with | .normal => ∃ b : Bool, a' = { tmps := #[.slice A l.length c, .int .i64 (n : Int), .pointer (some ⟨P, 0, none⟩), .pointer (some ⟨Y, 0, none⟩), .pointer (some ⟨M, 0, none⟩), .pointer (some ⟨X, 0, none⟩), .pointer (some ⟨R, 0, none⟩), .pointer (some ⟨E, 0, none⟩), undef, undef, u10, .int .i64 size, .int .i64 (k : Int), .bool b, .slice A l.length c, .int .i64 (l.length : Int), .slice (some ad) ps.length cP, .int .i64 (ps.length : Int), .bool false, undef, undef, undef, .slice (some ad) ps.length cP, .slice A l.length c, .int .i64 (l.length : Int), .pointer (some (ad.add l.length)), .int .i64 size, .int .i64 (n : Int), .int .i64 ((n : Int) + 1), .int .i64 (most : Int), .int .i64 (lim : Int), .int .i64 (k : Int), .bool true, .int .i64 (k : Int), .int .i64 (k : Int), .pointer (some ⟨X, k, none⟩), .int .i64 xk, .int .i64 size, .int .i64 (xk + size), .int .i64 room, .bool false, .int .i64 (k : Int), .pointer (some ⟨X, k, none⟩), .int .i64 xk, .int .i64 size, .int .i64 (xk + size), .pointer (some ⟨X, k, none⟩), .func (.func 87) #[] #[.pointer (some ⟨P, 0, none⟩), .pointer (some ⟨Y, 0, none⟩), .pointer (some ⟨M, 0, none⟩), .pointer (some ⟨X, 0, none⟩), .pointer (some ⟨R, 0, none⟩), .pointer (some ⟨E, 0, none⟩)], .slice A l.length c, .slice A l.length c, .int .i64 (l.length : Int), .slice A l.length c, .int .i64 (l.length : Int), .slice A l.length l.length, .int .i64 (k : Int), .slice (some ⟨W2.heap.size, 0, none⟩) 1 1, .slice B (l.length + 1) c', .int .i64 (n : Int), .int .i64 (k : Int), .int .i64 ((k : Int) + 1), .int .i64 ((max n (k + 1) : Nat) : Int), .bool b, u62, u63, u64, u65, u66, u67, u68, u69, u70], defers := [] } ∧ Aside0 (Kp n₀ W4 w') ∧ Aside0 ((b = true ∧ ∃ ys, J (pre ++ xs ++ ys) w' ∧ ys.map (·.2.2) = packs room ps most d (l ++ [(k : Int)]) (max n (k + 1)) (x.set k (xk + size))) ∨ (b = false ∧ ∃ q, Jx (pre ++ xs ++ q) w' ∧ q.map (·.2.2) <+: packs room ps most d (l ++ [(k : Int)]) (max n (k + 1)) (x.set k (xk + size)))) | _ => False) ?reg ?rest)
          case reg =>
            refine wp_region_any (by kernel_rfl) ?_
            change wpAny _ _ _ _ _ _ _ (World.drew _)
            refine wpAny_take (i := 1) (v := .slice A l.length c) rfl (by kernel_rfl) (by kernel_rfl) (by kernel_rfl) (fun _ _ _ h => h) (Or.inl ⟨by rfl, fun w_ => by go_simp⟩) ?_
            refine wpAny_take (i := 2) (v := .slice A l.length c) rfl (by kernel_rfl) (by kernel_rfl) (by kernel_rfl) (fun _ _ _ h => h) (Or.inl ⟨by rfl, fun w_ => by go_simp⟩) ?_
            refine wpAny_take (i := 3) (v := .int .i64 (l.length : Int)) rfl (by kernel_rfl) (by kernel_rfl) (by kernel_rfl) (fun _ _ _ h => h) (Or.inl ⟨by rfl, fun w_ => by go_simp⟩) ?_
            refine wpAny_take (i := 4) (v := .slice A l.length c) rfl (by kernel_rfl) (by kernel_rfl) (by kernel_rfl) (fun _ _ _ h => h) (Or.inl ⟨by rfl, fun w_ => by go_simp⟩) ?_
            refine wpAny_take (i := 5) (v := .int .i64 (l.length : Int)) rfl (by kernel_rfl) (by kernel_rfl) (by kernel_rfl) (fun _ _ _ h => h) (Or.inl ⟨by rfl, fun w_ => by go_simp⟩) ?_
            refine wpAny_take (i := 6) (v := .slice A l.length l.length) rfl (by kernel_rfl) (by kernel_rfl) (by kernel_rfl) (fun _ _ _ h => h) (Or.inl ⟨by rfl, fun w_ => by go_simp⟩) ?_
            refine wpAny_take (i := 7) (v := .int .i64 (k : Int)) rfl (by kernel_rfl) (by kernel_rfl) (by kernel_rfl) (fun _ _ _ h => h) (Or.inl ⟨by rfl, fun w_ => by go_simp⟩) ?_
            refine wpAny_take (i := 10) (v := .int .i64 (n : Int)) rfl (by kernel_rfl) (by kernel_rfl) (by kernel_rfl) (fun _ _ _ h => h) (Or.inl ⟨by rfl, fun w_ => by go_simp⟩) ?_
            refine wpAny_take (i := 11) (v := .int .i64 (k : Int)) rfl (by kernel_rfl) (by kernel_rfl) (by kernel_rfl) (fun _ _ _ h => h) (Or.inl ⟨by rfl, fun w_ => by go_simp⟩) ?_
            refine wpAny_take (i := 12) (v := .int .i64 ((k : Int) + 1)) rfl (by kernel_rfl) (by kernel_rfl) (by kernel_rfl) (fun _ _ _ h => h) (Or.inl ⟨by rfl, fun w_ => by go_simp⟩) ?_
            refine wpAny_act (a' := { tmps := #[.slice A l.length c, .int .i64 (n : Int), .pointer (some ⟨P, 0, none⟩), .pointer (some ⟨Y, 0, none⟩), .pointer (some ⟨M, 0, none⟩), .pointer (some ⟨X, 0, none⟩), .pointer (some ⟨R, 0, none⟩), .pointer (some ⟨E, 0, none⟩), undef, undef, u10, .int .i64 size, .int .i64 (k : Int), u13, .slice A l.length c, .int .i64 (l.length : Int), .slice (some ad) ps.length cP, .int .i64 (ps.length : Int), .bool false, undef, undef, undef, .slice (some ad) ps.length cP, .slice A l.length c, .int .i64 (l.length : Int), .pointer (some (ad.add l.length)), .int .i64 size, .int .i64 (n : Int), .int .i64 ((n : Int) + 1), .int .i64 (most : Int), .int .i64 (lim : Int), .int .i64 (k : Int), .bool true, .int .i64 (k : Int), .int .i64 (k : Int), .pointer (some ⟨X, k, none⟩), .int .i64 xk, .int .i64 size, .int .i64 (xk + size), .int .i64 room, .bool false, .int .i64 (k : Int), .pointer (some ⟨X, k, none⟩), .int .i64 xk, .int .i64 size, .int .i64 (xk + size), .pointer (some ⟨X, k, none⟩), u47, .slice A l.length c, .slice A l.length c, .int .i64 (l.length : Int), .slice A l.length c, .int .i64 (l.length : Int), .slice A l.length l.length, .int .i64 (k : Int), u55, u56, .int .i64 (n : Int), .int .i64 (k : Int), .int .i64 ((k : Int) + 1), u60, u61, u62, u63, u64, u65, u66, u67, u68, u69, u70], defers := [] }) (by go_simp) ?_
            refine take_max (i := 13) rfl (by kernel_rfl) (by kernel_rfl) (by kernel_rfl) (fun _ _ _ h => h) rfl (.tmp 57) (.tmp 59) 3 rfl rfl rfl hmx ?_
            refine wpAny_act (a' := { tmps := #[.slice A l.length c, .int .i64 (n : Int), .pointer (some ⟨P, 0, none⟩), .pointer (some ⟨Y, 0, none⟩), .pointer (some ⟨M, 0, none⟩), .pointer (some ⟨X, 0, none⟩), .pointer (some ⟨R, 0, none⟩), .pointer (some ⟨E, 0, none⟩), undef, undef, u10, .int .i64 size, .int .i64 (k : Int), u13, .slice A l.length c, .int .i64 (l.length : Int), .slice (some ad) ps.length cP, .int .i64 (ps.length : Int), .bool false, undef, undef, undef, .slice (some ad) ps.length cP, .slice A l.length c, .int .i64 (l.length : Int), .pointer (some (ad.add l.length)), .int .i64 size, .int .i64 (n : Int), .int .i64 ((n : Int) + 1), .int .i64 (most : Int), .int .i64 (lim : Int), .int .i64 (k : Int), .bool true, .int .i64 (k : Int), .int .i64 (k : Int), .pointer (some ⟨X, k, none⟩), .int .i64 xk, .int .i64 size, .int .i64 (xk + size), .int .i64 room, .bool false, .int .i64 (k : Int), .pointer (some ⟨X, k, none⟩), .int .i64 xk, .int .i64 size, .int .i64 (xk + size), .pointer (some ⟨X, k, none⟩), u47, .slice A l.length c, .slice A l.length c, .int .i64 (l.length : Int), .slice A l.length c, .int .i64 (l.length : Int), .slice A l.length l.length, .int .i64 (k : Int), u55, u56, .int .i64 (n : Int), .int .i64 (k : Int), .int .i64 ((k : Int) + 1), .int .i64 ((max n (k + 1) : Nat) : Int), u61, u62, u63, u64, u65, u66, u67, u68, u69, u70], defers := [] }) (by go_simp) ?_
            refine wpAny_ready (rs := [0, 8]) (by kernel_rfl) (by simp) ?_
            refine AllReady.cons rfl (fun K hK => ?_) ?_
            · go_simp
              refine hK _ _ ?_
              clear hK K
              refine wpAny_ready (rs := [8]) (by kernel_rfl) (by simp) ?_
              refine AllReady.cons rfl (fun K hK => ?_) AllReady.nil
              go_simp
              refine hK _ _ ?_
              clear hK K
              refine wpAny_ready (rs := [9]) (by kernel_rfl) (by simp) ?_
              refine AllReady.cons rfl (fun K hK => ?_) AllReady.nil
              refine step_append_eq rfl (.tmp 53) (.tmp 55) 22 rfl rfl rfl HRN.out ?_
              try go_simp
              refine hK _ _ ?_
              clear hK K
              refine wpAny_ready (rs := [14]) (by kernel_rfl) (by simp) ?_
              refine AllReady.cons rfl (fun K hK => ?_) AllReady.nil
              go_simp
              go_at_call 87
              with_reducible refine HC.out.mono ?_
              rintro e W5 ⟨b, rfl, HK5, HB5⟩
              try go_simp
              refine hK _ _ ?_
              clear hK K
              refine wpAny_ready (rs := [15]) (by kernel_rfl) (by simp) ?_
              refine AllReady.cons rfl (fun K hK => ?_) AllReady.nil
              go_simp
              refine hK _ _ ?_
              clear hK K
              refine wpAny_done (by kernel_rfl) ?_ _
              exact ⟨b, rfl, HK5, HB5⟩
            · refine AllReady.cons rfl (fun K hK => ?_) AllReady.nil
              go_simp
              refine hK _ _ ?_
              clear hK K
              refine wpAny_ready (rs := [0, 9]) (by kernel_rfl) (by simp) ?_
              refine AllReady.cons rfl (fun K hK => ?_) ?_
              · go_simp
                refine hK _ _ ?_
                clear hK K
                refine wpAny_ready (rs := [9]) (by kernel_rfl) (by simp) ?_
                refine AllReady.cons rfl (fun K hK => ?_) AllReady.nil
                refine step_append_eq rfl (.tmp 53) (.tmp 55) 22 rfl rfl rfl HRN.out ?_
                try go_simp
                refine hK _ _ ?_
                clear hK K
                refine wpAny_ready (rs := [14]) (by kernel_rfl) (by simp) ?_
                refine AllReady.cons rfl (fun K hK => ?_) AllReady.nil
                go_simp
                go_at_call 87
                with_reducible refine HC.out.mono ?_
                rintro e W5 ⟨b, rfl, HK5, HB5⟩
                try go_simp
                refine hK _ _ ?_
                clear hK K
                refine wpAny_ready (rs := [15]) (by kernel_rfl) (by simp) ?_
                refine AllReady.cons rfl (fun K hK => ?_) AllReady.nil
                go_simp
                refine hK _ _ ?_
                clear hK K
                refine wpAny_done (by kernel_rfl) ?_ _
                exact ⟨b, rfl, HK5, HB5⟩
              · refine AllReady.cons rfl (fun K hK => ?_) AllReady.nil
                refine step_append_eq rfl (.tmp 53) (.tmp 55) 22 rfl rfl rfl HRN.out ?_
                try go_simp
                refine hK _ _ ?_
                clear hK K
                refine wpAny_ready (rs := [0]) (by kernel_rfl) (by simp) ?_
                refine AllReady.cons rfl (fun K hK => ?_) AllReady.nil
                go_simp
                refine hK _ _ ?_
                clear hK K
                refine wpAny_ready (rs := [14]) (by kernel_rfl) (by simp) ?_
                refine AllReady.cons rfl (fun K hK => ?_) AllReady.nil
                go_simp
                go_at_call 87
                with_reducible refine HC.out.mono ?_
                rintro e W5 ⟨b, rfl, HK5, HB5⟩
                try go_simp
                refine hK _ _ ?_
                clear hK K
                refine wpAny_ready (rs := [15]) (by kernel_rfl) (by simp) ?_
                refine AllReady.cons rfl (fun K hK => ?_) AllReady.nil
                go_simp
                refine hK _ _ ?_
                clear hK K
                refine wpAny_done (by kernel_rfl) ?_ _
                exact ⟨b, rfl, HK5, HB5⟩
          case rest =>
            intro e a5 W5 hq5
            cases e <;> first | exact False.elim hq5 | skip
            obtain ⟨b, rfl, HK5, HB5⟩ := hq5
            have hb5 := HBK.out W4 W5 HGW.out HK5.out
            have hxc5 := cell_of_encL hb5.1 (i := k) (by simp [hpt.xl]; exact hk12)
            have hfx5 := frozen_of_row W5 X k _ 74 hb5.1
            rw [show (x.set k (xk + size)).getD k 0 = xk + size by simp [List.getD_eq_getElem?_getD, hpt.xl, hk12]] at hxc5
            have HB6 := Aside0.mk hb5.2
            clear hb5
            cases b with
            | true =>
              gi_wp2
              go_roundw
              case rel =>
                rcases HB5.out with ⟨_, ys, h1, h2⟩ | ⟨h, _⟩
                · refine ⟨k + 1, xs ++ ys, by push_cast; rfl, ⟨by omega, ?_⟩, ⟨?_⟩, ⟨?_⟩⟩
                  · rw [List.range_succ, List.flatMap_append, ← HK.out.2, List.map_append, h2]
                    simp only [List.flatMap_cons, List.flatMap_nil, hxv, if_neg (show ¬ xk + size > room by omega), List.append_nil]
                  · rw [← List.append_assoc]; exact HLJ.out _ _ _ _ rfl h1
                  · exact HKp.out.trans HB6.out
                · cases h
              case measure => simp [intOf]; omega
            | false =>
              gi_wp2
              refine bodyPost_ret (results_tmp rfl _ _ _) rfl ?_
              rcases HB5.out with ⟨h, _⟩ | ⟨_, q, h1, h2⟩
              · cases h
              · refine .inr ⟨rfl, xs ++ q, by rw [← List.append_assoc]; exact HLx.out _ _ _ _ rfl h1, ?_, HKp.out.trans HB6.out⟩
                rw [List.map_append, HK.out.2, packs, ← HLIM.out, hsv]
                refine flat_prefix _ hlt ?_
                rw [hxv, if_neg (by omega)]
                exact h2
      · have hltz : decide ((k : Int) < (lim : Int)) = false := decide_eq_false (by omega)
        gi_wp2
        refine bodyPost_ret (results_tmp rfl _ _ _) rfl ?_
        have e : k = lim := by have := HK.out.1; omega
        have h := HK.out.2
        rw [e, HLIM.out] at h
        exact .inl ⟨rfl, xs, HJs.out, h, HKp.out⟩

end Go.Proofs.Ytcjglbipkghhnaa.Hand
