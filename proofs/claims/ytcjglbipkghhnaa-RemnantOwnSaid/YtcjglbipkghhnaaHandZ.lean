-- The sort of Falling: cmp.Compare (77), the closure (76), insertion (92), slices.SortStableFunc (87, 75) over at most 12 elements.
import Derived.Test.YtcjglbipkghhnaaHandF
import Derived.Test.YtcjglbipkghhnaaHandU
import Derived.Test.YtcjglbipkghhnaaHandX
namespace Go.Proofs.Ytcjglbipkghhnaa.Hand
open Go.RowKit Go.Shelf Go.Proofs.Ytcjglbipkghhnaa.P Go.Proofs.YtcjglbipkghhnaaW.PrintWords Go.Proofs.YtcjglbipkghhnaaW.PrintLast Go.Proofs.YtcjglbipkghhnaaW.PrintMore
attribute [local go_sem] Oper.semAt_some
set_option linter.unusedVariables false
set_option linter.unusedSimpArgs false

def cmpZ (a b : Int) : Int := if a < b then -1 else if a > b then 1 else 0
set_option maxHeartbeats 4000000 in
set_option maxRecDepth 100000 in
theorem cmp77 (a b : Int) (w : World) : Calls Try.prog 78 #[.int .i64 a, .int .i64 b] w fun e w' => e = .returned (.int .i64 (cmpZ a b)) ∧ w' = w := by
  have hne : ∀ x : Int, (x != x) = false := fun x => by simp
  by_cases h1 : a < b
  · have d1 : decide (a < b) = true := decide_eq_true h1
    have e1 : cmpZ a b = -1 := if_pos h1
    clear h1
    go_enter Try.func78, Try.ntmps78
    go_wp2
    go_ret
    rw [e1]
    exact ⟨rfl, rfl⟩
  · have d1 : decide (a < b) = false := decide_eq_false h1
    by_cases h2 : b < a
    · have d2 : decide (b < a) = true := decide_eq_true h2
      have e1 : cmpZ a b = 1 := (if_neg h1).trans (if_pos h2)
      clear h1 h2
      go_enter Try.func78, Try.ntmps78
      go_wp2
      go_ret
      rw [e1]
      exact ⟨rfl, rfl⟩
    · have d2 : decide (b < a) = false := decide_eq_false h2
      have e1 : cmpZ a b = 0 := (if_neg h1).trans (if_neg h2)
      clear h1 h2
      go_enter Try.func78, Try.ntmps78
      go_wp2
      go_ret
      rw [e1]
      exact ⟨rfl, rfl⟩

set_option maxHeartbeats 4000000 in
set_option maxRecDepth 100000 in
theorem clo76 (l : List Int) (AP : Option Addr) (cP : Nat) (P : Nat) (i j : Int) (hi : 0 ≤ i ∧ i < (l.length : Int)) (hj : 0 ≤ j ∧ j < (l.length : Int)) (w : World) (n : Nat) (bP : Boxed w P 22 (.slice AP l.length cP)) (hr : Kd.C (Kd.int .i64) w AP l.length l) :
    Calls Try.prog 77 #[.int .i64 i, .int .i64 j, .pointer (some ⟨P, 0, none⟩)] (w.drewN n) fun e w' => e = .returned (.int .i64 (cmpZ (rd l j) (rd l i))) ∧ ∃ m, w' = w.drewN (n + m) := by
  obtain ⟨ad, e, g0⟩ := Kd.at_int hr i hi.1 hi.2
  cases e
  obtain ⟨ad2, e, g1⟩ := Kd.at_int hr j hj.1 hj.2
  obtain rfl : ad = ad2 := by injection e
  have hcP := bP.cell
  obtain ⟨i0, i1⟩ := hi
  obtain ⟨j0, j1⟩ := hj
  obtain ⟨i, rfl⟩ := Int.eq_ofNat_of_zero_le i0
  obtain ⟨j, rfl⟩ := Int.eq_ofNat_of_zero_le j0
  rw [Int.toNat_natCast] at g0 g1
  have hmix : Try.prog.follows .mixedOrders = true := by kernel_rfl
  generalize rd l (i : Int) = x at g0
  generalize rd l (j : Int) = y at g1
  go_enter Try.func77, Try.ntmps77
  go_wp2
  go_big_quiet (exact (cmp77 _ _ _).mono fun e w' he => ⟨he.1, _, he.2⟩)
  go_wp2
  go_ret
  exact ⟨rfl, nq, World.drewN_drewN _ _ _⟩

/-- An element sinks to its place: those before it that are smaller pieces move on. -/
def sink (l : List Int) : Nat → List Int → List Int
  | 0, xs => xs
  | j + 1, xs => if rd l (rd xs (j : Int)) < rd l (rd xs ((j + 1 : Nat) : Int)) then sink l j ((xs.set (j + 1) (rd xs (j : Int))).set j (rd xs ((j + 1 : Nat) : Int))) else xs
def sortG (l : List Int) (xs : List Int) (m : Nat) : List Int := (List.range m).foldl (fun ys i => sink l (i + 1) ys) xs
theorem sortG_succ (l xs : List Int) (m : Nat) : sortG l xs (m + 1) = sink l (m + 1) (sortG l xs m) := by
  unfold sortG; rw [List.range_succ, List.foldl_append]; rfl
theorem cmp_neg (a b : Int) : decide (cmpZ a b < 0) = decide (a < b) := by
  unfold cmpZ
  by_cases h : a < b
  · rw [if_pos h, decide_eq_true h]; rfl
  · rw [if_neg h, decide_eq_false h]; split <;> rfl
theorem set_mem {xs : List Int} {i : Nat} {v x : Int} (h : x ∈ xs.set i v) : x ∈ xs ∨ x = v := by
  rcases List.mem_or_eq_of_mem_set h with h | h
  · exact .inl h
  · exact .inr h

set_option maxHeartbeats 8000000 in
set_option maxRecDepth 100000 in
theorem ins92 (l : List Int) (AP : Option Addr) (cP : Nat) (P : Nat) (w0 : World) (hr : Kd.C (Kd.int .i64) w0 AP l.length l) (g n c : Nat) (hn1 : 1 ≤ n) (hn : n ≤ 12) (xs : List Int) (hxs : xs.length = n) (hin : ∀ x ∈ xs, 0 ≤ x ∧ x < (l.length : Int)) (w : World)
    (hB : Below w0.heap.size w0 w) (bP : Boxed w P 22 (.slice AP l.length cP)) (hg : w0.heap.size ≤ g) (hgP : g ≠ P) (hR : Kd.R (Kd.int .i64) 3 w w0.heap.size (fun _ => True) (.slice (some ⟨g, 0, none⟩) n c) xs) :
    Calls Try.prog 93 #[.slice (some ⟨g, 0, none⟩) n c, .int .i64 0, .int .i64 (n : Int), .func (.func 77) #[] #[.pointer (some ⟨P, 0, none⟩)]] w fun e w' => e = .returned (.tuple #[]) ∧ Kd.R (Kd.int .i64) 3 w' w0.heap.size (fun _ => True) (.slice (some ⟨g, 0, none⟩) n c) (sortG l xs (n - 1)) ∧ Below w0.heap.size w0 w' ∧ Boxed w' P 22 (.slice AP l.length cP) := by
  have hmix : Try.prog.follows .mixedOrders = true := by kernel_rfl
  have HR0 := Aside0.mk hr
  have HB0 := Aside0.mk hB
  have HBP := Aside0.mk bP
  have HRW := Aside0.mk hR
  have HIN := Aside0.mk hin
  clear hr hB bP hR hin
  refine (callsIn_wide (n := 5)).1 ?_
  refine callsIn_of_wp Try.func93 rfl trivial ?_ rfl
  simp only [Try.ntmps93, List.size_toArray, List.length_cons, List.length_nil, Nat.reduceAdd, Nat.reduceSub, Array.replicate_succ, Array.replicate_zero, List.push_toArray, List.append_toArray, List.nil_append, List.cons_append]
  gi_wp2
  gi_loopw [8] (fun u wr => ∃ (i : Nat) (X : List Int), u = .int .i64 (i : Int) ∧ Aside0 (1 ≤ i ∧ i ≤ n ∧ X.length = n ∧ (∀ x ∈ X, 0 ≤ x ∧ x < (l.length : Int)) ∧ X = sortG l xs (i - 1)) ∧ Aside0 (Kd.R (Kd.int .i64) 3 wr w0.heap.size (fun _ => True) (.slice (some ⟨g, 0, none⟩) n c) X) ∧ Aside0 (Below w0.heap.size w0 wr) ∧ Aside0 (Boxed wr P 22 (.slice AP l.length cP)))
    (fun u _ => n - (intOf u).toNat)
  case atStart => exact ⟨1, xs, rfl, ⟨Nat.le_refl _, hn1, hxs, HIN.out, rfl⟩, HRW, HB0, HBP⟩
  case round =>
    obtain ⟨i, X, rfl, HX, HXR, HB, HP⟩ := hrel
    by_cases hlt : i < n
    · have hltz : decide ((i : Int) < (n : Int)) = true := decide_eq_true (by omega)
      gi_wp2
      gi_loopw [9] (fun u wr => ∃ (j : Nat) (Y : List Int), u = .int .i64 (j : Int) ∧ Aside0 (j ≤ i ∧ Y.length = n ∧ (∀ x ∈ Y, 0 ≤ x ∧ x < (l.length : Int)) ∧ sink l j Y = sortG l xs i) ∧ Aside0 (Kd.R (Kd.int .i64) 3 wr w0.heap.size (fun _ => True) (.slice (some ⟨g, 0, none⟩) n c) Y) ∧ Aside0 (Below w0.heap.size w0 wr) ∧ Aside0 (Boxed wr P 22 (.slice AP l.length cP)))
        (fun u _ => (intOf u).toNat)
      case atStart =>
        refine ⟨i, X, rfl, ⟨Nat.le_refl _, HX.out.2.2.1, HX.out.2.2.2.1, ?_⟩, HXR, HB, HP⟩
        obtain ⟨m, hm⟩ : ∃ m, i = m + 1 := ⟨i - 1, by have := HX.out.1; omega⟩
        rw [HX.out.2.2.2.2, hm, Nat.add_sub_cancel, sortG_succ]
      case round =>
        obtain ⟨j, Y, rfl, HY, HYR, HB2, HP2⟩ := hrel
        by_cases hj : 0 < j
        · have hjz : decide ((0 : Int) < (j : Int)) = true := decide_eq_true (by omega)
          obtain ⟨k, hk⟩ : ∃ k, j = k + 1 := ⟨j - 1, by omega⟩
          have hjn : j < n := by have := HY.out.1; omega
          have hk1 : IntKind.i64.wrap ((j : Int) - 1) = (k : Int) := (IntWalk.i64_in _ ⟨by omega, by omega⟩).trans (by omega)
          have hk2 : wrap64 ((j : Int) - 1) = (k : Int) := (i64_w _).symm.trans hk1
          have hkl : (k : Int) < (n : Int) := by omega
          have hjl : (j : Int) < (n : Int) := by omega
          obtain ⟨c1, f1⟩ := Kd.R_celln 0 HYR.out (j : Int) (by omega) (by omega)
          obtain ⟨c2, f2⟩ := Kd.R_celln 0 HYR.out (k : Int) (by omega) (by omega)
          have m1 := HY.out.2.2.1 _ (rd_memR (l := Y) (j := j) (by rw [HY.out.2.1]; exact hjn))
          have m2 := HY.out.2.2.1 _ (rd_memR (l := Y) (j := k) (by rw [HY.out.2.1]; omega))
          have hsk : sink l j Y = if rd l (rd Y (k : Int)) < rd l (rd Y (j : Int)) then sink l k ((Y.set j (rd Y (k : Int))).set k (rd Y (j : Int))) else Y := by rw [hk]; rfl
          rw [Int.toNat_natCast] at c1 f1 c2 f2
          replace c1 : wr.cell? ⟨g, j, none⟩ = some (.int .i64 (rd Y (j : Int))) := c1
          replace c2 : wr.cell? ⟨g, k, none⟩ = some (.int .i64 (rd Y (k : Int))) := c2
          have HSK := Aside0.mk hsk
          have HPUT : Aside0 (∀ W, Kd.R (Kd.int .i64) 3 W w0.heap.size (fun _ => True) (.slice (some ⟨g, 0, none⟩) n c) Y → Below w0.heap.size w0 W → Boxed W P 22 (.slice AP l.length cP) →
              Kd.R (Kd.int .i64) 3 ((W.setCell ⟨g, j, none⟩ (.int .i64 (rd Y (k : Int)))).setCell ⟨g, k, none⟩ (.int .i64 (rd Y (j : Int)))) w0.heap.size (fun _ => True) (.slice (some ⟨g, 0, none⟩) n c) ((Y.set j (rd Y (k : Int))).set k (rd Y (j : Int))) ∧
              Below w0.heap.size w0 ((W.setCell ⟨g, j, none⟩ (.int .i64 (rd Y (k : Int)))).setCell ⟨g, k, none⟩ (.int .i64 (rd Y (j : Int)))) ∧ Boxed ((W.setCell ⟨g, j, none⟩ (.int .i64 (rd Y (k : Int)))).setCell ⟨g, k, none⟩ (.int .i64 (rd Y (j : Int)))) P 22 (.slice AP l.length cP)) := ⟨fun W h1 h2 h3 => by
            obtain ⟨r1, g1⟩ := Kd.R_putg h1 (j : Int) (rd Y (k : Int))
            obtain ⟨r2, g2⟩ := Kd.R_putg r1 (k : Int) (rd Y (j : Int))
            rw [Int.toNat_natCast] at r1 g1 r2 g2
            rw [Int.toNat_natCast] at r2 g2
            have nP : some P ≠ some g := fun e => hgP (Option.some.inj e).symm
            exact ⟨r2, (h2.setCell (p := ⟨g, j, none⟩) hg _).setCell (p := ⟨g, k, none⟩) hg _, (h3.kept g1 nP).kept g2 nP⟩⟩
          have HYM := Aside0.mk (fun x (hx : x ∈ (Y.set j (rd Y (k : Int))).set k (rd Y (j : Int))) => show 0 ≤ x ∧ x < (l.length : Int) by
            rcases set_mem hx with h | h
            · rcases set_mem h with h | h
              · exact HY.out.2.2.1 x h
              · rw [h]; exact m2
            · rw [h]; exact m1)
          have HLS := Aside0.mk (show ((Y.set j (rd Y (k : Int))).set k (rd Y (j : Int))).length = n by simp [HY.out.2.1])
          have hcm := cmp_neg (rd l (rd Y (k : Int))) (rd l (rd Y (j : Int)))
          have HCL := Aside0.mk (fun q => clo76 l AP cP P (rd Y (j : Int)) (rd Y (k : Int)) m1 m2 wr q HP2.out (Kd.C_below HR0.out HB2.out))
          have HKJ := Aside0.mk hk
          have nkj : k ≠ j := by omega
          have njk : j ≠ k := by omega
          clear m1 m2 hsk hk
          obtain ⟨z, hz⟩ : ∃ z, cmpZ (rd l (rd Y (k : Int))) (rd l (rd Y (j : Int))) = z := ⟨_, rfl⟩
          rw [hz] at hcm HCL
          clear hz
          by_cases hlt2 : rd l (rd Y (k : Int)) < rd l (rd Y (j : Int))
          · rw [decide_eq_true hlt2] at hcm
            rw [if_pos hlt2] at HSK
            clear hlt2
            gi_wp2
            refine wpIn_wide.2 ?_
            go_big_quiet (exact (HCL.out _).mono fun e w' he => ⟨he.1, he.2.elim fun m h => ⟨_, h⟩⟩)
            gi_wp2
            gi_region_with_o (fail)
            all_goals
              gi_wp2
              have hgd : wr.grownBy (wr.drewN (nq + 1)) none := grown_of (pw_below_drewN (Below.refl _ wr) (nq + 1))
              have hq := HPUT.out (wr.drewN (nq + 1)) ((Kp.of_grown hgd).R HYR.out) (pw_below_drewN HB2.out (nq + 1)) (HP2.out.kept hgd (by simp))
              refine ⟨⟨k, _, rfl, ⟨by have := HY.out.1; have := HKJ.out; omega, HLS.out, HYM.out, HSK.out.symm.trans HY.out.2.2.2⟩, ⟨hq.1⟩, ⟨hq.2.1⟩, ⟨hq.2.2⟩⟩, ?_⟩
              have := HKJ.out
              simp [intOf]
              omega
          · rw [decide_eq_false hlt2] at hcm
            rw [if_neg hlt2] at HSK
            clear hlt2
            gi_wp2
            refine wpIn_wide.2 ?_
            go_big_quiet (exact (HCL.out _).mono fun e w' he => ⟨he.1, he.2.elim fun m h => ⟨_, h⟩⟩)
            gi_wp2
            go_roundw
            case rel =>
              have hs := HY.out.2.2.2
              rw [HSK.out] at hs
              exact ⟨i + 1, Y, by push_cast; rfl, ⟨by omega, by omega, HY.out.2.1, HY.out.2.2.1, hs⟩, ⟨(Kp.of_grown (grown_of (pw_below_drewN (Below.refl _ wr) nq))).R HYR.out⟩, ⟨pw_below_drewN HB2.out nq⟩, ⟨HP2.out.kept (grown_of (pw_below_drewN (Below.refl _ wr) nq)) (by simp)⟩⟩
            case measure => simp [intOf]; omega
        · have hjz : decide ((0 : Int) < (j : Int)) = false := decide_eq_false (by omega)
          gi_wp2
          refine wpIn_wide.2 ?_
          go_quiet (fail)
          gi_wp2
          go_roundw
          case rel =>
            have hj0 : j = 0 := by omega
            have hs := HY.out.2.2.2
            rw [hj0, sink] at hs
            exact ⟨i + 1, Y, by push_cast; rfl, ⟨by omega, by omega, HY.out.2.1, HY.out.2.2.1, hs⟩, ⟨(Kp.of_grown (grown_of (pw_below_drewN (Below.refl _ wr) nq))).R HYR.out⟩, ⟨pw_below_drewN HB2.out nq⟩, ⟨HP2.out.kept (grown_of (pw_below_drewN (Below.refl _ wr) nq)) (by simp)⟩⟩
          case measure => simp [intOf]; omega
    · have hltz : decide ((i : Int) < (n : Int)) = false := decide_eq_false (by omega)
      gi_wp2
      have e : i = n := by have := HX.out.2.1; omega
      have h5 := HX.out.2.2.2.2
      rw [e] at h5
      rw [← h5]
      exact bodyPost_end (results_none rfl _ _ _) rfl ⟨rfl, HXR.out, HB.out, HP.out⟩


set_option maxHeartbeats 8000000 in
set_option maxRecDepth 100000 in
theorem stab87 (l : List Int) (AP : Option Addr) (cP : Nat) (P : Nat) (w0 : World) (hr : Kd.C (Kd.int .i64) w0 AP l.length l) (g n c : Nat) (hn1 : 1 ≤ n) (hn : n ≤ 12) (xs : List Int) (hxs : xs.length = n) (hin : ∀ x ∈ xs, 0 ≤ x ∧ x < (l.length : Int)) (w : World)
    (hB : Below w0.heap.size w0 w) (bP : Boxed w P 22 (.slice AP l.length cP)) (hg : w0.heap.size ≤ g) (hgP : g ≠ P) (hR : Kd.R (Kd.int .i64) 3 w w0.heap.size (fun _ => True) (.slice (some ⟨g, 0, none⟩) n c) xs) :
    Calls Try.prog 88 #[.slice (some ⟨g, 0, none⟩) n c, .int .i64 (n : Int), .func (.func 77) #[] #[.pointer (some ⟨P, 0, none⟩)]] w fun e w' => e = .returned (.tuple #[]) ∧ Kd.R (Kd.int .i64) 3 w' w0.heap.size (fun _ => True) (.slice (some ⟨g, 0, none⟩) n c) (sortG l xs (n - 1)) ∧ Below w0.heap.size w0 w' ∧ Boxed w' P 22 (.slice AP l.length cP) := by
  have HC := Aside0.mk (ins92 l AP cP P w0 hr g n c hn1 hn xs hxs hin w hB bP hg hgP hR)
  clear hr hB bP hR hin
  have d1 : decide ((20 : Int) ≤ (n : Int)) = false := decide_eq_false (by omega)
  have d2 : decide ((20 : Int) < (n : Int)) = false := decide_eq_false (by omega)
  refine (callsIn_wide (n := 5)).1 ?_
  refine callsIn_of_wp Try.func88 rfl trivial ?_ rfl
  simp only [Try.ntmps88, List.size_toArray, List.length_cons, List.length_nil, Nat.reduceAdd, Nat.reduceSub, Array.replicate_succ, Array.replicate_zero, List.push_toArray, List.append_toArray, List.nil_append, List.cons_append]
  gi_wp2
  gi_loopw [7, 8] (fun u v wr => u = .int .i64 0 ∧ v = .int .i64 20 ∧ Aside0 (wr = w)) (fun _ _ _ => 0)
  case atStart => exact ⟨rfl, rfl, ⟨rfl⟩⟩
  case round =>
    obtain ⟨rfl, rfl, HW⟩ := hrel
    obtain rfl := HW.out
    gi_wp2
    refine ⟨trivial, ((callsIn_wide (n := 5 - 1)).2 HC.out).mono ?_⟩
    rintro e w5 ⟨rfl, h1, h2, h3⟩
    have H1 := Aside0.mk h1
    have H2 := Aside0.mk h2
    have H3 := Aside0.mk h3
    clear h1 h2 h3
    gi_wp2
    gi_loopw [6] (fun u wr => u = .int .i64 20 ∧ Aside0 (wr = w5)) (fun _ _ => 0)
    case atStart => exact ⟨rfl, ⟨rfl⟩⟩
    case round =>
      obtain ⟨rfl, HW5⟩ := hrel
      obtain rfl := HW5.out
      gi_wp2
      exact bodyPost_end (results_none rfl _ _ _) rfl ⟨rfl, H1.out, H2.out, H3.out⟩

set_option maxHeartbeats 8000000 in
set_option maxRecDepth 100000 in
theorem sort75 (l : List Int) (AP : Option Addr) (cP : Nat) (P : Nat) (w0 : World) (hr : Kd.C (Kd.int .i64) w0 AP l.length l) (g n c : Nat) (hn1 : 1 ≤ n) (hn : n ≤ 12) (xs : List Int) (hxs : xs.length = n) (hin : ∀ x ∈ xs, 0 ≤ x ∧ x < (l.length : Int)) (w : World)
    (hB : Below w0.heap.size w0 w) (bP : Boxed w P 22 (.slice AP l.length cP)) (hg : w0.heap.size ≤ g) (hgP : g ≠ P) (hR : Kd.R (Kd.int .i64) 3 w w0.heap.size (fun _ => True) (.slice (some ⟨g, 0, none⟩) n c) xs) :
    Calls Try.prog 76 #[.slice (some ⟨g, 0, none⟩) n c, .func (.func 77) #[] #[.pointer (some ⟨P, 0, none⟩)]] w fun e w' => e = .returned (.tuple #[]) ∧ Kd.R (Kd.int .i64) 3 w' w0.heap.size (fun _ => True) (.slice (some ⟨g, 0, none⟩) n c) (sortG l xs (n - 1)) ∧ Below w0.heap.size w0 w' ∧ Boxed w' P 22 (.slice AP l.length cP) := by
  have HC := Aside0.mk (stab87 l AP cP P w0 hr g n c hn1 hn xs hxs hin w hB bP hg hgP hR)
  clear hr hB bP hR hin
  refine (callsIn_wide (n := 5)).1 ?_
  refine callsIn_of_wp Try.func76 rfl trivial ?_ rfl
  simp only [Try.ntmps76, List.size_toArray, List.length_cons, List.length_nil, Nat.reduceAdd, Nat.reduceSub, Array.replicate_succ, Array.replicate_zero, List.push_toArray, List.append_toArray, List.nil_append, List.cons_append]
  gi_wp2
  refine ⟨trivial, ((callsIn_wide (n := 5 - 1)).2 HC.out).mono ?_⟩
  rintro e w5 ⟨rfl, h1, h2, h3⟩
  gi_wp2
  exact bodyPost_end (results_none rfl _ _ _) rfl ⟨rfl, h1, h2, h3⟩

end Go.Proofs.Ytcjglbipkghhnaa.Hand
