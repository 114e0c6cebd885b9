import Derived.Test.YtcjglbipkghhnaaHandS
namespace Go.Proofs.Ytcjglbipkghhnaa.Hand
open Go.RowKit Go.Shelf Go.Proofs.Ytcjglbipkghhnaa.P Go.Proofs.YtcjglbipkghhnaaW.PrintWords Go.Proofs.YtcjglbipkghhnaaW.PrintLast Go.Proofs.YtcjglbipkghhnaaW.PrintMore
attribute [local go_sem] Oper.semAt_some
set_option linter.unusedVariables false
set_option linter.unusedSimpArgs false

set_option maxHeartbeats 4000000 in
set_option maxRecDepth 100000 in
theorem ext_calls (n₀ lr Y M X n N : Nat) (hY₀ : n₀ ≤ Y) (hM₀ : n₀ ≤ M) (hX₀ : n₀ ≤ X) (hn : n ≤ 100) (J Jx : List Elem → World → Prop)
    (hJ : ∀ s W W', J s W → W.grownBy W' none → J s W')
    (hYd : ∀ pre (x : Elem) W, J pre W → V n₀ n x W → ∀ m, YieldAt Fence.wide m Try.prog lr #[x.val] W fun e W' => (e = .returned (.bool true) ∧ J (pre ++ [x]) W' ∧ Kp n₀ W W') ∨ (e = .returned (.bool false) ∧ Jx (pre ++ [x]) W')) :
    ∀ (d f : Nat) (l : List Int) (A : Option Addr) (c : Nat) (pre : List Elem) (W : World), f + d = n → V n₀ n (A, c, l) W → l.length ≤ f →
      Boxed W Y 87 (.func (.yield lr) #[] #[]) → Boxed W M 3 (.int .i64 (n : Int)) → Boxed W X 88 (.func (.func 84) #[] #[.pointer (some ⟨Y, 0, none⟩), .pointer (some ⟨M, 0, none⟩), .pointer (some ⟨X, 0, none⟩)]) →
      n₀ ≤ W.heap.size → J pre W →
      Calls Try.prog 84 #[.slice A l.length c, .int .i64 (f : Int), .pointer (some ⟨Y, 0, none⟩), .pointer (some ⟨M, 0, none⟩), .pointer (some ⟨X, 0, none⟩)] W fun e W' =>
        (e = .returned (.bool true) ∧ ∃ xs, J (pre ++ xs) W' ∧ xs.map (·.2.2) = l :: rest d f l ∧ Kp n₀ W W') ∨ (e = .returned (.bool false) ∧ ∃ q, Jx (pre ++ q) W') := by
  intro d
  induction d using Nat.strongRecOn with
  | ind d ih =>
  intro f l A c pre W hfd hV hlf bY bM bX hn0 h0
  have hmix : Try.prog.follows .mixedOrders = true := by kernel_rfl
  refine (callsIn_wide (n := N)).1 ?_
  have hy0 := hYd pre (A, c, l) W h0 hV (N - 1)
  have hcY := bY.cell
  have hlc : l.length ≤ c := (Kd.R_reads' hV.1).2.1
  have HV := Aside0.mk hV
  have HI := Aside0.mk ih
  have HY := Aside0.mk hYd
  have HJ := Aside0.mk hJ
  have HbY := Aside0.mk bY
  have HbM := Aside0.mk bM
  have HbX := Aside0.mk bX
  have H0 := Aside0.mk h0
  clear hV ih hYd hJ bY bM bX h0
  obtain ⟨fn, tmps, assign, body, hy, hR⟩ := hy0
  dsimp only [Elem.val] at hy
  refine callsIn_of_wp Try.func84 rfl trivial ?_ rfl
  simp only [Try.ntmps84, List.size_toArray, List.length_cons, List.length_nil, Nat.reduceAdd, Nat.reduceSub, Array.replicate_succ, Array.replicate_zero, List.push_toArray, List.append_toArray, List.nil_append, List.cons_append]
  gi_wp2
  refine ⟨fun h => absurd h (by decide), hR.mono ?_⟩
  rintro e W3 (⟨rfl, hJ3, hk3⟩ | ⟨rfl, hJx3⟩)
  · have HJ3 := Aside0.mk hJ3
    have HK3 := Aside0.mk hk3
    clear hJ3 hk3 hR hy hcY
    gi_wp2
    gi_loopw [8] (fun i wr => ∃ (k : Nat) (xs : List Elem), i = .int .i64 (k : Int) ∧ Aside0 (f ≤ k ∧ k ≤ n ∧ xs.map (·.2.2) ++ rest (n - k) k l = l :: rest d f l) ∧ Aside0 (J (pre ++ xs) wr) ∧ Aside0 (Kp n₀ W wr))
      (fun i _ => n - (intOf i).toNat)
    case atStart => exact ⟨f, [(A, c, l)], rfl, ⟨Nat.le_refl _, by omega, by rw [show n - f = d by omega]; rfl⟩, HJ3, HK3⟩
    case round =>
      obtain ⟨k, xs, rfl, HX, HJs, HK⟩ := hrel
      have bM := HK.out.boxed hM₀ HbM.out
      have bX := HK.out.boxed hX₀ HbX.out
      have bY := HK.out.boxed hY₀ HbY.out
      have hcM := bM.cell
      have hcX := bX.cell
      have HbM1 := Aside0.mk bM
      have HbX1 := Aside0.mk bX
      have HbY1 := Aside0.mk bY
      clear bM bX bY
      have hx := HX.out
      by_cases hlt : k < n
      · have hltz : decide ((k : Int) < (n : Int)) = true := decide_eq_true (by omega)
        have hV1 := HV.out.kp HK.out
        have hw1 : IntKind.i64.wrap ((k : Int) + 1) = (k : Int) + 1 := IntWalk.i64_in _ ⟨by omega, by omega⟩
        obtain ⟨B, c', W4, hrun, hR4, hg4⟩ := grow_run ((World.drew wr).alloc (.cells #[.int .i64 (k : Int)] 3)) n₀ A c l (Kd.R_alloc (Kd.R_drew hV1.1) _) (by omega) ⟨wr.heap.size, 0, none⟩ (k : Int) (Boxed.new (World.drew wr) 3 _).cell
        have hgw : wr.grownBy W4 none := ⟨hg4.os, hg4.tape, hg4.output, Nat.le_trans (by simp) hg4.size, fun b hb hne => (hg4.block b (by simp; omega) hne).trans (Below.heap_alloc (World.drew wr) _ b hb)⟩
        have hcall := HI.out (n - (k + 1)) (by omega) (k + 1) (l ++ [(k : Int)]) B c' (pre ++ xs) W4 (by omega)
          ⟨Kd.R_lower hR4 (by have := HK.out.1; simp; omega), by simp; omega, fun i hi => by
            rcases List.mem_append.1 hi with h | h
            · exact HV.out.2.2 i h
            · obtain rfl := List.mem_singleton.1 h; omega⟩ (by simp; omega) (HbY1.out.kept hgw (by simp)) (HbM1.out.kept hgw (by simp)) (HbX1.out.kept hgw (by simp)) (Nat.le_trans (Nat.le_trans hn0 HK.out.1) hgw.size) (HJ.out _ _ _ HJs.out hgw)
        rw [show ((k + 1 : Nat) : Int) = (k : Int) + 1 from by push_cast; rfl, show (l ++ [(k : Int)]).length = l.length + 1 from by simp] at hcall
        rw [show (l ++ [(k : Int)]).length = l.length + 1 from by simp] at hrun
        have HC := Aside0.mk (hcall.mono (R' := fun e W' => ∃ b : Bool, e = .returned (.bool b) ∧ Aside0 ((b = true ∧ ∃ ys, J (pre ++ xs ++ ys) W' ∧ ys.map (·.2.2) = (l ++ [(k : Int)]) :: rest (n - (k + 1)) ((k : Int) + 1) (l ++ [(k : Int)]) ∧ Kp n₀ W4 W') ∨ (b = false ∧ ∃ q, Jx (pre ++ xs ++ q) W')))
          (fun e W' h => h.elim (fun h => ⟨true, h.1, ⟨.inl ⟨rfl, h.2⟩⟩⟩) (fun h => ⟨false, h.1, ⟨.inr ⟨rfl, h.2⟩⟩⟩)))
        have HGW := Aside0.mk hgw
        have hcX1 := (HbX1.out.kept hgw (by simp)).cell
        have hcX2 : ((wr.alloc (.cells #[.int .i64 (k : Int)] 3)).drew).cell? ⟨X, 0, none⟩ = some (.func (.func 84) #[] #[.pointer (some ⟨Y, 0, none⟩), .pointer (some ⟨M, 0, none⟩), .pointer (some ⟨X, 0, none⟩)]) := (HbX1.out.alloc _).cell
        have HRN := Aside0.mk hrun
        clear hV1 hR4 hg4 hrun hcall hgw
        gi_wp2
        refine wpIn_wide.2 ?_
        go_region_law (first | (refine step_append_eq rfl (.tmp 25) (.tmp 27) 22 rfl rfl rfl HRN.out ?_) | (go_simp; go_at_call 84; with_reducible refine HC.out.mono ?_; rintro e W5 ⟨b, rfl, HB5⟩))
        all_goals
          cases b with
          | true =>
            gi_wp2
            go_roundw
            case rel =>
              rcases HB5.out with ⟨_, ys, h1, h2, h3⟩ | ⟨h, _⟩
              · refine ⟨k + 1, xs ++ ys, by push_cast; rfl, ⟨by omega, by omega, ?_⟩, ⟨by rw [← List.append_assoc]; exact h1⟩, ⟨HK.out.trans ((Kp.of_grown HGW.out).trans h3)⟩⟩
                have e1 : n - k = (n - (k + 1)) + 1 := by omega
                have h4 := hx.2.2
                rw [e1] at h4
                rw [List.map_append, h2, ← h4, rest]
                push_cast
                simp
              · cases h
            case measure => simp [intOf]; omega
          | false =>
            gi_wp2
            refine bodyPost_ret (results_tmp rfl _ _ _) rfl ?_
            rcases HB5.out with ⟨h, _⟩ | ⟨_, q, h1⟩
            · cases h
            · exact .inr ⟨rfl, xs ++ q, by rw [← List.append_assoc]; exact h1⟩
      · have hltz : decide ((k : Int) < (n : Int)) = false := decide_eq_false (by omega)
        gi_wp2
        refine bodyPost_ret (results_tmp rfl _ _ _) rfl ?_
        refine .inl ⟨rfl, xs, HJs.out, ?_, HK.out⟩
        have e1 : n - k = 0 := by omega
        have h4 := hx.2.2
        rw [e1] at h4
        simpa [rest] using h4
  · have HJ3 := Aside0.mk hJx3
    clear hJx3 hR hy hcY
    gi_wp2
    refine bodyPost_ret (results_tmp rfl _ _ _) rfl ?_
    exact .inr ⟨rfl, [(A, c, l)], HJ3.out⟩

set_option maxHeartbeats 4000000 in
set_option maxRecDepth 100000 in
/-- The iterator over all sets of positions below n; its box with n lies at n₀. -/
theorem sets_seq (N n₀ n : Nat) (hn : n ≤ 100) (w : World) (hM : Boxed w n₀ 3 (.int .i64 (n : Int))) (hw : w.heap.size = n₀ + 1) :
    SeqV Fence.wide N Try.prog 83 #[.pointer (some ⟨n₀, 0, none⟩)] (fun x : Elem => #[x.val]) (Kp n₀) (V n₀ n) (fun xs => xs.map (·.2.2) = setsF n) (fun _ => True) w := by
  intro l J Jx W hW hJ hJx hY h0
  have bM : Boxed W n₀ 3 (.int .i64 (n : Int)) := (hW.block n₀ (by omega)).trans hM
  have hsz : n₀ + 1 ≤ W.heap.size := by have := hW.size; omega
  have hg : ∀ (s : List Elem) (A B : World), J s A → A.grownBy B none → J s B := fun s A B hs hg => hJ s A B none hs hg (fun r e => by cases e)
  have hyd : ∀ pre (x : Elem) W, J pre W → V n₀ n x W → ∀ m, YieldAt Fence.wide m Try.prog l #[x.val] W fun e W' => (e = .returned (.bool true) ∧ J (pre ++ [x]) W' ∧ Kp n₀ W W') ∨ (e = .returned (.bool false) ∧ Jx (pre ++ [x]) W') :=
    fun pre x W h1 h2 m => yield_wide m (hY pre x W h1 h2)
  have bX := Boxed.new (W.alloc (.cells #[.func (.yield l) #[] #[]] 87)) 88 (.func (.func 84) #[] #[.pointer (some ⟨W.heap.size, 0, none⟩), .pointer (some ⟨n₀, 0, none⟩), .pointer (some ⟨W.heap.size + 1, 0, none⟩)])
  have bN := Boxed.new (W.alloc (.cells #[.func (.yield l) #[] #[]] 87)) 88 .nilFunc
  have bY := (Boxed.new W 87 (.func (.yield l) #[] #[])).alloc (.cells #[.func (.func 84) #[] #[.pointer (some ⟨W.heap.size, 0, none⟩), .pointer (some ⟨n₀, 0, none⟩), .pointer (some ⟨W.heap.size + 1, 0, none⟩)]] 88)
  have bM2 := (bM.alloc (.cells #[.func (.yield l) #[] #[]] 87)).alloc (.cells #[.func (.func 84) #[] #[.pointer (some ⟨W.heap.size, 0, none⟩), .pointer (some ⟨n₀, 0, none⟩), .pointer (some ⟨W.heap.size + 1, 0, none⟩)]] 88)
  rw [World.size_alloc] at bX bN
  have hcx := bN.cell
  have hfx := bN.frozen
  have hcx2 := bX.cell
  have hb1 : Below W.heap.size W ((W.alloc (.cells #[.func (.yield l) #[] #[]] 87)).alloc (.cells #[.func (.func 84) #[] #[.pointer (some ⟨W.heap.size, 0, none⟩), .pointer (some ⟨n₀, 0, none⟩), .pointer (some ⟨W.heap.size + 1, 0, none⟩)]] 88)) :=
    ((Below.refl _ W).alloc (Nat.le_refl _) _).alloc (by simp) _
  have hx := ext_calls n₀ l W.heap.size n₀ (W.heap.size + 1) n N (by omega) (Nat.le_refl _) (by omega) hn J Jx hg hyd n 0 [] none 0 [] _ (by omega) ⟨Kd.R_nil _ _ _ _ _, by simp, by simp⟩ (Nat.le_refl _) bY bM2 bX (by have := hb1.size; omega) (hg _ _ _ h0 (grown_of_below hb1 none))
  have HC := Aside0.mk ((callsIn_wide (n := N - 1)).2 hx)
  have hsf := fun (a : Addr) (c : Array Value) (w : World) => run_store Try.prog w a (.func (.func 84) #[] c) .plain rfl
  clear hx bX bN bY bM2 hyd hY hg bM
  refine callsIn_of_wp Try.func83 rfl trivial ?_ rfl
  simp only [Try.ntmps83, List.size_toArray, List.length_cons, List.length_nil, Nat.reduceAdd, Nat.reduceSub, Array.replicate_succ, Array.replicate_zero, List.push_toArray, List.append_toArray, List.nil_append, List.cons_append]
  gi_wp2
  refine ⟨trivial, fun h => absurd h (by decide), HC.out.mono ?_⟩
  rintro e W' (⟨rfl, xs, h1, h2, _⟩ | ⟨rfl, q, h1⟩)
  · gi_wp2
    go_end0
    exact ⟨⟨_, rfl⟩, .inl ⟨xs, h2, h1⟩⟩
  · gi_wp2
    go_end0
    exact ⟨⟨_, rfl⟩, .inr ⟨q, trivial, h1⟩⟩

end Go.Proofs.Ytcjglbipkghhnaa.Hand
