import Derived.Test.YtcjglbipkghhnaaHandP
import Derived.Test.YtcjglbipkghhnaaHandV
import Derived.Deep.RegionLaw
namespace Go.Proofs.Ytcjglbipkghhnaa.Hand
open Go.RowKit Go.Shelf Go.Proofs.Ytcjglbipkghhnaa.P Go.Proofs.YtcjglbipkghhnaaW.PrintWords Go.Proofs.YtcjglbipkghhnaaW.PrintLast Go.Proofs.YtcjglbipkghhnaaW.PrintMore
attribute [local go_sem] Oper.semAt_some
set_option linter.unusedVariables false
set_option linter.unusedSimpArgs false

/-- The lists that follow a list, d positions from f on being left. -/
def rest : Nat → Int → List Int → List (List Int)
  | 0, _, _ => []
  | d + 1, f, l => ((l ++ [f]) :: rest d (f + 1) (l ++ [f])) ++ rest d (f + 1) l
/-- All sets of the positions below n, in the order of the walk. -/
def setsF (n : Nat) : List (List Int) := [] :: rest n 0 []

/-- An element: the slice's address, its capacity, its list. -/
abbrev Elem := Option Addr × Nat × List Int
def Elem.val (x : Elem) : Value := .slice x.1 x.2.2.length x.2.1

theorem sets_in (F : Fence) (n : Nat) (h58 : F.fn 59) (hro : F.round = none) (m : Int) (w : World) :
    CallsIn F n Try.prog 59 #[.int .i64 m] w fun e w' => e = .returned (.func (.func 83) #[] #[.pointer (some ⟨w.heap.size, 0, none⟩)]) ∧ w' = w.alloc (.cells #[.int .i64 m] 3) := by
  refine callsIn_of_wp Try.func59 rfl h58 ?_ hro
  simp only [Try.ntmps59, List.size_toArray, List.length_cons, List.length_nil, Nat.reduceAdd, Nat.reduceSub, Array.replicate_succ, Array.replicate_zero, List.push_toArray, List.append_toArray, List.nil_append, List.cons_append]
  gi_wp2
  go_ret
  exact ⟨rfl, rfl⟩

/-- What a round keeps: every block of cells from n₀ on. -/
def Kp (n₀ : Nat) (A B : World) : Prop := A.heap.size ≤ B.heap.size ∧ ∀ b cs t s, n₀ ≤ b → A.heap[b]? = some (.cells cs t s) → B.heap[b]? = some (.cells cs t s)
theorem Kp.refl (n₀ : Nat) (W : World) : Kp n₀ W W := ⟨Nat.le_refl _, fun _ _ _ _ _ h => h⟩
theorem Kp.trans {n₀ : Nat} {A B C : World} (h : Kp n₀ A B) (k : Kp n₀ B C) : Kp n₀ A C := ⟨Nat.le_trans h.1 k.1, fun b cs t s hb hc => k.2 b cs t s hb (h.2 b cs t s hb hc)⟩
theorem Kp.of_grown {n₀ : Nat} {A B : World} (h : A.grownBy B none) : Kp n₀ A B := ⟨h.size, fun b cs t s _ hc => blk_grown hc h (by simp)⟩
theorem Kp.of_below {n₀ : Nat} {A B : World} (h : Below A.heap.size A B) : Kp n₀ A B := Kp.of_grown (grown_of_below h none)
theorem Kp.setCell {n₀ : Nat} {W : World} {p : Addr} (hp : p.block < n₀) (v : Value) : Kp n₀ W (W.setCell p v) :=
  ⟨Nat.le_of_eq (by simp [World.setCell]), fun b cs t s hb hc => (Below.heap_setCell W p v b (by omega)).trans hc⟩
theorem Kp.putObj {n₀ : Nat} {W : World} {l : Nat} {o : Obj} (o' : Obj) (hl : W.heap[l]? = some o) (ho : o.isCells = false) : Kp n₀ W (W.putObj l o') :=
  ⟨(grownBy_putObj' W l o').size, fun b cs t s _ hc => by
    have hne : b ≠ l := fun e => by subst e; rw [hl] at hc; injection hc with hc; subst hc; simp [Obj.isCells] at ho
    exact ((grownBy_putObj' W l o').block b (blk_lt hc) (fun e => hne (by injection e))).trans hc⟩
theorem Kp.boxed {n₀ : Nat} {A B : World} (h : Kp n₀ A B) {b : Nat} {t : TypeId} {v : Value} (hb : n₀ ≤ b) (hc : Boxed A b t v) : Boxed B b t v := h.2 b _ _ _ hb hc
theorem Kp.R {n₀ : Nat} {A B : World} (h : Kp n₀ A B) {v : Value} {l : List Int} (hr : Kd.R (Kd.int .i64) 3 A n₀ (fun _ => True) v l) : Kd.R (Kd.int .i64) 3 B n₀ (fun _ => True) v l :=
  Kd.R_mono (Kd.R_step (Kd.R_bound hr) (fun k hk _ => by
    obtain ⟨_, h1, _, q, _, cells, hc⟩ := hk
    exact (h.2 k _ _ _ h1 hc).trans hc.symm)) (fun _ _ => trivial)

/-- An element is a row of its own, of positions below n. -/
def V (n₀ n : Nat) (x : Elem) (W : World) : Prop := Kd.R (Kd.int .i64) 3 W n₀ (fun _ => True) x.val x.2.2 ∧ x.2.2.length ≤ n ∧ ∀ i ∈ x.2.2, 0 ≤ i ∧ i < (n : Int)
theorem V.kp {n₀ n : Nat} {x : Elem} {A B : World} (h : V n₀ n x A) (k : Kp n₀ A B) : V n₀ n x B := ⟨k.R h.1, h.2⟩

theorem yield_wide {m : Nat} (m' : Nat) {P : Program} {l : Nat} {args : Array Value} {W : World} {R : Ending → World → Prop} (h : YieldAt Fence.wide m P l args W R) : YieldAt Fence.wide m' P l args W R := by
  obtain ⟨fn, tmps, assign, body, hy, hR⟩ := h
  exact ⟨fn, tmps, assign, body, hy, hR.1, fun c cs _ => hR.2 c cs (room_wide _)⟩

theorem grow_run (W : World) (base : Nat) (A : Option Addr) (c : Nat) (l : List Int) (hr : Kd.R (Kd.int .i64) 3 W base (fun _ => True) (.slice A l.length c) l) (hl : l.length ≤ 1000) (ad : Addr) (i : Int) (hi : W.cell? ad = some (.int .i64 i)) :
    ∃ B c' W', (Builtin.append_ #[22, 22] 22 #[.slice A l.length l.length, .slice (some ad) 1 1]).run Try.prog W = .ok (.slice B (l ++ [i]).length c') W' ∧
      Kd.R (Kd.int .i64) 3 W' W.heap.size (fun _ => True) (.slice B (l ++ [i]).length c') (l ++ [i]) ∧ W.grownBy W' none := by
  obtain ⟨i0, hi0, hz0, hz1, hz2⟩ := info_parts infoI
  have fin : ∀ v' W', W'.ownsRow W.heap.size 3 1 v' (l.length + 1) (l.map (Value.int .i64) ++ [.int .i64 i]) → ∃ B c', v' = .slice B (l ++ [i]).length c' ∧ Kd.R (Kd.int .i64) 3 W' W.heap.size (fun _ => True) (.slice B (l ++ [i]).length c') (l ++ [i]) := by
    intro v' W' ho
    have hR : Kd.R (Kd.int .i64) 3 W' W.heap.size (fun _ => True) v' (l ++ [i]) := by
      refine Kd.R_of_own (enc := Value.int .i64) (h1 := fun _ => rfl) ?_ (fun _ _ => trivial)
      simpa [encs] using ho
    obtain ⟨B, c', rfl⟩ := Kd.R_slice hR
    exact ⟨B, c', rfl, hR⟩
  have hn : ∀ (j : Nat) (u : Value), ([Value.int .i64 i])[j]? = some u → W.cell? (ad.add j) = some u := by
    intro j u hu
    cases j with
    | zero => simp at hu; subst hu; rw [Addr.add_zero']; exact hi
    | succ j => simp at hu
  cases A with
  | none =>
    obtain ⟨e1, e2⟩ : l = [] ∧ c = 0 := by
      obtain ⟨_, inner, ho, _⟩ := hr
      rcases ho.2 with ⟨hv, h0⟩ | ⟨g, cap', cur, hv, _⟩
      · injection hv with _ _ h2
        exact ⟨List.eq_nil_of_length_eq_zero (by simpa using h0), h2⟩
      · cases hv
    subst e1
    obtain ⟨v', W', hrun, ho, hg, _⟩ := run_append_own (P := Try.prog) W W.heap.size 22 22 3 i0 (.int .i64 0) 1 8 Try.underlying22 hi0 hz0 hz1 hz2 rfl (by decide) (.slice none 0 0) 0 [] (World.ownsRow_nil W _ 3 1) ad 1 1 [.int .i64 i] rfl hn (by simp [Value.oneCell']) (by decide) (by decide) (Nat.le_refl _)
    obtain ⟨B, c', rfl, hR⟩ := fin v' W' (by simpa using ho)
    exact ⟨B, c', W', hrun, hR, hg⟩
  | some b =>
    have hC := (Kd.R_reads' hr).2.2
    obtain ⟨v', W', hrun, ho, hg⟩ := run_append_arg_grows (P := Try.prog) W 22 22 3 i0 (.int .i64 0) 1 8 Try.underlying22 hi0 hz0 hz1 hz2 rfl (by decide) b l.length l.length (l.map (Value.int .i64)) (by simp)
      (fun j u hu => by
        have hj : j < l.length := by
          rcases Nat.lt_or_ge j l.length with h | h
          · exact h
          · simp [List.getElem?_eq_none (by simpa using h : (l.map (Value.int .i64)).length ≤ j)] at hu
        obtain ⟨ad', e, hc⟩ := Kd.at_int hC (j : Int) (by omega) (by omega)
        cases e
        rw [Int.toNat_natCast] at hc
        rw [hc]
        simp [List.getElem?_eq_getElem hj] at hu
        rw [← hu]
        simp [rd, hj])
      ad 1 1 [.int .i64 i] rfl hn (by omega) (by simp only [maxLen]; omega) (by omega)
    obtain ⟨B, c', rfl, hR⟩ := fin v' W' ho
    exact ⟨B, c', W', hrun, hR, hg⟩

theorem step_append_eq {P : Program} {ops : Array Oper} {o : Oper} {a : Act} {w w' : World} {K : Act → World → Prop} {Q : Exit → Act → World → Prop} {E : Prop} {v1 v2 v' : Value}
    (hg : o.guard = none) (s x : Operand) (t : TypeId) (hop : o.op = Op.call { callee := Callee.builtin Builtin.append, args := #[s, x], argTypes := #[t, t] })
    (hs : a.eval s = v1) (hx : a.eval x = v2) (hrun : (Builtin.append_ #[t, t] o.type #[v1, v2]).run P w = .ok v' w') (hK : K (a.put o.dst v') w') :
    if Region.wanted o (yielded ops a.tmps) = true then Oper.wp P o a w K Q else E := by
  have hw : Region.wanted o (yielded ops a.tmps) = true := by simp [Region.wanted, hg]
  rw [if_pos hw]
  unfold Oper.wp
  simp [execOp, hop, resolve, invoke, builtin, hs, hx, hrun, Result.andThen]
  exact hK

end Go.Proofs.Ytcjglbipkghhnaa.Hand
