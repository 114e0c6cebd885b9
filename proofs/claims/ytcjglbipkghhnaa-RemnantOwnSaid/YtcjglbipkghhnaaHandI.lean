-- The iterator over right packings as a sequence (85); Best (37).
import Derived.Test.YtcjglbipkghhnaaHandH
import Derived.Test.YtcjglbipkghhnaaHandX
namespace Go.Proofs.Ytcjglbipkghhnaa.Hand
open Go.RowKit Go.Shelf Go.Proofs.Ytcjglbipkghhnaa.P Go.Proofs.YtcjglbipkghhnaaW.PrintWords Go.Proofs.YtcjglbipkghhnaaW.PrintLast Go.Proofs.YtcjglbipkghhnaaW.PrintMore
attribute [local go_sem] Oper.semAt_some
set_option linter.unusedVariables false
set_option linter.unusedSimpArgs false

theorem Part.none (room : Int) (hr : 0 ≤ room) (ps : List Int) (most : Nat) : Part room ps most [] 0 (List.replicate 12 0) := by
  have h0 : ∀ b, (List.replicate 12 (0 : Int)).getD b 0 = 0 := fun b => by rw [List.getD_eq_getElem?_getD, List.getElem?_replicate]; split <;> rfl
  exact ⟨Nat.zero_le _, rfl, Nat.zero_le _, by simp, fun b => by rw [h0]; omega, fun b _ => by rw [h0]; rfl⟩

set_option maxHeartbeats 4000000 in
set_option maxRecDepth 100000 in
/-- The iterator over all right packings with at most so many boxes; the boxes with room, pieces and number lie from n₀ on. -/
theorem packs_seq (N n₀ : Nat) (room : Int) (hr : 1 ≤ room ∧ room ≤ 100) (ps : List Int) (hps : ∀ p ∈ ps, 1 ≤ p ∧ p ≤ room) (hlen : ps.length ≤ 12) (AP : Option Addr) (cP : Nat) (most : Nat) (hmost : most ≤ 12) (w : World)
    (hR : Boxed w n₀ 3 (.int .i64 room)) (hP : Boxed w (n₀ + 1) 22 (.slice AP ps.length cP)) (hM : Boxed w (n₀ + 1 + 1) 3 (.int .i64 (most : Int))) (hw : w.heap.size = n₀ + 3) :
    SeqX Fence.wide N Try.prog 86 #[.pointer (some ⟨n₀ + 1, 0, none⟩), .pointer (some ⟨n₀ + 1 + 1, 0, none⟩), .pointer (some ⟨n₀, 0, none⟩)] (fun x : Elem => #[x.val]) (Kp n₀) (VP room ps most) (fun W => Kd.C (Kd.int .i64) W AP ps.length ps)
      (fun xs => xs.map (·.2.2) = packs room ps most ps.length [] 0 (List.replicate 12 0)) (fun xs => xs.map (·.2.2) <+: packs room ps most ps.length [] 0 (List.replicate 12 0)) w := by
  intro l J Jx W hW hJ hJx hLJ hLx hQ hY h0
  have hsz : n₀ + 3 ≤ W.heap.size := by have := hW.size; omega
  have bR : Boxed W n₀ 3 (.int .i64 room) := (hW.block _ (by omega)).trans hR
  have bP : Boxed W (n₀ + 1) 22 (.slice AP ps.length cP) := (hW.block _ (by omega)).trans hP
  have bM : Boxed W (n₀ + 1 + 1) 3 (.int .i64 (most : Int)) := (hW.block _ (by omega)).trans hM
  have hg : ∀ (s : List Elem) (A B : World), J s A → A.grownBy B none → J s B := fun s A B hs hg => hJ s A B none hs hg (fun r e => by cases e)
  have hgx : ∀ (s : List Elem) (A B : World), Jx s A → A.grownBy B none → Jx s B := fun s A B hs hg => hJx s A B none hs hg (fun r e => by cases e)
  have hyd : ∀ pre (x : Elem) U, J pre U → VP room ps most (W.heap.size + 1) x U → ∀ m, YieldAt Fence.wide m Try.prog l #[x.val] U fun e W' => (e = .returned (.bool true) ∧ J (pre ++ [x]) W' ∧ Kp n₀ U W') ∨ (e = .returned (.bool false) ∧ Jx (pre ++ [x]) W' ∧ Kp n₀ U W') :=
    fun pre x U h1 h2 m => yield_wide m (hY pre x U h1 h2)
  obtain ⟨fv, hfv⟩ : ∃ fv, fv = Value.func (.func 87) #[] #[.pointer (some ⟨n₀ + 1, 0, none⟩), .pointer (some ⟨W.heap.size, 0, none⟩), .pointer (some ⟨n₀ + 1 + 1, 0, none⟩), .pointer (some ⟨W.heap.size + 1, 0, none⟩), .pointer (some ⟨n₀, 0, none⟩), .pointer (some ⟨W.heap.size + 1 + 1, 0, none⟩)] := ⟨_, rfl⟩
  have bY0 := Boxed.new W 87 (.func (.yield l) #[] #[])
  have hX0 := two_second' W (.cells #[.func (.yield l) #[] #[]] 87) (.cells (enc (List.replicate 12 0)) 74)
  have bN := Boxed.new ((W.alloc (.cells #[.func (.yield l) #[] #[]] 87)).alloc (.cells (enc (List.replicate 12 0)) 74)) 88 .nilFunc
  have bE := Boxed.new ((W.alloc (.cells #[.func (.yield l) #[] #[]] 87)).alloc (.cells (enc (List.replicate 12 0)) 74)) 88 fv
  simp only [World.size_alloc] at bN bE
  have hb1 : Below W.heap.size W (((W.alloc (.cells #[.func (.yield l) #[] #[]] 87)).alloc (.cells (enc (List.replicate 12 0)) 74)).alloc (.cells #[fv] 88)) := (((Below.refl _ W).alloc (Nat.le_refl _) _).alloc (by simp) _).alloc (by simp; omega) _
  have hX3 : (((W.alloc (.cells #[.func (.yield l) #[] #[]] 87)).alloc (.cells (enc (List.replicate 12 0)) 74)).alloc (.cells #[fv] 88)).heap[W.heap.size + 1]? = some (.cells (enc (List.replicate 12 0)) 74 (0, 0)) :=
    (Below.heap_alloc _ _ _ (by simp)).trans hX0
  have hcx := bN.cell
  have hfx := bN.frozen
  have hcx2 := bE.cell
  rw [hfv] at hcx2
  have hx := pk_calls n₀ l W.heap.size (n₀ + 1) (n₀ + 1 + 1) (W.heap.size + 1) n₀ (W.heap.size + 1 + 1) N (by omega) (by omega) (Nat.le_refl _) (by omega) (by omega) (by omega) (by omega) room hr ps hps hlen AP cP most hmost J Jx hg hgx hLJ hLx hQ hyd ps.length 0 [] none 0 (List.replicate 12 0) [] _ (by simp) (Kd.R_nil _ _ _ _ _) (Part.none room (by omega) ps most)
    (belowB hb1 bP) ((bY0.alloc _).alloc (.cells #[fv] 88)) (belowB hb1 bM) (belowB hb1 bR) (by rw [← hfv]; exact bE) hX3 (by have := hb1.size; omega) (hg _ _ _ h0 (grown_of hb1))
  have HC := Aside0.mk ((callsIn_wide (n := N - 1)).2 hx)
  have hsf := fun (a : Addr) (c : Array Value) (w : World) => run_store Try.prog w a (.func (.func 87) #[] c) .plain rfl
  have hen : enc (List.replicate 12 0) = #[.int .i64 0, .int .i64 0, .int .i64 0, .int .i64 0, .int .i64 0, .int .i64 0, .int .i64 0, .int .i64 0, .int .i64 0, .int .i64 0, .int .i64 0, .int .i64 0] := by rfl
  rw [hen] at hcx hfx hcx2
  rw [hfv, hen] at HC
  clear hx bY0 hX0 bN bE hb1 hX3 hyd hY hg hgx hQ hLJ hLx bP bM bR hJ hJx
  clear hfv
  refine callsIn_of_wp Try.func86 rfl trivial ?_ rfl
  simp only [Try.ntmps86, List.size_toArray, List.length_cons, List.length_nil, Nat.reduceAdd, Nat.reduceSub, Array.replicate_succ, Array.replicate_zero, List.push_toArray, List.append_toArray, List.nil_append, List.cons_append]
  gi_wp2
  refine ⟨trivial, fun h => absurd h (by decide), HC.out.mono ?_⟩
  rintro e W' (⟨rfl, xs, h1, h2, _⟩ | ⟨rfl, q, h1, h2, _⟩)
  · gi_wp2
    go_end0
    exact ⟨⟨_, rfl⟩, .inl ⟨xs, h2, h1⟩⟩
  · gi_wp2
    go_end0
    exact ⟨⟨_, rfl⟩, .inr ⟨q, h2, h1⟩⟩

theorem results_cell3 {P : Program} {fn : Func} {p q r : Tmp} {t u v : TypeId} (h : fn.results = #[.cell p t, .cell q u, .cell r v]) (tmps : Array Value) (w : World) (a b c : Addr) (va vb vc : Value)
    (hp : tmps.getD p undef = .pointer (some a)) (hq : tmps.getD q undef = .pointer (some b)) (hr : tmps.getD r undef = .pointer (some c))
    (la : (loadVar t a).run P w = .ok va w) (lb : (loadVar u b).run P w = .ok vb w) (lc : (loadVar v c).run P w = .ok vc w) : (results fn tmps).run P w = .ok (.tuple #[va, vb, vc]) w := by
  have hp' : tmps[p]?.getD undef = .pointer (some a) := by simpa using hp
  have hq' : tmps[q]?.getD undef = .pointer (some b) := by simpa using hq
  have hr' : tmps[r]?.getD undef = .pointer (some c) := by simpa using hr
  simp [results, h, hp', hq', hr', asAddr, la, lb, lc]
theorem load22 {w : World} {a : Addr} {v : Value} (h : w.cell? a = some v) : (loadVar 22 a).run Try.prog w = .ok v w := by
  unfold loadVar
  simp [go_sem, h]
theorem load3 {w : World} {a : Addr} {v : Value} (h : w.cell? a = some v) : (loadVar 3 a).run Try.prog w = .ok v w := by
  unfold loadVar
  simp [go_sem, h]
theorem load24 {w : World} {a : Addr} {v : Value} (h : w.cell? a = some v) : (loadVar 24 a).run Try.prog w = .ok v w := by
  unfold loadVar
  simp [go_sem, h]
/-- The marks of loops over iterators, on the way out. -/
theorem leaves_marks {F : Fence} {n : Nat} {P : Program} {fn : Func} {tmps : Array Value} {R : Ending → World → Prop} (S : World → Prop)
    (b : Nat) (hS : ∀ W D, b ≤ D → W.heap[D]? = some (.deferred (some [])) → S W → S (W.putObj D (.deferred none))) (hE : ∀ W, S W → LeavesIn F n P fn tmps R [] .returning W) :
    ∀ (Ds : List Nat) (W : World), Ds.Nodup → (∀ D ∈ Ds, b ≤ D ∧ W.heap[D]? = some (.deferred (some []))) → S W → LeavesInM F n P fn tmps R (Ds.map fun D => { target := .collected D, args := #[] }) .returning W
  | [], W, _, _, h => hE W h
  | D :: Ds, W, hn, hd, h => by
    rw [List.nodup_cons] at hn
    obtain ⟨hb1, h1⟩ := hd D List.mem_cons_self
    refine ⟨by simp, .inl ⟨_, _, rfl, run_takeDeferred h1, ?_⟩⟩
    refine leaves_marks S b hS hE Ds _ hn.2 (fun E hE => ⟨(hd E (List.mem_cons_of_mem _ hE)).1, ?_⟩) (hS W D hb1 h1 h)
    have hne : E ≠ D := fun e => hn.1 (e ▸ hE)
    exact (World.putObj_heap_other hne).trans (hd E (List.mem_cons_of_mem _ hE)).2

theorem within_iff (x lo hi : Int) : within x lo hi = true ↔ lo ≤ x ∧ x ≤ hi := by
  unfold within
  split
  · simp only [decide_eq_true_eq]; omega
  · constructor
    · intro h; cases h
    · intro h; omega
theorem pie_ok {room : Int} {l : List Int} (h : pieF room l = true) : (1 ≤ room ∧ room ≤ 100 ∧ l.length ≤ 12) ∧ ∀ x ∈ l, 1 ≤ x ∧ x ≤ room := by
  unfold pieF at h
  simp only [Bool.and_eq_true, within_iff, decide_eq_true_eq, List.all_eq_true] at h
  obtain ⟨⟨h1, h2⟩, h3, h4⟩ := h
  exact ⟨⟨h1, h2, by omega⟩, h4⟩

/-- The first packing with the fewest boxes, from a number on. -/
def bestL (room : Int) (ps : List Int) : Nat → Nat → List Int × Int × Int
  | 0, _ => ([], 0, 0)
  | d + 1, most => match packs room ps most ps.length [] 0 (List.replicate 12 0) with
    | l :: _ => (l, (most : Int), 0)
    | [] => bestL room ps d (most + 1)
def bestF (room : Int) (ps : List Int) (least : Int) : List Int × Int × Int := if pieF room ps = true then bestL room ps (ps.length + 1 - least.toNat) least.toNat else ([], 0, 2)

/-- The state of the loop: the boxes of the results, the box of the number, the marks of the loops that ended. -/
structure BestI (w : World) (base : Nat) (Ds : List Nat) (mb : Nat) (m : Int) (vA : Value) (nB nC : Int) (W : World) : Prop where
  bA : Boxed W w.heap.size 22 vA
  bB : Boxed W (w.heap.size + 1) 3 (.int .i64 nB)
  bC : Boxed W (w.heap.size + 1 + 1) 24 (.int .i64 nC)
  bM : Boxed W mb 3 (.int .i64 m)
  ds : ∀ D ∈ Ds, W.heap[D]? = some (.deferred (some []))
  hB : Below w.heap.size w W
  l3 : w.heap.size + 3 ≤ mb
  lm : mb < base
  ld : ∀ D ∈ Ds, w.heap.size + 3 ≤ D ∧ D < base
theorem BestI.own {w : World} {base mb : Nat} {Ds : List Nat} {m : Int} {vA : Value} {nB nC : Int} {A B : World} {row : Option Nat} (h : BestI w base Ds mb m vA nB nC A) (hg : A.grownBy B row) (hr : ∀ q, row = some q → base ≤ q) : BestI w base Ds mb m vA nB nC B := by
  obtain ⟨bA, bB, bC, bM, ds, hB, l3, lm, ld⟩ := h
  have ne : ∀ {b : Nat}, b < base → some b ≠ row := fun hb e => by have := hr _ e.symm; omega
  exact ⟨bA.kept hg (ne (by omega)), bB.kept hg (ne (by omega)), bC.kept hg (ne (by omega)), bM.kept hg (ne lm), fun D hD => blk_grown (ds D hD) hg (ne (ld D hD).2),
    hB.grown hg hB.size (fun k e => by have := hr k e; omega), l3, lm, ld⟩
theorem BestI.setX {w : World} {base mb : Nat} {Ds : List Nat} {m : Int} {vA : Value} {nB nC : Int} {A : World} (h : BestI w base Ds mb m vA nB nC A) (a : Addr) (v : Value) (ha : base ≤ a.block) : BestI w base Ds mb m vA nB nC (A.setCell a v) := by
  obtain ⟨bA, bB, bC, bM, ds, hB, l3, lm, ld⟩ := h
  have ne : ∀ {b : Nat}, b < base → (A.setCell a v).heap[b]? = A.heap[b]? := fun hb => Below.heap_setCell A a v _ (by omega)
  exact ⟨(ne (by omega)).trans bA, (ne (by omega)).trans bB, (ne (by omega)).trans bC, (ne lm).trans bM, fun D hD => (ne (ld D hD).2).trans (ds D hD), hB.setCell (by omega) _, l3, lm, ld⟩
/-- The results are stored. -/
theorem BestI.set3 {w : World} {base mb : Nat} {Ds : List Nat} {m : Int} {vA : Value} {nB nC : Int} {A : World} (h : BestI w base Ds mb m vA nB nC A) (v : Value) (n c : Int) :
    BestI w base Ds mb m v n c (((A.setCell ⟨w.heap.size, 0, none⟩ v).setCell ⟨w.heap.size + 1, 0, none⟩ (.int .i64 n)).setCell ⟨w.heap.size + 1 + 1, 0, none⟩ (.int .i64 c)) := by
  obtain ⟨bA, bB, bC, bM, ds, hB, l3, lm, ld⟩ := h
  have far : ∀ {b : Nat}, w.heap.size + 3 ≤ b → (((A.setCell ⟨w.heap.size, 0, none⟩ v).setCell ⟨w.heap.size + 1, 0, none⟩ (.int .i64 n)).setCell ⟨w.heap.size + 1 + 1, 0, none⟩ (.int .i64 c)).heap[b]? = A.heap[b]? := fun {b} hb =>
    ((Below.heap_setCell _ ⟨w.heap.size + 1 + 1, 0, none⟩ _ b (show b ≠ w.heap.size + 1 + 1 by omega)).trans (Below.heap_setCell _ ⟨w.heap.size + 1, 0, none⟩ _ b (show b ≠ w.heap.size + 1 by omega))).trans (Below.heap_setCell _ ⟨w.heap.size, 0, none⟩ _ b (show b ≠ w.heap.size by omega))
  refine ⟨?_, ?_, ?_, (far l3).trans bM, fun D hD => (far (ld D hD).1).trans (ds D hD), ((hB.setCell (p := ⟨w.heap.size, 0, none⟩) (Nat.le_refl _) _).setCell (p := ⟨w.heap.size + 1, 0, none⟩) (Nat.le_succ _) _).setCell (p := ⟨w.heap.size + 1 + 1, 0, none⟩) (show w.heap.size ≤ w.heap.size + 1 + 1 by omega) _, l3, lm, ld⟩
  · exact ((Below.heap_setCell _ ⟨w.heap.size + 1 + 1, 0, none⟩ _ _ (show w.heap.size ≠ w.heap.size + 1 + 1 by omega)).trans (Below.heap_setCell _ ⟨w.heap.size + 1, 0, none⟩ _ _ (show w.heap.size ≠ w.heap.size + 1 by omega))).trans (bA.set v)
  · exact (Below.heap_setCell _ ⟨w.heap.size + 1 + 1, 0, none⟩ _ _ (show w.heap.size + 1 ≠ w.heap.size + 1 + 1 by omega)).trans (Boxed.set (.int .i64 n) (show Boxed (A.setCell ⟨w.heap.size, 0, none⟩ v) (w.heap.size + 1) 3 (.int .i64 nB) from (Below.heap_setCell _ ⟨w.heap.size, 0, none⟩ _ _ (show w.heap.size + 1 ≠ w.heap.size by omega)).trans bB))
  · exact Boxed.set (.int .i64 c) (show Boxed ((A.setCell ⟨w.heap.size, 0, none⟩ v).setCell ⟨w.heap.size + 1, 0, none⟩ (.int .i64 n)) (w.heap.size + 1 + 1) 24 (.int .i64 nC) from
      ((Below.heap_setCell _ ⟨w.heap.size + 1, 0, none⟩ _ _ (show w.heap.size + 1 + 1 ≠ w.heap.size + 1 by omega)).trans (Below.heap_setCell _ ⟨w.heap.size, 0, none⟩ _ _ (show w.heap.size + 1 + 1 ≠ w.heap.size by omega))).trans bC)
theorem BestI.widen {w : World} {base base' mb : Nat} {Ds : List Nat} {m : Int} {vA : Value} {nB nC : Int} {A : World} (h : BestI w base Ds mb m vA nB nC A) (hb : base ≤ base') : BestI w base' Ds mb m vA nB nC A :=
  ⟨h.bA, h.bB, h.bC, h.bM, h.ds, h.hB, h.l3, Nat.lt_of_lt_of_le h.lm hb, fun D hD => ⟨(h.ld D hD).1, Nat.lt_of_lt_of_le (h.ld D hD).2 hb⟩⟩
/-- One mark more. -/
theorem BestI.mark {w : World} {base base' mb D : Nat} {Ds : List Nat} {m : Int} {vA : Value} {nB nC : Int} {A : World} (h : BestI w base Ds mb m vA nB nC A) (hD : base ≤ D) (hb : D < base') (hK : A.heap[D]? = some (.deferred (some []))) : BestI w base' (D :: Ds) mb m vA nB nC A := by
  obtain ⟨bA, bB, bC, bM, ds, hB, l3, lm, ld⟩ := h
  refine ⟨bA, bB, bC, bM, fun E hE => ?_, hB, l3, by omega, fun E hE => ?_⟩
  · rcases List.mem_cons.1 hE with rfl | hE
    · exact hK
    · exact ds E hE
  · rcases List.mem_cons.1 hE with rfl | hE
    · exact ⟨by omega, hb⟩
    · have := ld E hE; exact ⟨this.1, by omega⟩
theorem BestI.nodup {w : World} {base mb D : Nat} {Ds : List Nat} {m : Int} {vA : Value} {nB nC : Int} {A : World} (h : BestI w base Ds mb m vA nB nC A) (hD : base ≤ D) (hn : Ds.Nodup) : (D :: Ds).Nodup :=
  List.nodup_cons.2 ⟨fun hm => by have := (h.ld D hm).2; omega, hn⟩
theorem BestI.next {w : World} {base mb D : Nat} {Ds : List Nat} {m : Int} {vA : Value} {nB nC : Int} {W : World} (h : BestI w base Ds mb m vA nB nC W) (hD : base ≤ D) (hK : W.heap[D]? = some (.deferred (some []))) (m' : Int) :
    BestI w (W.alloc (.cells #[.int .i64 m'] 3)).heap.size (D :: Ds) W.heap.size m' vA nB nC (W.alloc (.cells #[.int .i64 m'] 3)) := by
  have hl := blk_lt hK
  have h1 := (h.mark hD hl hK).own (grown_of ((Below.refl _ W).alloc (Nat.le_refl _) (.cells #[.int .i64 m'] 3))) (fun q e => by cases e)
  have h3 := h.l3
  have h4 := h.lm
  exact ⟨h1.bA, h1.bB, h1.bC, Boxed.new W 3 _, h1.ds, h1.hB, by omega, by simp, fun E hE => ⟨(h1.ld E hE).1, by have := (h1.ld E hE).2; simp; omega⟩⟩
/-- On the way out. -/
theorem BestI.leave {w : World} {base mb : Nat} {Ds : List Nat} {m : Int} {v : Value} {n c : Int} {W : World} (h : BestI w base Ds mb m v n c W) (hn : Ds.Nodup) {l : List Int} (hR : Kd.R (Kd.int .i64) 3 W w.heap.size (fun _ => True) v l) (tmps : Array Value)
    (t4 : tmps.getD 4 undef = .pointer (some ⟨w.heap.size, 0, none⟩)) (t5 : tmps.getD 5 undef = .pointer (some ⟨w.heap.size + 1, 0, none⟩)) (t6 : tmps.getD 6 undef = .pointer (some ⟨w.heap.size + 1 + 1, 0, none⟩)) {N : Nat} {r : List Int × Int × Int} (hr : r = (l, n, c)) :
    LeavesInM Fence.wide N Try.prog Try.f38 tmps (fun e w' => ∃ v0_ : Value, e = .returned (.tuple #[v0_, .int .i64 r.2.1, .int .i64 r.2.2]) ∧ Kd.R (Kd.int .i64) 3 w' w.heap.size (fun _ => True) v0_ r.1 ∧ Below w.heap.size w w') (Ds.map fun D => { target := .collected D, args := #[] }) .returning W := by
  subst hr
  obtain ⟨bA, bB, bC, bM, ds, hB, l3, lm, ld⟩ := h
  refine leaves_marks (fun W => Boxed W w.heap.size 22 v ∧ Boxed W (w.heap.size + 1) 3 (.int .i64 n) ∧ Boxed W (w.heap.size + 1 + 1) 24 (.int .i64 c) ∧ Kd.R (Kd.int .i64) 3 W w.heap.size (fun _ => True) v l ∧ Below w.heap.size w W) w.heap.size ?_ ?_ Ds W hn (fun D hD => ⟨by have := ld D hD; omega, ds D hD⟩) ⟨bA, bB, bC, hR, hB⟩
  · rintro U D hD hd ⟨h1, h2, h3, h4, h5⟩
    have k : Kp 0 U (U.putObj D (.deferred none)) := Kp.putObj _ hd rfl
    exact ⟨k.boxed (Nat.zero_le _) h1, k.boxed (Nat.zero_le _) h2, k.boxed (Nat.zero_le _) h3, Kp.R (k.mono (Nat.zero_le _)) h4, h5.grown (grownBy_putObj' _ D _) h5.size (fun k e => by cases e; exact hD)⟩
  · rintro U ⟨h1, h2, h3, h4, h5⟩
    exact ⟨_, results_cell3 rfl _ _ _ _ _ _ _ _ t4 t5 t6 (load22 h1.cell) (load3 h2.cell) (load24 h3.cell), v, rfl, h4, h5⟩

set_option maxHeartbeats 4000000 in
set_option maxRecDepth 100000 in
theorem best_calls (a0 : Int) (A0 : Option Addr) (c0 : Nat) (l0 : List Int) (w : World) (hr0 : Kd.C (Kd.int .i64) w A0 l0.length l0) (hc0 : l0.length ≤ c0) (least at_ : Int)
    (hwt : pieF a0 l0 = true → (0 ≤ least ∧ least ≤ 1000000) ∧ ∀ W, Kd.C (Kd.int .i64) W A0 l0.length l0 → Calls Try.prog 18 #[.int .i64 a0, .slice A0 l0.length c0] W fun e w' => e = .returned (.tuple #[.int .i64 least, .int .i64 at_, .int .i64 0]) ∧ Below W.heap.size W w') :
    Calls Try.prog 38 #[.int .i64 a0, .slice A0 l0.length c0] w fun e w' => ∃ v0_ : Value, e = .returned (.tuple #[v0_, .int .i64 (bestF a0 l0 least).2.1, .int .i64 (bestF a0 l0 least).2.2]) ∧ Kd.R (Kd.int .i64) 3 w' w.heap.size (fun _ => True) v0_ (bestF a0 l0 least).1 ∧ Below w.heap.size w w' := by
  have hmix : Try.prog.follows .mixedOrders = true := by kernel_rfl
  have HR := Aside0.mk hr0
  have HW := Aside0.mk hwt
  clear hr0 hwt
  refine (callsIn_wide (n := 5)).1 ?_
  refine callsIn_of_wp_marks Try.func38 rfl trivial ?_ rfl
  simp only [Try.ntmps38, List.size_toArray, List.length_cons, List.length_nil, Nat.reduceAdd, Nat.reduceSub, Array.replicate_succ, Array.replicate_zero, List.push_toArray, List.append_toArray, List.nil_append, List.cons_append]
  gi_wp2
  refine ⟨trivial, ((callsIn_wide (n := 5 - 1)).2 (pie_calls a0 A0 c0 l0 _ (Kd.C_below HR.out (by repeat (first | exact Below.refl _ _ | apply below_alloc))))).mono ?_⟩
  rintro e w1 ⟨rfl, hb1⟩
  have bA0 : Boxed (((w.alloc (.cells #[.slice none 0 0] 22)).alloc (.cells #[.int .i64 0] 3)).alloc (.cells #[.int .i64 0] 24)) w.heap.size 22 (.slice none 0 0) := ((Boxed.new w 22 (.slice none 0 0)).alloc _).alloc _
  have bB0 := (Boxed.new (w.alloc (.cells #[.slice none 0 0] 22)) 3 (.int .i64 0)).alloc (.cells #[.int .i64 0] 24)
  have bC0 := Boxed.new ((w.alloc (.cells #[.slice none 0 0] 22)).alloc (.cells #[.int .i64 0] 3)) 24 (.int .i64 0)
  simp only [World.size_alloc] at bB0 bC0
  have bA := belowB hb1 bA0
  have bB := belowB hb1 bB0
  have bC := belowB hb1 bC0
  have hcA := bA.cell
  have hfA := bA.frozen
  have hcB := bB.cell
  have hfB := bB.frozen
  have hcC := bC.cell
  have hfC := bC.frozen
  have HA := Aside0.mk bA
  have HB := Aside0.mk bB
  have HC := Aside0.mk bC
  have HB1 := Aside0.mk (below_step (show Below w.heap.size w (((w.alloc (.cells #[.slice none 0 0] 22)).alloc (.cells #[.int .i64 0] 3)).alloc (.cells #[.int .i64 0] 24)) from (by repeat (first | exact Below.refl _ _ | apply below_alloc))) hb1)
  clear bA0 bB0 bC0 bA bB bC hb1
  by_cases hp : pieF a0 l0 = true
  · obtain ⟨⟨hl0, hl12⟩, hwt⟩ := HW.out hp
    have HW := Aside0.mk hwt
    clear hwt
    rw [hp]
    have hok : (1 ≤ a0 ∧ a0 ≤ 100 ∧ l0.length ≤ 12) ∧ ∀ x ∈ l0, 1 ≤ x ∧ x ≤ a0 := pie_ok hp
    gi_wp2
    refine ⟨trivial, ((callsIn_wide (n := 5 - 1)).2 (HW.out _ (Kd.C_below HR.out HB1.out))).mono ?_⟩
    rintro e w2 ⟨rfl, hb2⟩
    have bA2 := belowB hb2 HA.out
    have bB2 := belowB hb2 HB.out
    have bC2 := belowB hb2 HC.out
    have HB2 := Aside0.mk (below_step HB1.out hb2)
    clear hcA hfA hcB hfB hcC hfC hb2
    gi_wp2
    have bM2 := Boxed.new w2 3 (.int .i64 least)
    have hs2 : w.heap.size + 3 ≤ w2.heap.size := by have := bC2.lt; omega
    have hI0 : BestI w (w2.heap.size + 1) [] w2.heap.size least (.slice none 0 0) 0 0 (w2.alloc (.cells #[.int .i64 least] 3)) :=
      ⟨bA2.alloc _, bB2.alloc _, bC2.alloc _, bM2, (fun _ h => by cases h), HB2.out.alloc (by omega) _, hs2, Nat.lt_succ_self _, (fun _ h => by cases h)⟩
    have HI0 := Aside0.mk hI0
    clear bA2 bB2 bC2 bM2 hI0
    refine wpIn_loop (fun a W => ∃ (m : Nat) (Ds : List Nat) (mb : Nat) (u11 u24 u25 u26 u27 u28 u29 u30 u31 u32 u33 u34 u35 u36 u37 : Value), a = { tmps := #[.int .i64 a0, .slice A0 l0.length c0, undef, undef, .pointer (some ⟨w.heap.size, 0, none⟩), .pointer (some ⟨w.heap.size + 1, 0, none⟩), .pointer (some ⟨w.heap.size + 1 + 1, 0, none⟩), .int .i64 least, .int .i64 at_, .int .i64 0, .pointer (some ⟨mb, 0, none⟩), u11, .int .i64 a0, .slice A0 l0.length c0, .bool true, .bool false, .tuple #[.int .i64 least, .int .i64 at_, .int .i64 0], .int .i64 a0, .slice A0 l0.length c0, .tuple #[.int .i64 least, .int .i64 at_, .int .i64 0], .int .i64 least, .int .i64 at_, .int .i64 0, .int .i64 least, u24, u25, u26, u27, u28, u29, u30, u31, u32, u33, u34, u35, u36, u37], defers := Ds.map fun D => { target := .collected D, args := #[] } } ∧
        Aside0 (Ds.Nodup ∧ Ds.length ≤ 20 ∧ m = least.toNat + Ds.length ∧ (Ds ≠ [] → m ≤ l0.length + 1) ∧ bestL a0 l0 (l0.length + 1 - m) m = bestL a0 l0 (l0.length + 1 - least.toNat) least.toNat) ∧ Aside0 (BestI w W.heap.size Ds mb (m : Int) (.slice none 0 0) 0 0 W))
      (fun a _ => 100 - a.defers.length) ?start ?round
    case start => exact ⟨least.toNat, [], w2.heap.size, _, _, _, _, _, _, _, _, _, _, _, _, _, _, _, rfl, ⟨List.nodup_nil, by decide, by simp, fun h => absurd rfl h, rfl⟩, ⟨by rw [Int.toNat_of_nonneg hl0]; simpa using HI0.out⟩⟩
    case round =>
      rintro a wr ⟨m, Ds, mb, u11, u24, u25, u26, u27, u28, u29, u30, u31, u32, u33, u34, u35, u36, u37, rfl, HM, HBI⟩
      have hcM := HBI.out.bM.cell
      by_cases hle : m ≤ l0.length
      · have hlz : decide ((m : Int) ≤ (l0.length : Int)) = true := decide_eq_true (by omega)
        gi_wp2
        refine ⟨trivial, (packs_in Fence.wide _ trivial rfl _ _ _ _ _ _).mono ?_⟩
        rintro e w3 ⟨rfl, rfl⟩
        gi_wp2
        have bR3 : Boxed (((wr.alloc (.cells #[.int .i64 a0] 3)).alloc (.cells #[.slice A0 l0.length c0] 22)).alloc (.cells #[.int .i64 (m : Int)] 3)) wr.heap.size 3 (.int .i64 a0) := ((Boxed.new wr 3 (.int .i64 a0)).alloc _).alloc _
        have bP3 := (Boxed.new (wr.alloc (.cells #[.int .i64 a0] 3)) 22 (.slice A0 l0.length c0)).alloc (.cells #[.int .i64 (m : Int)] 3)
        have bM3 := Boxed.new ((wr.alloc (.cells #[.int .i64 a0] 3)).alloc (.cells #[.slice A0 l0.length c0] 22)) 3 (.int .i64 (m : Int))
        simp only [World.size_alloc] at bP3 bM3
        have hg3 : wr.grownBy (((wr.alloc (.cells #[.int .i64 a0] 3)).alloc (.cells #[.slice A0 l0.length c0] 22)).alloc (.cells #[.int .i64 (m : Int)] 3)) none := grown_of ((((Below.refl _ wr).alloc (Nat.le_refl _) _).alloc (by simp) _).alloc (by simp; omega) _)
        have hI3 := (HBI.out.own hg3 (fun q e => by cases e)).widen (base' := wr.heap.size + 3) (by omega)
        have hz3 : (((wr.alloc (.cells #[.int .i64 a0] 3)).alloc (.cells #[.slice A0 l0.length c0] 22)).alloc (.cells #[.int .i64 (m : Int)] 3)).heap.size = wr.heap.size + 3 := by simp
        clear hcM
        refine wpIn_rangeFunc_X rfl (by decide) (gf := 86) (lb := #[.pointer (some ⟨wr.heap.size + 1, 0, none⟩), .pointer (some ⟨wr.heap.size + 1 + 1, 0, none⟩), .pointer (some ⟨wr.heap.size, 0, none⟩)]) rfl trivial (enters_of Try.func86 (by kernel_rfl) rfl)
          (packs_seq (5 - 1) wr.heap.size a0 ⟨hok.1.1, hok.1.2.1⟩ l0 hok.2 hok.1.2.2 A0 c0 m (by omega) _ bR3 bP3 bM3 hz3) (fun h k => h.trans k) (fun W l o o' _ h h1 _ => Kp.putObj o' h h1) (Below.refl _ _) (fun _ => rfl)
          (fun pre W => pre = [] ∧ BestI w (wr.heap.size + 3) Ds mb (m : Int) (.slice none 0 0) 0 0 W)
          (fun pre W => ∃ x : Elem, pre = [x] ∧ BestI w (wr.heap.size + 3) Ds mb (m : Int) x.val (m : Int) 0 W ∧ Kd.R (Kd.int .i64) 3 W (wr.heap.size + 3 + 3 + 1) (fun _ => True) x.val x.2.2)
          (fun s W W' row hs hg hr => ⟨hs.1, hs.2.own hg (fun q e => by have := (hr q e).1; omega)⟩)
          (fun s W W' row hs hg hr => by obtain ⟨x, h1, h2, h3⟩ := hs; exact ⟨x, h1, h2.own hg (fun q e => by have := (hr q e).1; omega), (kp_own hg (fun r e => (hr r e).2)).R h3⟩)
          (fun s W W' row hs hg hr => ⟨(kp_own hg (fun r e => (hr r e).2)).R hs.1, hs.2⟩)
          (fun s W a v ha hs => ⟨hs.1, hs.2.setX a v (by omega)⟩)
          (fun s W a v ha hs => by obtain ⟨x, h1, h2, h3⟩ := hs; exact ⟨x, h1, h2.setX a v (by omega), (Kp.setCell (p := a) (by omega) v).R h3⟩)
          (fun s W hs => Kd.C_below HR.out hs.2.hB)
          ⟨rfl, hI3⟩
          (fun x => { tmps := #[.int .i64 a0, .slice A0 l0.length c0, undef, undef, .pointer (some ⟨w.heap.size, 0, none⟩), .pointer (some ⟨w.heap.size + 1, 0, none⟩), .pointer (some ⟨w.heap.size + 1 + 1, 0, none⟩), .int .i64 least, .int .i64 at_, .int .i64 0, .pointer (some ⟨mb, 0, none⟩), x.val, .int .i64 a0, .slice A0 l0.length c0, .bool true, .bool false, .tuple #[.int .i64 least, .int .i64 at_, .int .i64 0], .int .i64 a0, .slice A0 l0.length c0, .tuple #[.int .i64 least, .int .i64 at_, .int .i64 0], .int .i64 least, .int .i64 at_, .int .i64 0, .int .i64 least, .int .i64 (m : Int), .slice A0 l0.length c0, .int .i64 (l0.length : Int), .bool true, u28, u29, .int .i64 a0, .slice A0 l0.length c0, .int .i64 (m : Int), .func (.func 86) #[] #[.pointer (some ⟨wr.heap.size + 1, 0, none⟩), .pointer (some ⟨wr.heap.size + 1 + 1, 0, none⟩), .pointer (some ⟨wr.heap.size, 0, none⟩)], x.val, u35, u36, u37], defers := [] }) ?assign ?body ?done ?stop
        case assign =>
          intro l x W K hK
          gi_wp2
          exact hK
        case body =>
          rintro l pre ⟨A, c, xl⟩ W ⟨rfl, hI⟩ ⟨hvR, hvl, hvp⟩
          have hcA := hI.bA.cell
          have hfA := hI.bA.frozen
          have hcB := hI.bB.cell
          have hfB := hI.bB.frozen
          have hcC := hI.bC.cell
          have hfC := hI.bC.frozen
          have hcM := hI.bM.cell
          have HI := Aside0.mk hI
          rw [hz3] at hvR
          have HVR := Aside0.mk hvR
          have HVL := Aside0.mk hvl
          clear hvl hvp
          have hm3 := hI.l3
          have hlm := hI.lm
          have hwr := HBI.out.lm
          have hmw : mb ≠ w.heap.size := by omega
          have hcM2 : ((World.drew W).setCell ⟨w.heap.size, 0, none⟩ (.slice A xl.length c)).cell? ⟨mb, 0, none⟩ = some (.int .i64 (m : Int)) :=
            Boxed.cell (show Boxed ((World.drew W).setCell ⟨w.heap.size, 0, none⟩ (.slice A xl.length c)) mb 3 (.int .i64 (m : Int)) from (Below.heap_setCell _ ⟨w.heap.size, 0, none⟩ _ mb hmw).trans hI.bM)
          clear hI hvR
          dsimp only [Elem.val] at *
          gi_wp2
          gi_region_with_o (fail)
          all_goals
            simp only [Exit.then]
            go_at_K
            gi_wp2
            have hS3 := HI.out.set3 (.slice A xl.length c) (m : Int) 0
            have hd := grown_of (below_drew (Below.refl (((W.setCell ⟨w.heap.size, 0, none⟩ (.slice A xl.length c)).setCell ⟨w.heap.size + 1, 0, none⟩ (.int .i64 (m : Int))).setCell ⟨w.heap.size + 1 + 1, 0, none⟩ (.int .i64 0)).heap.size _))
            have hlw := HBI.out.hB.size
            have hk : Kp wr.heap.size W (((W.setCell ⟨w.heap.size, 0, none⟩ (.slice A xl.length c)).setCell ⟨w.heap.size + 1, 0, none⟩ (.int .i64 (m : Int))).setCell ⟨w.heap.size + 1 + 1, 0, none⟩ (.int .i64 0)).drew :=
              (((Kp.setCell (p := ⟨w.heap.size, 0, none⟩) (show w.heap.size < wr.heap.size by omega) _).trans (Kp.setCell (p := ⟨w.heap.size + 1, 0, none⟩) (show w.heap.size + 1 < wr.heap.size by omega) _)).trans (Kp.setCell (p := ⟨w.heap.size + 1 + 1, 0, none⟩) (show w.heap.size + 1 + 1 < wr.heap.size by omega) _)).trans (Kp.of_grown hd)
            exact ⟨((((KeepsOthers.setCell _ _ _).from _).trans ((KeepsOthers.setCell _ _ _).from _)).trans ((KeepsOthers.setCell _ _ _).from _)).trans (KeepsFrom.of_grownBy hd (by simp)), rfl, ⟨(A, c, xl), rfl, hS3.own hd (fun q e => by cases e), (hk.mono (by omega)).R HVR.out⟩, hk⟩
        case done =>
          rintro D xs W hD hS ⟨rfl, hI⟩ hK
          have hcM := hI.bM.cell
          gi_wp2
          have hlw := hI.hB.size
          have hN := hI.next (by omega) hK ((m : Int) + 1)
          have e1 : bestL a0 l0 (l0.length + 1 - (m + 1)) (m + 1) = bestL a0 l0 (l0.length + 1 - m) m := by
            rw [show l0.length + 1 - m = (l0.length + 1 - (m + 1)) + 1 by omega, bestL, ← hS]
            rfl
          have hm := HM.out.2.2.1
          exact ⟨⟨m + 1, D :: Ds, W.heap.size, _, _, _, _, _, _, _, _, _, _, _, _, _, _, _, rfl, ⟨hI.nodup (by omega) HM.out.1, by simp only [List.length_cons]; omega, by simp only [List.length_cons]; omega, fun _ => by omega, e1.trans HM.out.2.2.2.2⟩, ⟨by rw [show ((m + 1 : Nat) : Int) = (m : Int) + 1 by push_cast; rfl]; exact hN⟩⟩,
            by simp only [List.length_cons, List.length_map]; omega⟩
        case stop =>
          rintro D pre W hD hSp ⟨x, rfl, hI, hR⟩ hK
          gi_wp2
          have e0 : bestF a0 l0 least = (x.2.2, (m : Int), 0) := by
            rw [bestF, if_pos hp, ← HM.out.2.2.2.2, show l0.length + 1 - m = (l0.length - m) + 1 by omega, bestL]
            obtain ⟨t, ht⟩ := hSp
            rw [← ht]
            rfl
          exact (hI.mark (base' := D + 1) (by omega) (Nat.lt_succ_self _) hK).leave (hI.nodup (by omega) HM.out.1) (Kd.R_lower hR (by have := HBI.out.hB.size; omega)) _ rfl rfl rfl e0
      · have hlz : decide ((m : Int) ≤ (l0.length : Int)) = false := decide_eq_false (by omega)
        have hcA := HBI.out.bA.cell
        have hfA := HBI.out.bA.frozen
        have hcB := HBI.out.bB.cell
        have hfB := HBI.out.bB.frozen
        have hcC := HBI.out.bC.cell
        have hfC := HBI.out.bC.frozen
        have e0 : bestF a0 l0 least = ([], 0, 0) := by rw [bestF, if_pos hp, ← HM.out.2.2.2.2, show l0.length + 1 - m = 0 by omega]; rfl
        gi_wp2
        exact (HBI.out.set3 (.slice none 0 0) 0 0).leave HM.out.1 (Kd.R_nil _ _ _ _ _) _ rfl rfl rfl e0
  · replace hp : pieF a0 l0 = false := by simpa using hp
    rw [hp]
    have bA3 := HA.out.set (.slice none 0 0)
    have bB3 := (show Boxed (w1.setCell ⟨w.heap.size, 0, none⟩ (.slice none 0 0)) (w.heap.size + 1) 3 (.int .i64 0) from (Below.heap_setCell _ _ _ _ (by show w.heap.size + 1 ≠ w.heap.size; omega)).trans HB.out).set (.int .i64 0)
    have bA4 : Boxed ((w1.setCell ⟨w.heap.size, 0, none⟩ (.slice none 0 0)).setCell ⟨w.heap.size + 1, 0, none⟩ (.int .i64 0)) w.heap.size 22 (.slice none 0 0) := (Below.heap_setCell _ _ _ _ (by show w.heap.size ≠ w.heap.size + 1; omega)).trans bA3
    have bC4 : Boxed ((w1.setCell ⟨w.heap.size, 0, none⟩ (.slice none 0 0)).setCell ⟨w.heap.size + 1, 0, none⟩ (.int .i64 0)) (w.heap.size + 1 + 1) 24 (.int .i64 0) :=
      ((Below.heap_setCell _ _ _ _ (by show w.heap.size + 1 + 1 ≠ w.heap.size + 1; omega)).trans ((Below.heap_setCell _ _ _ _ (by show w.heap.size + 1 + 1 ≠ w.heap.size; omega)).trans HC.out))
    have bA5 : Boxed (((w1.setCell ⟨w.heap.size, 0, none⟩ (.slice none 0 0)).setCell ⟨w.heap.size + 1, 0, none⟩ (.int .i64 0)).setCell ⟨w.heap.size + 1 + 1, 0, none⟩ (.int .i64 2)) w.heap.size 22 (.slice none 0 0) := (Below.heap_setCell _ _ _ _ (by show w.heap.size ≠ w.heap.size + 1 + 1; omega)).trans bA4
    have bB5 : Boxed (((w1.setCell ⟨w.heap.size, 0, none⟩ (.slice none 0 0)).setCell ⟨w.heap.size + 1, 0, none⟩ (.int .i64 0)).setCell ⟨w.heap.size + 1 + 1, 0, none⟩ (.int .i64 2)) (w.heap.size + 1) 3 (.int .i64 0) := (Below.heap_setCell _ _ _ _ (by show w.heap.size + 1 ≠ w.heap.size + 1 + 1; omega)).trans bB3
    have bC5 := bC4.set (.int .i64 2)
    have e0 : bestF a0 l0 least = ([], 0, 2) := by rw [bestF, if_neg (by rw [hp]; decide)]
    gi_wp2
    rw [e0]
    exact ⟨_, results_cell3 rfl _ _ _ _ _ _ _ _ rfl rfl rfl (load22 bA5.cell) (load3 bB5.cell) (load24 bC5.cell), _, rfl, Kd.R_nil _ _ _ _ _,
      ((HB1.out.setCell (p := ⟨w.heap.size, 0, none⟩) (Nat.le_refl _) _).setCell (p := ⟨w.heap.size + 1, 0, none⟩) (Nat.le_succ _) _).setCell (p := ⟨w.heap.size + 1 + 1, 0, none⟩) (by show w.heap.size ≤ w.heap.size + 1 + 1; omega) _⟩

end Go.Proofs.Ytcjglbipkghhnaa.Hand
