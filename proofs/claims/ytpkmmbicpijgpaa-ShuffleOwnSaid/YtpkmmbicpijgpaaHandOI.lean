-- Rows of a row, while they are overwritten.
import Derived.Test.YtpkmmbicpijgpaaOx4
namespace Go.Proofs.Ytpkmmbicpijgpaa.O
open Go.RowKit Go.Shelf Go.Proofs.YtpkmmbicpijgpaaW.PrintWords Go.Proofs.YtpkmmbicpijgpaaW.PrintLast Go.Proofs.YtpkmmbicpijgpaaW.PrintMore
set_option linter.unusedVariables false

/-- A row of rows in block X, the rows' own blocks where okA allows. -/
structure OwInv (okA : Nat → Prop) (X : Nat) (curX : Array Value) (rows : List (List Int)) (W : World) : Prop where
  head : W.heap[X]? = some (.cells curX 22 (0, 0))
  row : ∀ (i : Nat) (r : List Int), rows[i]? = some r → ∃ (A : Option Addr) (c : Nat), curX[i]? = some (.slice A r.length c) ∧ (r.length = 0 ∨ ∃ (b : Nat) (cur : Array Value), A = some ⟨b, 0, none⟩ ∧ W.heap[b]? = some (.cells cur 3 (0, 0)) ∧ r.length ≤ cur.size ∧ okA b)
theorem OwInv.drewN {okA : Nat → Prop} {X : Nat} {curX : Array Value} {rows : List (List Int)} {W : World} (h : OwInv okA X curX rows W) (n : Nat) : OwInv okA X curX rows (W.drewN n) := ⟨h.head, h.row⟩
theorem OwInv.set {okA : Nat → Prop} {X : Nat} {curX : Array Value} {rows : List (List Int)} {W : World} (h : OwInv okA X curX rows W) {b : Nat} {cur : Array Value} (hb : W.heap[b]? = some (.cells cur 3 (0, 0))) (k : Nat) (u : Value) : OwInv okA X curX rows (W.setCell ⟨b, k, none⟩ u) := by
  refine ⟨?_, fun i r hr => ?_⟩
  · have hne : X ≠ b := by
      intro e
      have h1 := h.head
      rw [e, hb] at h1
      injection h1 with h1
      injection h1 with _ h2 _
      exact absurd h2 (by decide)
    rw [Below.heap_setCell W ⟨b, k, none⟩ u X hne]
    exact h.head
  · obtain ⟨A, c, h1, h2⟩ := h.row i r hr
    refine ⟨A, c, h1, ?_⟩
    rcases h2 with h2 | ⟨b', cur', h2, h3, h4, h5⟩
    · exact .inl h2
    · right
      by_cases e : b' = b
      · subst e
        rw [hb] at h3
        injection h3 with h3
        injection h3 with h3 _ _
        subst h3
        exact ⟨b', _, h2, heap_setCell_same W b' k cur 3 u hb, by simpa using h4, h5⟩
      · exact ⟨b', cur', h2, by rw [Below.heap_setCell W ⟨b, k, none⟩ u b' e]; exact h3, h4, h5⟩
theorem OwInv.of_R {okA : Nat → Prop} {rows : List (List Int)} {W : World} {base : Nat} {v : Value} (h : (Kd.slice 3 (Kd.int .i64)).R 22 W base okA v rows) (hp : 0 < rows.length) :
    ∃ (X c : Nat) (curX : Array Value), v = .slice (some ⟨X, 0, none⟩) rows.length c ∧ OwInv okA X curX rows W := by
  obtain ⟨_, inner, ho, hr⟩ := h
  have hil : inner.length = rows.length := by have := hr.1; rw [this]; exact Nat.mul_one _
  rcases ho.2 with ⟨_, h0⟩ | ⟨X, cap, cur, rfl, _, hX, _, _, _, htake⟩
  · omega
  · refine ⟨X, cap, cur, rfl, hX, fun i r hri => ?_⟩
    have hi : i < rows.length := by
      rcases Nat.lt_or_ge i rows.length with h | h
      · exact h
      · rw [List.getElem?_eq_none h] at hri; cases hri
    obtain ⟨u, hu, hR⟩ := hr.2 i r hri
    have hui : inner[i]? = some u := by
      have e : ((inner.drop (i * 1)).take 1)[0]? = some u := by
        have hu' : (inner.drop (i * (Kd.slice 3 (Kd.int .i64)).sz)).take (Kd.slice 3 (Kd.int .i64)).sz = [u] := hu
        have hu2 : (inner.drop (i * 1)).take 1 = [u] := hu'
        rw [hu2]; rfl
      rw [List.getElem?_take_of_lt (by decide), List.getElem?_drop, Nat.mul_one, Nat.add_zero] at e
      exact e
    have hcur : cur[i]? = some u := by
      have ht : cur.toList.take (rows.length * 1) = inner := htake
      rw [← Array.getElem?_toList, ← hui, ← ht, List.getElem?_take_of_lt (by omega)]
    obtain ⟨_, inner2, ho2, _⟩ := id hR
    rcases ho2.2 with ⟨rfl, h0⟩ | ⟨b, cap2, cur2, rfl, _, hb, hl, _, hs, _⟩
    · exact ⟨none, 0, by rw [hcur, h0], .inl h0⟩
    · refine ⟨some ⟨b, 0, none⟩, cap2, hcur, .inr ⟨b, cur2, rfl, hb, ?_, ?_⟩⟩
      · have hs' : cur2.size = cap2 * 1 := hs
        omega
      · exact (hR.1 b (by simp [Value.ownBlock])).1
/-- A row of rows as what an append reads. -/
theorem rows_of_R {ok : Nat → Prop} {rows : List (List Int)} {W : World} {base n c : Nat} {A : Option Addr} (h : (Kd.slice 3 (Kd.int .i64)).R 22 W base ok (.slice A n c) rows) (hn : n = rows.length) :
    ReadsRow ((Kd.slice 3 (Kd.int .i64)).M W base ok) (Kd.slice 3 (Kd.int .i64)).sz W A n rows := by
  obtain ⟨_, inner, ho, hr⟩ := h
  obtain ⟨A', c', e, h2⟩ := own_reads_row ho (hr.imp_ fun p cs hp => (Kd.slice 3 (Kd.int .i64)).M_mono (ok' := ok) (fun k hk => hk.1) hp) rfl
  subst hn
  injection e with e1 e2 e3
  subst e1
  exact h2
/-- Two rows laid side by side. -/
theorem lit_R {W : World} {base : Nat} {ok okp : Nat → Prop} {x y : List Int} {vx vy : Value} (hx : (Kd.int .i64).R 3 W base okp vx x) (hy : (Kd.int .i64).R 3 W base okp vy y) (hok : ∀ k, okp k → ok k) (hlt : ∀ k, okp k → k < W.heap.size) (hfresh : ok W.heap.size) (hbase : base ≤ W.heap.size) :
    (Kd.slice 3 (Kd.int .i64)).R 22 (W.alloc (.cells #[vx, vy] 22)) base ok (.slice (some ⟨W.heap.size, 0, none⟩) 2 2) [x, y] := by
  refine ⟨fun k hk => ?_, [vx, vy], ?_, ?_⟩
  · have : W.heap.size = k := by simpa [Value.ownBlock] using hk
    subst this
    exact hfresh
  · have h2 := World.ownsRow_lit (base := base) (e := 22) (size := 1) W #[vx, vy] 2 hbase (by decide) rfl
    exact h2
  · have hm : ∀ (r : List Int) (v : Value), (Kd.int .i64).R 3 W base okp v r → (Kd.slice 3 (Kd.int .i64)).M (W.alloc (.cells #[vx, vy] 22)) base (fun k => ok k ∧ some k ≠ (Value.slice (some ⟨W.heap.size, 0, none⟩) 2 2).ownBlock) r [v] := fun r v h =>
      ⟨v, rfl, Kd.R_alloc (Kd.R_mono h fun k hk => ⟨hok k hk, fun e => by
        have : W.heap.size = k := by simpa [Value.ownBlock] using e.symm
        have := hlt k hk
        omega⟩) _⟩
    exact Reps.snoc (Reps.snoc (Reps.none _ _) (hm x vx hx) rfl) (hm y vy hy) rfl
/-- What lay below the literal stays behind the append to it. -/
theorem grown_keep {W W1 : World} {o : Obj} {n c : Nat} (hg : (W.alloc o).grownBy W1 (Value.slice (some ⟨W.heap.size, 0, none⟩) n c).ownBlock) (k : Nat) (hk : k < W.heap.size) : W1.heap[k]? = W.heap[k]? := by
  rw [hg.block k (by simp; omega) (by intro e; have : k = W.heap.size := by simpa [Value.ownBlock] using e
                                      omega)]
  exact Below.heap_alloc W o k hk
/-- The first row of a row of rows, as it is read. -/
theorem head_row {ok : Nat → Prop} {rows : List (List Int)} {W : World} {base n c : Nat} {A : Option Addr} (h : (Kd.slice 3 (Kd.int .i64)).R 22 W base ok (.slice A n c) rows) (hn : n = rows.length) (hp : 0 < rows.length) :
    ∃ (X : Nat) (A0 : Option Addr) (c0 : Nat), A = some ⟨X, 0, none⟩ ∧ W.cell? ⟨X, 0, none⟩ = some (.slice A0 (rows.getD 0 []).length c0) ∧ (rows.getD 0 []).length ≤ c0 ∧ (Kd.int .i64).C W A0 (rows.getD 0 []).length (rows.getD 0 []) := by
  have hA : ∃ X, A = some ⟨X, 0, none⟩ := by
    obtain ⟨_, inner, ho, _⟩ := id h
    rcases ho.2 with ⟨h1, h0⟩ | ⟨X, cap, cur, h1, _⟩
    · omega
    · injection h1 with h1 _ _
      exact ⟨X, h1⟩
  obtain ⟨X, rfl⟩ := hA
  obtain ⟨cs, _, ⟨v, hcs, hR⟩, hcell⟩ := Kd.R_get h [] 0 (by decide) (by omega)
  obtain ⟨A0, c0, rfl⟩ := Kd.R_slice hR
  obtain ⟨_, h2, h3⟩ := Kd.R_reads' hR
  refine ⟨X, A0, c0, rfl, ?_, h2, h3⟩
  have := hcell 0 _ (by rw [hcs]; rfl)
  simpa [Addr.add] using this

end Go.Proofs.Ytpkmmbicpijgpaa.O
