-- Rows of a row, while they are overwritten.
import Derived.Test.YtcjglbipkghhnaaBx1
namespace Go.Proofs.Ytcjglbipkghhnaa.B
open Go.RowKit Go.Shelf Go.Proofs.YtcjglbipkghhnaaW.PrintWords Go.Proofs.YtcjglbipkghhnaaW.PrintLast Go.Proofs.YtcjglbipkghhnaaW.PrintMore
set_option linter.unusedVariables false

/-- A row of rows in block X, the rows' own blocks where okA allows. -/
structure OwInv (okA : Nat → Prop) (X : Nat) (curX : Array Value) (rows : List (List Int)) (W : World) : Prop where
  head : W.heap[X]? = some (.cells curX 22 (0, 0))
  row : ∀ (i : Nat) (r : List Int), rows[i]? = some r → ∃ (A : Option Addr) (c : Nat), curX[i]? = some (.slice A r.length c) ∧ (r.length = 0 ∨ ∃ (b : Nat) (cur : Array Value), A = some ⟨b, 0, none⟩ ∧ W.heap[b]? = some (.cells cur 3 (0, 0)) ∧ r.length ≤ cur.size ∧ okA b)
theorem OwInv.drewN {okA : Nat → Prop} {X : Nat} {curX : Array Value} {rows : List (List Int)} {W : World} (h : OwInv okA X curX rows W) (n : Nat) : OwInv okA X curX rows (W.drewN n) := ⟨h.head, h.row⟩
theorem OwInv.set {okA : Nat → Prop} {X : Nat} {curX : Array Value} {rows : List (List Int)} {W : World} (h : OwInv okA X curX rows W) {b : Nat} {cur : Array Value} (hb : W.heap[b]? = some (.cells cur 3 (0, 0))) (k : Nat) (u : Value) : OwInv okA X curX rows (W.setCell ⟨b, k, none⟩ u) := by
  refine ⟨?_, fun i r hr => ?_⟩
  · have hne : X ≠ b := by
      intro e
      have h1 := h.head
      rw [e, hb] at h1
      injection h1 with h1
      injection h1 with _ h2 _
      exact absurd h2 (by decide)
    rw [Below.heap_setCell W ⟨b, k, none⟩ u X hne]
    exact h.head
  · obtain ⟨A, c, h1, h2⟩ := h.row i r hr
    refine ⟨A, c, h1, ?_⟩
    rcases h2 with h2 | ⟨b', cur', h2, h3, h4, h5⟩
    · exact .inl h2
    · right
      by_cases e : b' = b
      · subst e
        rw [hb] at h3
        injection h3 with h3
        injection h3 with h3 _ _
        subst h3
        exact ⟨b', _, h2, heap_setCell_same W b' k cur 3 u hb, by simpa using h4, h5⟩
      · exact ⟨b', cur', h2, by rw [Below.heap_setCell W ⟨b, k, none⟩ u b' e]; exact h3, h4, h5⟩
theorem OwInv.of_R {okA : Nat → Prop} {rows : List (List Int)} {W : World} {base : Nat} {v : Value} (h : (Kd.slice 3 (Kd.int .i64)).R 22 W base okA v rows) (hp : 0 < rows.length) :
    ∃ (X c : Nat) (curX : Array Value), v = .slice (some ⟨X, 0, none⟩) rows.length c ∧ OwInv okA X curX rows W := by
  obtain ⟨_, inner, ho, hr⟩ := h
  have hil : inner.length = rows.length := by have := hr.1; rw [this]; exact Nat.mul_one _
  rcases ho.2 with ⟨_, h0⟩ | ⟨X, cap, cur, rfl, _, hX, _, _, _, htake⟩
  · omega
  · refine ⟨X, cap, cur, rfl, hX, fun i r hri => ?_⟩
    have hi : i < rows.length := by
      rcases Nat.lt_or_ge i rows.length with h | h
      · exact h
      · rw [List.getElem?_eq_none h] at hri; cases hri
    obtain ⟨u, hu, hR⟩ := hr.2 i r hri
    have hui : inner[i]? = some u := by
      have e : ((inner.drop (i * 1)).take 1)[0]? = some u := by
        have hu' : (inner.drop (i * (Kd.slice 3 (Kd.int .i64)).sz)).take (Kd.slice 3 (Kd.int .i64)).sz = [u] := hu
        have hu2 : (inner.drop (i * 1)).take 1 = [u] := hu'
        rw [hu2]; rfl
      rw [List.getElem?_take_of_lt (by decide), List.getElem?_drop, Nat.mul_one, Nat.add_zero] at e
      exact e
    have hcur : cur[i]? = some u := by
      have ht : cur.toList.take (rows.length * 1) = inner := htake
      rw [← Array.getElem?_toList, ← hui, ← ht, List.getElem?_take_of_lt (by omega)]
    obtain ⟨_, inner2, ho2, _⟩ := id hR
    rcases ho2.2 with ⟨rfl, h0⟩ | ⟨b, cap2, cur2, rfl, _, hb, hl, _, hs, _⟩
    · exact ⟨none, 0, by rw [hcur, h0], .inl h0⟩
    · refine ⟨some ⟨b, 0, none⟩, cap2, hcur, .inr ⟨b, cur2, rfl, hb, ?_, ?_⟩⟩
      · have hs' : cur2.size = cap2 * 1 := hs
        omega
      · exact (hR.1 b (by simp [Value.ownBlock])).1
/-- A literal of rows. -/
theorem OwInv.lit {okA okp : Nat → Prop} {base : Nat} (W : World) (curX : Array Value) (rows : List (List Int)) (h1 : ∀ k, okp k → okA k) (h2 : ∀ k, okp k → k < W.heap.size) (h : ∀ (i : Nat) (r : List Int), rows[i]? = some r → ∃ (A : Option Addr) (c : Nat), curX[i]? = some (.slice A r.length c) ∧ (Kd.int .i64).R 3 W base okp (.slice A r.length c) r) :
    OwInv okA W.heap.size curX rows (W.alloc (.cells curX 22)) := by
  refine ⟨heap_alloc_new W _, fun i r hr => ?_⟩
  obtain ⟨A, c, hc, hR⟩ := h i r hr
  refine ⟨A, c, hc, ?_⟩
  obtain ⟨_, inner2, ho2, _⟩ := id hR
  rcases ho2.2 with ⟨_, h0⟩ | ⟨b, cap2, cur2, hv, _, hb, hl, _, hs, _⟩
  · exact .inl h0
  · injection hv with e1 e2 e3
    subst e1
    have hk := hR.1 b (by simp [Value.ownBlock])
    refine .inr ⟨b, cur2, rfl, by rw [Below.heap_alloc W _ b (h2 b hk)]; exact hb, ?_, h1 b hk⟩
    have hs' : cur2.size = cap2 * 1 := hs
    omega

end Go.Proofs.Ytcjglbipkghhnaa.B
