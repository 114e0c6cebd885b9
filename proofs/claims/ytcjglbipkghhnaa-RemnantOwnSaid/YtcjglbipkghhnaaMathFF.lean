-- Plain lemmas over the names of the B print: first fit and best fit, of the program and of the reference.
import Derived.Test.YtcjglbipkghhnaaMathRO
namespace Go.Proofs.Ytcjglbipkghhnaa.Math
open Go.RowKit Go.Proofs.Ytcjglbipkghhnaa.B Go.Proofs.YtcjglbipkghhnaaW.PrintWords Go.Proofs.YtcjglbipkghhnaaW.PrintLast Go.Proofs.YtcjglbipkghhnaaW.PrintMore
open Go.Proofs.Ytcjglbipkghhnaa.Hand hiding wrap_in look
set_option linter.unusedVariables false

theorem rd_take (x : List Int) (n b : Nat) (h : b < n) : rd (x.take n) (b : Int) = x.getD b 0 := by
  unfold rd
  rw [Int.toNat_natCast, List.getD_eq_getElem?_getD, List.getD_eq_getElem?_getD, List.getElem?_take_of_lt h]
/-- One piece is put, in both. -/
theorem put_step {room : Int} {ps : List Int} {p : Int → Int → Bool} {out x : List Int} {n j i : Nat} (h : FitOK room ps.length j (out, x, n)) (hj : j < 12) (hi : i < ps.length) (hs : 1 ≤ rd ps (i : Int) ∧ rd ps (i : Int) ≤ room) (hr : room ≤ 100) {b : Nat}
    (hb : b = if scan x room (rd ps (i : Int)) p n < 0 then n else (scan x room (rd ps (i : Int)) p n).toNat) :
    FitOK room ps.length (j + 1) (fitStep room ps p (out, x, n) (i : Int)) ∧ galloonref09_put.f out (x.take n) (i : Int) (b : Int) (rd ps (i : Int)) = some ((fitStep room ps p (out, x, n) (i : Int)).1, (fitStep room ps p (out, x, n) (i : Int)).2.1.take (fitStep room ps p (out, x, n) (i : Int)).2.2) := by
  have h' := h
  obtain ⟨h1, h2, h3, h4, h5⟩ := h
  dsimp only at h1 h2 h3 h4 h5
  have htl : (x.take n).length = n := by rw [List.length_take]; omega
  rcases scan_inv x room (rd ps (i : Int)) p n with hn | ⟨s1, s2, s3⟩
  · have e := fitStep_new (room := room) (pieces := ps) (out := out) (i := (i : Int)) hn
    rw [if_pos (by omega)] at hb
    rw [hb]
    clear hb
    have hz := h5 n (Nat.le_refl _) (by omega)
    rw [e]
    refine ⟨fitOK_put h' (by omega) (by omega) (by omega) (by omega) (by omega) (by omega), ?_⟩
    unfold galloonref09_put.f
    have hr0 : rd (x.take n ++ [0]) (n : Int) = 0 := by
      unfold rd
      rw [Int.toNat_natCast, List.getD_eq_getElem?_getD, List.getElem?_append_right (by omega), htl, Nat.sub_self]
      rfl
    rw [if_pos (by omega), if_pos (by omega), Option.bind_some, if_pos (by omega), if_pos (by omega), if_pos (by omega), if_pos (by simp; omega), hr0, wrap_in (by omega) (by omega)]
    congr 2
    rw [Int.toNat_natCast, hz]
    apply List.ext_getElem
    · simp; omega
    · intro m m1 m2
      rw [List.getElem_set, List.getElem_take, List.getElem_set]
      by_cases e2 : n = m
      · rw [if_pos e2, if_pos e2]
      · rw [if_neg e2, if_neg e2]
        have : m < n := by simp at m1; omega
        rw [List.getElem_append_left (by omega), List.getElem_take]
  · obtain ⟨c, hc⟩ := Int.eq_ofNat_of_zero_le s1
    rw [hc] at s1 s2 s3 hb
    rw [if_neg (by omega), Int.toNat_natCast] at hb
    rw [Int.toNat_natCast] at s3
    subst hb
    have e := fitStep_old (room := room) (pieces := ps) (out := out) (i := (i : Int)) hc
    have hx := h4 b (by omega)
    rw [e]
    refine ⟨fitOK_put h' (by omega) (by omega) (by omega) (by omega) (by omega) s3, ?_⟩
    unfold galloonref09_put.f
    rw [if_neg (by omega), if_pos (by omega), if_pos (by omega), if_pos (by omega), if_pos (by omega), rd_take x n b (by omega), wrap_in (by omega) (by omega)]
    simp only [Int.toNat_natCast, List.take_set]

/-- What the scan of first fit finds. -/
theorem scan_never (x : List Int) (room sz : Int) : ∀ n, (scan x room sz (fun _ _ => false) n = -1 ∧ ∀ b, b < n → ¬ x.getD b 0 + sz ≤ room) ∨ ∃ b, b < n ∧ scan x room sz (fun _ _ => false) n = (b : Int) ∧ x.getD b 0 + sz ≤ room ∧ ∀ c, c < b → ¬ x.getD c 0 + sz ≤ room
  | 0 => .inl ⟨rfl, fun b hb => by omega⟩
  | n + 1 => by
    rw [scan_succ]
    rcases scan_never x room sz n with ⟨h1, h2⟩ | ⟨b, hb, h1, h2, h3⟩
    · by_cases hf : x.getD n 0 + sz ≤ room
      · right
        refine ⟨n, by omega, ?_, hf, h2⟩
        unfold scanStep
        rw [if_pos ⟨hf, .inl (by omega)⟩]
      · left
        refine ⟨?_, fun b hb => ?_⟩
        · unfold scanStep
          rw [if_neg (fun k => hf k.1), h1]
        · by_cases e : b = n
          · rw [e]; exact hf
          · exact h2 b (by omega)
    · right
      refine ⟨b, by omega, ?_, h2, h3⟩
      unfold scanStep
      rw [h1, if_neg]
      rintro ⟨_, k | k⟩
      · omega
      · cases k
/-- The box that first fit looks for. -/
theorem first_box {room : Int} {ps order : List Int} {out x : List Int} {n : Nat} {i j b : Nat} (hx : x.length = 12) (hn : n ≤ 12) (hr : 1 ≤ room ∧ room ≤ 100) (hxb : ∀ b, b < 12 → 0 ≤ x.getD b 0 ∧ x.getD b 0 ≤ room) (hi : i < ps.length) (hs : 1 ≤ rd ps (i : Int) ∧ rd ps (i : Int) ≤ room) (hbn : b ≤ n) (hlast : b = n ∨ x.getD b 0 + rd ps (i : Int) ≤ room) (hno : ∀ c, c < b → ¬ x.getD c 0 + rd ps (i : Int) ≤ room) :
    ∀ m c, c + m = b → ∀ k, galloonref09_First.l1 (k + m + 1) room ps order out (x.take n) (j : Int) (i : Int) (c : Int) = (galloonref09_put.f out (x.take n) (i : Int) (b : Int) (rd ps (i : Int))).bind fun bt => galloonref09_First.l0 k room ps order bt.1 bt.2 (wrap64 ((j : Int) + 1)) := by
  have htl : (x.take n).length = n := by rw [List.length_take]; omega
  intro m
  induction m with
  | zero =>
    intro c hc k
    obtain rfl : c = b := by omega
    rw [galloonref09_First.l1]
    rcases hlast with e | e
    · subst e
      rw [if_neg (by omega), if_pos (by omega), if_pos (by omega)]
    · by_cases e2 : c = n
      · subst e2
        rw [if_neg (by omega), if_pos (by omega), if_pos (by omega)]
      · have hb := hxb c (by omega)
        rw [if_pos (by omega), if_pos (by omega), if_pos (by omega), if_pos (by omega), rd_take x n c (by omega), wrap_in (by omega) (by omega), if_neg (by omega)]
  | succ m ih =>
    intro c hc k
    have hb := hxb c (by omega)
    have hnc := hno c (by omega)
    rw [show k + (m + 1) + 1 = (k + m + 1) + 1 by omega, galloonref09_First.l1, if_pos (by omega), if_pos (by omega), if_pos (by omega), if_pos (by omega), rd_take x n c (by omega), wrap_in (n := x.getD c 0 + rd ps (i : Int)) (by omega) (by omega), if_pos (by omega), next (by omega), ih (c + 1) (by omega) k]
theorem first_go {room : Int} {ps order : List Int} (hr : 1 ≤ room ∧ room ≤ 100) (hp : ∀ i : Nat, i < ps.length → 1 ≤ rd ps (i : Int) ∧ rd ps (i : Int) ≤ room) (ho : ∀ i ∈ order, 0 ≤ i ∧ i < (ps.length : Int)) (h12 : order.length ≤ 12) :
    ∀ m j st, j + m = order.length → FitOK room ps.length j st → ∀ k, 20 * m < k → galloonref09_First.l0 k room ps order st.1 (st.2.1.take st.2.2) (j : Int) = some ((order.drop j).foldl (fitStep room ps fun _ _ => false) st).1 := by
  intro m
  induction m with
  | zero =>
    intro j st hj hF k hk
    obtain ⟨k, rfl⟩ : ∃ k', k = k' + 1 := ⟨k - 1, by omega⟩
    rw [galloonref09_First.l0, if_neg (by omega), List.drop_of_length_le (by omega)]
    rfl
  | succ m ih =>
    intro j st hj hF k hk
    obtain ⟨out, x, n⟩ := st
    have hF' := hF
    obtain ⟨h1, h2, h3, h4, h5⟩ := hF
    dsimp only at h1 h2 h3 h4 h5 ⊢
    have hij := ho _ (Hand.rd_mem (l := order) (j := j) (by omega))
    obtain ⟨i, hi⟩ := Int.eq_ofNat_of_zero_le hij.1
    rw [hi] at hij
    have hs := hp i (by omega)
    obtain ⟨b, hb⟩ : ∃ b : Nat, b = if scan x room (rd ps (i : Int)) (fun _ _ => false) n < 0 then n else (scan x room (rd ps (i : Int)) (fun _ _ => false) n).toNat := ⟨_, rfl⟩
    have hfirst : b ≤ n ∧ (b = n ∨ x.getD b 0 + rd ps (i : Int) ≤ room) ∧ ∀ c, c < b → ¬ x.getD c 0 + rd ps (i : Int) ≤ room := by
      rcases scan_never x room (rd ps (i : Int)) n with ⟨e, e2⟩ | ⟨b', e0, e, e2, e3⟩
      · rw [e, if_pos (by decide)] at hb
        subst hb
        exact ⟨Nat.le_refl _, .inl rfl, e2⟩
      · rw [e, if_neg (by omega), Int.toNat_natCast] at hb
        subst hb
        exact ⟨by omega, .inr e2, e3⟩
    obtain ⟨f1, f2, f3⟩ := hfirst
    obtain ⟨g1, g2⟩ := put_step (p := fun _ _ => false) hF' (by omega) (by omega) hs hr.2 hb
    obtain ⟨k, rfl⟩ : ∃ k', k = k' + b + 1 + 1 := ⟨k - b - 2, by omega⟩
    rw [galloonref09_First.l0, if_pos (by omega), if_pos (by omega), hi, rd_drop' order j (by omega), List.foldl_cons, hi]
    have e := first_box (order := order) (out := out) (j := j) h2 (by omega) hr h4 (by omega) hs f1 f2 f3 b 0 (by omega) k
    rw [show ((0 : Nat) : Int) = 0 from rfl] at e
    rw [e, g2, Option.bind_some, next (by omega)]
    exact ih (j + 1) _ (by omega) g1 k (by omega)
theorem first_eq {room : Int} {ps order : List Int} (hr : 1 ≤ room ∧ room ≤ 100) (hp : ∀ i : Nat, i < ps.length → 1 ≤ rd ps (i : Int) ∧ rd ps (i : Int) ≤ room) (ho : ∀ i ∈ order, 0 ≤ i ∧ i < (ps.length : Int)) (h12 : order.length ≤ 12) (hl : ps.length ≤ 12) (k : Nat) (hk : 300 < k) :
    galloonref09_First.f k room ps order = some (fitF room ps (fun _ _ => false) order) := by
  have h := first_go hr hp ho h12 order.length 0 (List.replicate ps.length 0, List.replicate 12 0, 0) (by omega) (fitOK_start room ps.length (by omega)) k (by omega)
  unfold galloonref09_First.f
  rw [if_pos (by omega), if_pos (by omega), Int.toNat_natCast]
  exact h

end Go.Proofs.Ytcjglbipkghhnaa.Math
