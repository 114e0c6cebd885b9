-- Plain lemmas: a weighing is at most the number of boxes that do.
import Derived.Test.YtcjglbipkghhnaaMathR
namespace Go.Proofs.Ytcjglbipkghhnaa.Math
open Go.RowKit Go.Proofs.YtcjglbipkghhnaaW.PrintWords Go.Proofs.YtcjglbipkghhnaaW.PrintLast Go.Proofs.YtcjglbipkghhnaaW.PrintMore
set_option linter.unusedVariables false

def gW (room a q : Int) : Int := if q > room - a then room else if 2 * q > room then q else if q ≥ a then q else 0
def bigW (room a q : Int) : Int := if q > room - a then 1 else if 2 * q > room then 1 else 0
/-- What a function of the pieces adds up to in a box. -/
def bs (f : Nat → Int) (g : Nat → Nat) (b n : Nat) : Int := ((List.range n).map fun i => if g i = b then f i else 0).sum
theorem bs_succ (f : Nat → Int) (g : Nat → Nat) (b n : Nat) : bs f g b (n + 1) = bs f g b n + (if g n = b then f n else 0) := by
  unfold bs
  rw [List.range_succ, List.map_append, List.sum_append]
  simp
def tot (f : Nat → Int) (n : Nat) : Int := ((List.range n).map f).sum
theorem tot_succ (f : Nat → Int) (n : Nat) : tot f (n + 1) = tot f n + f n := by
  unfold tot
  rw [List.range_succ, List.map_append, List.sum_append]
  simp
theorem bs_total (f : Nat → Int) (g : Nat → Nat) (M : Nat) : ∀ n, (∀ i, i < n → g i < M) → ((List.range M).map fun b => bs f g b n).sum = tot f n
  | 0, _ => by rw [sum_zero]; · rfl
               · intro i _; rfl
  | n + 1, h => by
    rw [tot_succ, ← bs_total f g M n fun i hi => h i (by omega)]
    refine sum_one _ List.nodup_range (g n) (List.mem_range.2 (h n (by omega))) _ _ _ (fun b hb => ?_) ?_
    · rw [bs_succ, if_neg (Ne.symm hb), Int.add_zero]
    · rw [bs_succ, if_pos rfl]
theorem sum_le (c : Int) : ∀ (r : List Nat) (f : Nat → Int), (∀ b ∈ r, f b ≤ c) → (r.map f).sum ≤ c * r.length
  | [], _, _ => by simp
  | b :: r, f, h => by
    have h1 := sum_le c r f fun b hb => h b (List.mem_cons_of_mem _ hb)
    have h2 := h b List.mem_cons_self
    rw [List.map_cons, List.sum_cons, List.length_cons]
    have : c * ((r.length + 1 : Nat) : Int) = c * r.length + c := by rw [Int.natCast_add, Int.mul_add]; simp
    omega
/-- One box. -/
theorem box_bound {room a : Int} (ha : 0 ≤ a) (ha2 : 2 * a ≤ room) (p : Nat → Int) (g : Nat → Nat) (b : Nat) : ∀ n, (∀ i, i < n → 1 ≤ p i ∧ p i ≤ room) → bs p g b n ≤ room →
    0 ≤ bs p g b n ∧ 0 ≤ bs (fun i => bigW room a (p i)) g b n ∧ bs (fun i => bigW room a (p i)) g b n ≤ 1 ∧
    (bs (fun i => gW room a (p i)) g b n ≤ bs p g b n ∨ (bs (fun i => gW room a (p i)) g b n ≤ room ∧ bs p g b n > room - a)) ∧ (1 ≤ bs (fun i => bigW room a (p i)) g b n → 2 * bs p g b n > room) ∧
    (bs p g b n < a → bs (fun i => gW room a (p i)) g b n ≤ 0)
  | 0, _, _ => ⟨Int.le_refl _, Int.le_refl _, (show (0 : Int) ≤ 1 by decide), .inl (Int.le_refl _), fun h => absurd (show (1 : Int) ≤ 0 from h) (by decide), fun _ => Int.le_refl _⟩
  | n + 1, hp, h => by
    have e1 := bs_succ p g b n
    have e2 := bs_succ (fun i => bigW room a (p i)) g b n
    have e3 := bs_succ (fun i => gW room a (p i)) g b n
    have hpn := hp n (by omega)
    by_cases hg : g n = b
    · rw [if_pos hg] at e1 e2 e3
      obtain ⟨i1, i2, i3, i4, i5, i6⟩ := box_bound ha ha2 p g b n (fun i hi => hp i (by omega)) (by omega)
      rw [e1, e2, e3]
      rw [e1] at h
      generalize bs p g b n = P at *
      generalize bs (fun i => bigW room a (p i)) g b n = K at *
      generalize bs (fun i => gW room a (p i)) g b n = G at *
      try dsimp only
      generalize p n = q at *
      unfold gW bigW
      by_cases c1 : q > room - a
      · rw [if_pos c1, if_pos c1]
        have : P < a := by omega
        have := i6 this
        omega
      · rw [if_neg c1, if_neg c1]
        by_cases c2 : 2 * q > room
        · rw [if_pos c2, if_pos c2]; omega
        · rw [if_neg c2, if_neg c2]
          by_cases c3 : q ≥ a
          · rw [if_pos c3]; omega
          · rw [if_neg c3]; omega
    · rw [if_neg hg, Int.add_zero] at e1 e2 e3
      rw [e1, e2, e3]
      exact box_bound ha ha2 p g b n (fun i hi => hp i (by omega)) (by omega)
/-- A weighing. -/
def wgt (room a : Int) (p : Nat → Int) (n : Nat) : Int := mx (tot (fun i => bigW room a (p i)) n) ((tot (fun i => gW room a (p i)) n + room - 1) / room)
theorem mx_le {a b c : Int} (h1 : a ≤ c) (h2 : b ≤ c) : mx a b ≤ c := by unfold mx; split <;> omega
theorem le_mx1 (a b : Int) : a ≤ mx a b := by unfold mx; split <;> omega
theorem le_mx2 (a b : Int) : b ≤ mx a b := by unfold mx; split <;> omega
theorem wgt_le {room a : Int} (h1 : 1 ≤ room) (ha : 0 ≤ a) (ha2 : 2 * a ≤ room) (p : Nat → Int) (n M : Nat) (hp : ∀ i, i < n → 1 ≤ p i ∧ p i ≤ room) (g : Nat → Nat) (hg : ∀ i, i < n → g i < M) (hl : ∀ b, b < M → bs p g b n ≤ room) : wgt room a p n ≤ M := by
  have hb := fun b hb => box_bound ha ha2 p g b n hp (hl b hb)
  have t1 := bs_total (fun i => bigW room a (p i)) g M n hg
  have t2 := bs_total (fun i => gW room a (p i)) g M n hg
  have s1 := sum_le 1 (List.range M) (fun b => bs (fun i => bigW room a (p i)) g b n) fun b h => (hb b (List.mem_range.1 h)).2.2.1
  have s2 := sum_le room (List.range M) (fun b => bs (fun i => gW room a (p i)) g b n) fun b h => by
    have h4 := (hb b (List.mem_range.1 h)).2.2.2.1
    have h5 := hl b (List.mem_range.1 h)
    omega
  rw [t1, List.length_range] at s1
  rw [t2, List.length_range] at s2
  refine mx_le (by omega) ?_
  have : (tot (fun i => gW room a (p i)) n + room - 1) / room < (M : Int) + 1 := by
    refine Int.ediv_lt_of_lt_mul (by omega) ?_
    have : ((M : Int) + 1) * room = room * (M : Int) + room := by rw [Int.add_mul, Int.mul_comm]; omega
    omega
  omega
/-- Each piece in a box of its own. -/
theorem own_box (p : Nat → Int) {room : Int} (n : Nat) (h0 : 0 ≤ room) (hp : ∀ i, i < n → p i ≤ room) (b : Nat) : bs p (fun i => i) b n ≤ room := by
  have key : ∀ m, m ≤ n → bs p (fun i => i) b m = if b < m then p b else 0 := by
    intro m
    induction m with
    | zero => intro _; rw [if_neg (by omega)]; rfl
    | succ m ih =>
      intro hm
      rw [bs_succ, ih (by omega)]
      by_cases e : m = b
      · subst e; rw [if_neg (by omega), if_pos rfl, if_pos (by omega)]; omega
      · rw [if_neg e, Int.add_zero]
        by_cases h : b < m
        · rw [if_pos h, if_pos (by omega)]
        · rw [if_neg h, if_neg (by omega)]
  rw [key n (Nat.le_refl _)]
  split
  · exact hp _ (by assumption)
  · exact h0
theorem wgt_len {room a : Int} (h1 : 1 ≤ room) (ha : 0 ≤ a) (ha2 : 2 * a ≤ room) (p : Nat → Int) (n : Nat) (hp : ∀ i, i < n → 1 ≤ p i ∧ p i ≤ room) : wgt room a p n ≤ n :=
  wgt_le h1 ha ha2 p n n hp (fun i => i) (fun i hi => hi) fun b _ => own_box p n (by omega) (fun i hi => (hp i hi).2) b
theorem tot_congr {f f' : Nat → Int} {n : Nat} (h : ∀ i, i < n → f i = f' i) : tot f n = tot f' n := by
  unfold tot
  rw [List.map_congr_left fun i hi => h i (List.mem_range.1 hi)]
/-- The weighing at 0 counts all. -/
theorem wgt_zero {room : Int} (p : Nat → Int) (n : Nat) (hp : ∀ i, i < n → 1 ≤ p i ∧ p i ≤ room) : (tot p n + room - 1) / room ≤ wgt room 0 p n := by
  have e : tot (fun i => gW room 0 (p i)) n = tot p n := tot_congr fun i hi => by
    have := hp i hi
    unfold gW
    rw [if_neg (by omega)]
    split
    · rfl
    · rw [if_pos (by omega)]
  unfold wgt
  rw [e]
  exact le_mx2 _ _

end Go.Proofs.Ytcjglbipkghhnaa.Math
