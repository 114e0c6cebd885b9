-- Plain lemmas on sets of positions: their order, their numbers, the first best one.
import Derived.Test.YtoecbchfdgbliaaHandY
namespace Go.Proofs.Ytoecbchfdgbliaa.Math
open Go.RowKit Go.Proofs.YtoecbchfdgbliaaW.PrintWords Hand

/-! ### The order of the lists -/
def lexB : List Int → List Int → Bool
  | [], [] => false
  | [], _ :: _ => true
  | _ :: _, [] => false
  | x :: a, y :: b => if x = y then lexB a b else decide (x < y)
theorem lexB_irrefl : ∀ a, lexB a a = false
  | [] => rfl
  | x :: a => by rw [lexB, if_pos rfl]; exact lexB_irrefl a
theorem lexB_trans : ∀ {a b c : List Int}, lexB a b = true → lexB b c = true → lexB a c = true
  | [], [], _, h, _ => by cases h
  | [], _ :: _, [], _, h => by cases h
  | [], _ :: _, _ :: _, _, _ => rfl
  | _ :: _, [], _, h, _ => by cases h
  | _ :: _, _ :: _, [], _, h => by cases h
  | x :: a, y :: b, z :: c, h, k => by
    rw [lexB] at h k ⊢
    by_cases e : x = y
    · subst e
      rw [if_pos rfl] at h
      by_cases e2 : x = z
      · rw [if_pos e2] at k ⊢; exact lexB_trans h k
      · rw [if_neg e2] at k ⊢; exact k
    · rw [if_neg e] at h
      have h := of_decide_eq_true h
      by_cases e2 : y = z
      · subst e2; rw [if_neg e]; exact decide_eq_true h
      · rw [if_neg e2] at k
        have k := of_decide_eq_true k
        rw [if_neg (by omega)]; exact decide_eq_true (by omega)
theorem lexB_asymm {a b : List Int} (h : lexB a b = true) : lexB b a = false := by
  cases e : lexB b a with
  | false => rfl
  | true => have := lexB_trans h e; rw [lexB_irrefl] at this; cases this
theorem lexB_total : ∀ (a b : List Int), a = b ∨ lexB a b = true ∨ lexB b a = true
  | [], [] => .inl rfl
  | [], _ :: _ => .inr (.inl rfl)
  | _ :: _, [] => .inr (.inr rfl)
  | x :: a, y :: b => by
    by_cases e : x = y
    · subst e
      rcases lexB_total a b with h | h | h
      · exact .inl (by rw [h])
      · exact .inr (.inl (by rw [lexB, if_pos rfl]; exact h))
      · exact .inr (.inr (by rw [lexB, if_pos rfl]; exact h))
    · rcases Int.lt_or_gt_of_ne e with h | h
      · exact .inr (.inl (by rw [lexB, if_neg e]; exact decide_eq_true h))
      · exact .inr (.inr (by rw [lexB, if_neg (Ne.symm e)]; exact decide_eq_true h))

/-! ### The lists that the walk visits -/
def subs : Nat → Nat → List (List Int)
  | 0, _ => []
  | d + 1, f => ([] :: subs d (f + 1)).map ((f : Int) :: ·) ++ subs d (f + 1)
theorem rest_eq : ∀ (d f : Nat) (l : List Int), rest d (f : Int) l = (subs d f).map (l ++ ·)
  | 0, _, _ => rfl
  | d + 1, f, l => by
    have e : (f : Int) + 1 = ((f + 1 : Nat) : Int) := by push_cast; rfl
    rw [rest, e, rest_eq d (f + 1), rest_eq d (f + 1), subs]
    simp [List.map_append, Function.comp_def]
theorem sets_eq (n : Nat) : setsF n = [] :: subs n 0 := by
  have h := rest_eq n 0 []
  simp only [List.nil_append, List.map_id'] at h
  rw [setsF, show (0 : Int) = ((0 : Nat) : Int) from rfl, h]
theorem subs_head : ∀ (d f : Nat) (E : List Int), E ∈ subs d f → ∃ x t, E = x :: t ∧ (f : Int) ≤ x
  | 0, _, _, h => by cases h
  | d + 1, f, E, h => by
    rw [subs] at h
    rcases List.mem_append.1 h with h | h
    · obtain ⟨t, _, rfl⟩ := List.mem_map.1 h
      exact ⟨_, t, rfl, Int.le_refl _⟩
    · obtain ⟨x, t, e, hx⟩ := subs_head d (f + 1) E h
      exact ⟨x, t, e, by push_cast at hx; omega⟩
theorem sorted_subs : ∀ (d f : Nat), List.Pairwise (fun a b => lexB a b = true) ([] :: subs d f)
  | 0, _ => by simp [subs]
  | d + 1, f => by
    have ih := sorted_subs d (f + 1)
    rw [List.pairwise_cons]
    refine ⟨fun E hE => ?_, ?_⟩
    · obtain ⟨x, t, rfl, _⟩ := subs_head (d + 1) f E hE; rfl
    · rw [subs, List.pairwise_append]
      refine ⟨?_, (List.pairwise_cons.1 ih).2, ?_⟩
      · rw [List.pairwise_map]
        exact ih.imp fun h => by rw [lexB, if_pos rfl]; exact h
      · intro a ha b hb
        obtain ⟨t, _, rfl⟩ := List.mem_map.1 ha
        obtain ⟨x, u, rfl, hx⟩ := subs_head d (f + 1) b hb
        rw [lexB, if_neg (by push_cast at hx; omega)]
        exact decide_eq_true (by push_cast at hx; omega)

/-! ### The lists of a number's bits -/
def bitsL : Nat → Nat → Nat → List Int
  | 0, _, _ => []
  | d + 1, f, m => if m % 2 = 1 then (f : Int) :: bitsL d (f + 1) (m / 2) else bitsL d (f + 1) (m / 2)
theorem bitsL_zero : ∀ (d f : Nat), bitsL d f 0 = []
  | 0, _ => rfl
  | d + 1, f => by rw [bitsL, if_neg (by decide)]; exact bitsL_zero d (f + 1)
theorem mem_subs : ∀ (d f : Nat) (L : List Int), L ∈ [] :: subs d f ↔ ∃ m, m < 2 ^ d ∧ L = bitsL d f m
  | 0, f, L => by
    constructor
    · intro h
      refine ⟨0, by decide, ?_⟩
      have e : L = [] := by simpa [subs] using h
      exact e
    · rintro ⟨m, _, rfl⟩; simp [bitsL]
  | d + 1, f, L => by
    have ih := mem_subs d (f + 1)
    have hp : 2 ^ (d + 1) = 2 * 2 ^ d := by rw [Nat.pow_succ]; omega
    constructor
    · intro h
      rcases List.mem_cons.1 h with rfl | h
      · exact ⟨0, Nat.pow_pos (by decide), (bitsL_zero _ _).symm⟩
      · rw [subs] at h
        rcases List.mem_append.1 h with h | h
        · obtain ⟨t, ht, rfl⟩ := List.mem_map.1 h
          obtain ⟨m, hm, rfl⟩ := (ih t).1 ht
          exact ⟨2 * m + 1, by omega, by rw [bitsL, if_pos (by omega), show (2 * m + 1) / 2 = m by omega]⟩
        · obtain ⟨m, hm, rfl⟩ := (ih L).1 (List.mem_cons_of_mem _ h)
          exact ⟨2 * m, by omega, by rw [bitsL, if_neg (by omega), show 2 * m / 2 = m by omega]⟩
    · rintro ⟨m, hm, rfl⟩
      rw [bitsL]
      split
      · refine List.mem_cons_of_mem _ ?_
        rw [subs]
        exact List.mem_append_left _ (List.mem_map.2 ⟨_, (ih _).2 ⟨m / 2, by omega, rfl⟩, rfl⟩)
      · rcases List.mem_cons.1 ((ih _).2 ⟨m / 2, by omega, rfl⟩) with h | h
        · rw [h]; exact List.mem_cons_self
        · refine List.mem_cons_of_mem _ ?_
          rw [subs]
          exact List.mem_append_right _ h
theorem bitsL_in : ∀ (d f m : Nat) (i : Int), i ∈ bitsL d f m → (f : Int) ≤ i ∧ i < ((f + d : Nat) : Int)
  | 0, _, _, _, h => by cases h
  | d + 1, f, m, i, h => by
    rw [bitsL] at h
    have ih := bitsL_in d (f + 1) (m / 2) i
    split at h
    · rcases List.mem_cons.1 h with rfl | h
      · push_cast; omega
      · have := ih h; push_cast at this ⊢; omega
    · have := ih h; push_cast at this ⊢; omega
theorem bitsL_length : ∀ (d f m : Nat), (bitsL d f m).length ≤ d
  | 0, _, _ => by simp [bitsL]
  | d + 1, f, m => by
    have ih := bitsL_length d (f + 1) (m / 2)
    rw [bitsL]
    split
    · simp only [List.length_cons]; omega
    · omega

/-! ### The first best one -/
def Best (C : List Int → Prop) (d : List Int → Int) (x : List Int) : Prop := C x ∧ ∀ y, C y → d x < d y ∨ (d x = d y ∧ (y = x ∨ lexB x y = true))
theorem Best.unique {C : List Int → Prop} {d : List Int → Int} {x y : List Int} (hx : Best C d x) (hy : Best C d y) : x = y := by
  rcases hx.2 y hy.1 with h | ⟨h1, h⟩
  · rcases hy.2 x hx.1 with k | ⟨k1, k⟩ <;> omega
  · rcases hy.2 x hx.1 with k | ⟨k1, k⟩
    · omega
    · rcases h with h | h
      · exact h.symm
      · rcases k with k | k
        · exact k
        · rw [lexB_asymm h] at k; cases k
/-- One candidate more, in order. -/
def takeOne (C : List Int → Prop) [DecidablePred C] (d : List Int → Int) (st : List Int × Int) (l : List Int) : List Int × Int := if C l ∧ (st.2 < 0 ∨ d l < st.2) then (l, d l) else st
def Inv (C : List Int → Prop) (d : List Int → Int) (pre : List (List Int)) (st : List Int × Int) : Prop :=
  (st.2 = -1 ∧ ∀ y ∈ pre, ¬ C y) ∨ (∃ x ∈ pre, C x ∧ st = (x, d x) ∧ ∀ y ∈ pre, C y → d x < d y ∨ (d x = d y ∧ (y = x ∨ lexB x y = true)))
theorem Inv.step {C : List Int → Prop} [DecidablePred C] {d : List Int → Int} (hd : ∀ x, C x → 0 ≤ d x) {pre : List (List Int)} {st : List Int × Int} {l : List Int} (h : Inv C d pre st) (hl : ∀ y ∈ pre, lexB y l = true) : Inv C d (pre ++ [l]) (takeOne C d st l) := by
  unfold takeOne
  by_cases hc : C l
  · rcases h with ⟨h1, h2⟩ | ⟨x, hx, hcx, rfl, hb⟩
    · rw [if_pos ⟨hc, .inl (by omega)⟩]
      refine .inr ⟨l, List.mem_append_right _ (List.mem_singleton.2 rfl), hc, rfl, fun y hy hcy => ?_⟩
      rcases List.mem_append.1 hy with hy | hy
      · exact absurd hcy (h2 y hy)
      · exact .inr (by rw [List.mem_singleton.1 hy]; exact ⟨rfl, .inl rfl⟩)
    · dsimp only
      have h0 := hd x hcx
      by_cases hlt : d l < d x
      · rw [if_pos ⟨hc, .inr hlt⟩]
        refine .inr ⟨l, List.mem_append_right _ (List.mem_singleton.2 rfl), hc, rfl, fun y hy hcy => ?_⟩
        rcases List.mem_append.1 hy with hy | hy
        · rcases hb y hy hcy with k | ⟨k, _⟩ <;> exact .inl (by omega)
        · exact .inr (by rw [List.mem_singleton.1 hy]; exact ⟨rfl, .inl rfl⟩)
      · rw [if_neg (fun k => by rcases k.2 with k | k <;> omega)]
        refine .inr ⟨x, List.mem_append_left _ hx, hcx, rfl, fun y hy hcy => ?_⟩
        rcases List.mem_append.1 hy with hy | hy
        · exact hb y hy hcy
        · rw [List.mem_singleton.1 hy]
          rcases Int.lt_or_eq_of_le (Int.not_lt.1 hlt) with k | k
          · exact .inl k
          · exact .inr ⟨k, .inr (hl x hx)⟩
  · rw [if_neg (fun k => hc k.1)]
    rcases h with ⟨h1, h2⟩ | ⟨x, hx, hcx, e, hb⟩
    · exact .inl ⟨h1, fun y hy => by
        rcases List.mem_append.1 hy with hy | hy
        · exact h2 y hy
        · rw [List.mem_singleton.1 hy]; exact hc⟩
    · exact .inr ⟨x, List.mem_append_left _ hx, hcx, e, fun y hy hcy => by
        rcases List.mem_append.1 hy with hy | hy
        · exact hb y hy hcy
        · rw [List.mem_singleton.1 hy] at hcy; exact absurd hcy hc⟩
theorem Inv.all {C : List Int → Prop} [DecidablePred C] {d : List Int → Int} (hd : ∀ x, C x → 0 ≤ d x) : ∀ (xs pre : List (List Int)) (st : List Int × Int), List.Pairwise (fun a b => lexB a b = true) (pre ++ xs) → Inv C d pre st → Inv C d (pre ++ xs) (xs.foldl (takeOne C d) st)
  | [], pre, st, _, h => by simpa using h
  | x :: xs, pre, st, hp, h => by
    have e : pre ++ x :: xs = (pre ++ [x]) ++ xs := by simp
    rw [e] at hp ⊢
    rw [List.foldl_cons]
    refine Inv.all hd xs (pre ++ [x]) _ hp (h.step hd fun y hy => ?_)
    exact (List.pairwise_append.1 (List.pairwise_append.1 hp).1).2.2 y hy x (List.mem_singleton.2 rfl)

end Go.Proofs.Ytoecbchfdgbliaa.Math
