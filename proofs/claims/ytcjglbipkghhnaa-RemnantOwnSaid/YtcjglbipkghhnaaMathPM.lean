-- Plain lemmas: a list in another order; the number of packings of a list; the sums of sets.
import Derived.Test.YtcjglbipkghhnaaHandY
namespace Go.Proofs.Ytcjglbipkghhnaa.Math
open Go.RowKit Go.Proofs.YtcjglbipkghhnaaW.PrintWords Go.Proofs.YtcjglbipkghhnaaW.PrintLast Go.Proofs.YtcjglbipkghhnaaW.PrintMore
open Go.Proofs.Ytcjglbipkghhnaa.Hand hiding wrap_in
set_option linter.unusedVariables false

/-! ### Sums over the ways to take some of a list -/
def ss : List Int → (Int → List Int → Int) → Int
  | [], G => G 0 []
  | p :: ps, G => ss ps (fun s r => G (p + s) r) + ss ps (fun s r => G s (p :: r))
theorem ss_congr : ∀ (ps : List Int) {G H : Int → List Int → Int}, (∀ s r, G s r = H s r) → ss ps G = ss ps H
  | [], _, _, h => h 0 []
  | p :: ps, G, H, h => by
    rw [ss, ss, ss_congr ps fun s r => h (p + s) r, ss_congr ps fun s r => h s (p :: r)]
theorem ss_add : ∀ (ps : List Int) (G H : Int → List Int → Int), ss ps (fun s r => G s r + H s r) = ss ps G + ss ps H
  | [], _, _ => rfl
  | p :: ps, G, H => by
    rw [ss, ss, ss, ss_add ps (fun s r => G (p + s) r) (fun s r => H (p + s) r), ss_add ps (fun s r => G s (p :: r)) (fun s r => H s (p :: r))]
    omega
theorem ss_zero : ∀ (ps : List Int), ss ps (fun _ _ => 0) = 0
  | [] => rfl
  | p :: ps => by rw [ss, ss_zero ps]; rfl
theorem ss_if (c : Prop) [Decidable c] (ps : List Int) (G : Int → List Int → Int) : (if c then ss ps G else 0) = ss ps (fun s r => if c then G s r else 0) := by
  by_cases h : c
  · rw [if_pos h]; exact ss_congr ps fun s r => (if_pos h).symm
  · rw [if_neg h]
    have e : ss ps (fun s r => if c then G s r else 0) = ss ps (fun _ _ => 0) := ss_congr ps fun s r => if_neg h
    rw [e, ss_zero]
theorem ss_snoc (q : Int) : ∀ (ps : List Int) (G : Int → List Int → Int), ss (ps ++ [q]) G = ss ps (fun s r => G (s + q) r) + ss ps (fun s r => G s (r ++ [q]))
  | [], G => by
    show ss [q] G = G (0 + q) [] + G 0 [q]
    rw [ss, ss, ss, Int.zero_add, Int.add_zero]
  | p :: ps, G => by
    rw [List.cons_append, ss, ss_snoc q ps, ss_snoc q ps, ss, ss]
    have e : ss ps (fun s r => G (p + (s + q)) r) = ss ps (fun s r => G (p + s + q) r) := ss_congr ps fun s r => by rw [Int.add_assoc]
    have e2 : ss ps (fun s r => G s (p :: (r ++ [q]))) = ss ps (fun s r => G s (p :: r ++ [q])) := rfl
    rw [e, e2]
    omega
theorem ss_perm {a b : List Int} (h : a.Perm b) : ∀ {G : Int → List Int → Int}, (∀ s r r', r.Perm r' → G s r = G s r') → ss a G = ss b G := by
  induction h with
  | nil => intro _ _; rfl
  | cons x _ ih =>
    intro G hG
    rw [ss, ss, ih fun s r r' hr => hG (x + s) r r' hr, ih fun s r r' hr => hG s (x :: r) (x :: r') (hr.cons x)]
  | swap x y l =>
    intro G hG
    rw [ss, ss, ss, ss, ss, ss]
    have e1 : ss l (fun s r => G (y + (x + s)) r) = ss l (fun s r => G (x + (y + s)) r) := ss_congr l fun s r => by rw [show y + (x + s) = x + (y + s) by omega]
    have e2 : ss l (fun s r => G s (y :: x :: r)) = ss l (fun s r => G s (x :: y :: r)) := ss_congr l fun s r => hG s _ _ (List.Perm.swap x y r)
    rw [e1, e2]
    omega
  | trans _ _ ih1 ih2 => intro G hG; rw [ih1 hG, ih2 hG]
/-- Two parts, one after the other. -/
theorem ss_two : ∀ (ps : List Int) (F : Int → Int → List Int → Int), ss ps (fun s r => ss r (fun s' r' => F s s' r')) = ss ps (fun s r => ss r (fun s' r' => F s' s r'))
  | [], _ => rfl
  | p :: ps, F => by
    rw [ss, ss]
    have e1 : ∀ F : Int → Int → List Int → Int, ss ps (fun s r => ss (p :: r) (fun s' r' => F s s' r')) = ss ps (fun s r => ss r (fun s' r' => F s (p + s') r')) + ss ps (fun s r => ss r (fun s' r' => F s s' (p :: r'))) := fun F => by
      rw [← ss_add]; rfl
    rw [e1, e1 fun s s' r' => F s' s r', ss_two ps fun s s' r' => F (p + s) s' r', ss_two ps fun s s' r' => F s (p + s') r', ss_two ps fun s s' r' => F s s' (p :: r')]
    omega

/-- The number of right packings of a list; the first number bounds its length. -/
def V (room : Int) : Nat → List Int → Int
  | 0, l => if l = [] then 1 else 0
  | _ + 1, [] => 1
  | n + 1, p :: ps => ss ps (fun s r => if p + s ≤ room then V room n r else 0)
theorem V_perm (room : Int) : ∀ (n : Nat) {l l' : List Int}, l.Perm l' → V room n l = V room n l'
  | 0, l, l', h => by
    rw [V, V]
    by_cases e : l = []
    · subst e; rw [List.nil_perm.1 h]
    · rw [if_neg e, if_neg fun k => e (by subst k; exact List.perm_nil.1 h)]
  | n + 1, l, l', h => by
    induction h with
    | nil => rfl
    | cons x h _ =>
      rw [V, V]
      refine ss_perm h fun s r r' hr => ?_
      rw [V_perm room n hr]
    | swap q p ps =>
      rw [V, V, ss, ss]
      have e1 : ss ps (fun s r => if p + (q + s) ≤ room then V room n r else 0) = ss ps (fun s r => if q + (p + s) ≤ room then V room n r else 0) := ss_congr ps fun s r => by rw [show p + (q + s) = q + (p + s) by omega]
      rw [e1]
      congr 1
      cases n with
      | zero => exact ss_congr ps fun s r => by rw [V, V, if_neg (List.cons_ne_nil _ _), if_neg (List.cons_ne_nil _ _)]; split <;> split <;> rfl
      | succ m =>
        have e2 : ∀ p q : Int, ss ps (fun s r => if p + s ≤ room then V room (m + 1) (q :: r) else 0) = ss ps (fun s r => ss r fun s' r' => if p + s ≤ room then if q + s' ≤ room then V room m r' else 0 else 0) := fun p q => ss_congr ps fun s r => by rw [V, ss_if]
        rw [e2 p q, e2 q p, ss_two]
        refine ss_congr ps fun s r => ss_congr r fun s' r' => ?_
        by_cases c1 : p + s' ≤ room
        · by_cases c2 : q + s ≤ room
          · rw [if_pos c1, if_pos c2, if_pos c2, if_pos c1]
          · rw [if_pos c1, if_neg c2, if_neg c2]
        · by_cases c2 : q + s ≤ room
          · rw [if_neg c1, if_pos c2, if_neg c1]
          · rw [if_neg c1, if_neg c2]
    | trans _ _ ih1 ih2 => rw [ih1, ih2]

/-! ### A list in another order, by positions -/
theorem perm_sum {a b : List Int} (h : a.Perm b) : a.sum = b.sum := by
  induction h with
  | nil => rfl
  | cons x _ ih => rw [List.sum_cons, List.sum_cons, ih]
  | swap x y l => rw [List.sum_cons, List.sum_cons, List.sum_cons, List.sum_cons]; omega
  | trans _ _ i1 i2 => rw [i1, i2]
theorem map_getD (P : List Nat) : (List.range P.length).map (fun i => P.getD i 0) = P := by
  apply List.ext_getElem
  · simp
  · intro i h1 h2
    simp [List.getD_eq_getElem?_getD, List.getElem?_eq_getElem h2]
theorem perm_pos {a b : List Int} (h : a.Perm b) : ∃ P : List Nat, P.Perm (List.range a.length) ∧ b = P.map fun i => a.getD i 0 := by
  induction h with
  | nil => exact ⟨[], List.Perm.nil, rfl⟩
  | @cons x l1 l2 _ ih =>
    obtain ⟨P, h1, h2⟩ := ih
    refine ⟨0 :: P.map (· + 1), ?_, ?_⟩
    · rw [List.length_cons, List.range_succ_eq_map]
      exact (h1.map _).cons 0
    · rw [List.map_cons, List.map_map, h2]
      rfl
  | swap x y l =>
    refine ⟨1 :: 0 :: (List.range l.length).map (· + 2), ?_, ?_⟩
    · rw [List.length_cons, List.length_cons, List.range_succ_eq_map, List.range_succ_eq_map, List.map_cons, List.map_map]
      exact List.Perm.swap _ _ _
    · rw [List.map_cons, List.map_cons, List.map_map]
      congr 2
      apply List.ext_getElem
      · simp
      · intro i h1 h2
        simp [List.getD_eq_getElem?_getD, List.getElem?_eq_getElem h1]
  | @trans a b c h1 _ ih1 ih2 =>
    obtain ⟨P, p1, p2⟩ := ih1
    obtain ⟨Q, q1, q2⟩ := ih2
    have hPl : P.length = a.length := by rw [p1.length_eq, List.length_range]
    have hl : b.length = P.length := by rw [p2, List.length_map]
    refine ⟨Q.map fun j => P.getD j 0, ?_, ?_⟩
    · refine (q1.map _).trans ?_
      rw [hl, map_getD]
      exact p1
    · rw [q2, List.map_map]
      refine List.map_congr_left fun j hj => ?_
      have hj' : j < P.length := by
        have := (q1.mem_iff).1 hj
        rw [List.mem_range] at this
        omega
      rw [p2]
      simp [List.getD_eq_getElem?_getD, List.getElem?_map, List.getElem?_eq_getElem hj']
/-- A sum over all positions, in another order. -/
theorem sum_pos {P : List Nat} {n : Nat} (h : P.Perm (List.range n)) (F : Nat → Int) : ((List.range n).map fun i => F (P.getD i 0)).sum = ((List.range n).map F).sum := by
  have hl : P.length = n := by rw [h.length_eq, List.length_range]
  have e : (List.range n).map (fun i => F (P.getD i 0)) = P.map F := by
    have := congrArg (List.map F) (map_getD P)
    rw [List.map_map, hl] at this
    exact this
  rw [e]
  exact perm_sum (h.map F)
theorem pos_lt {P : List Nat} {n i : Nat} (h : P.Perm (List.range n)) (hi : i < n) : P.getD i 0 < n := by
  have hl : P.length = n := by rw [h.length_eq, List.length_range]
  have : P[i]'(by omega) ∈ P := List.getElem_mem _
  rw [h.mem_iff, List.mem_range] at this
  rw [List.getD_eq_getElem?_getD, List.getElem?_eq_getElem (by omega)]
  exact this

/-! ### The sums of sets -/
def SubSum (l : List Int) (s : Int) : Prop := ∃ M : List Int, M.Sublist l ∧ M.sum = s
def run : Nat → Int → List Int
  | 0, _ => []
  | d + 1, f => f :: run d (f + 1)
theorem run_at (a : Nat) : ∀ d : Nat, run d (a : Int) = (List.range d).map fun (i : Nat) => ((a + i : Nat) : Int)
  | 0 => rfl
  | d + 1 => by
    rw [run, List.range_succ_eq_map, List.map_cons, List.map_map, show (a : Int) + 1 = ((a + 1 : Nat) : Int) by omega, run_at (a + 1) d]
    congr 1
    refine List.map_congr_left fun i _ => ?_
    show ((a + 1 + i : Nat) : Int) = ((a + (i + 1) : Nat) : Int)
    omega
theorem run_places (n : Nat) : run n 0 = places n := by
  have h := run_at 0 n
  simpa [places] using h
theorem rest_iff : ∀ (d : Nat) (f : Int) (l L : List Int), (L ∈ l :: rest d f l) ↔ ∃ M : List Int, M.Sublist (run d f) ∧ L = l ++ M
  | 0, f, l, L => by
    rw [rest, run]
    constructor
    · intro h; exact ⟨[], List.Sublist.slnil, by rw [List.append_nil]; exact List.mem_singleton.1 h⟩
    · rintro ⟨M, h, rfl⟩; rw [List.sublist_nil.1 h, List.append_nil]; exact List.mem_singleton.2 rfl
  | d + 1, f, l, L => by
    have i1 := rest_iff d (f + 1) l L
    have i2 := rest_iff d (f + 1) (l ++ [f]) L
    rw [rest, run]
    constructor
    · intro h
      have h' : L ∈ l :: rest d (f + 1) l ∨ L ∈ (l ++ [f]) :: rest d (f + 1) (l ++ [f]) := by
        rcases List.mem_cons.1 h with h | h
        · exact .inl (List.mem_cons.2 (.inl h))
        · rcases List.mem_append.1 h with h | h
          · exact .inr h
          · exact .inl (List.mem_cons.2 (.inr h))
      rcases h' with h | h
      · obtain ⟨M, m1, m2⟩ := i1.1 h
        exact ⟨M, m1.cons f, m2⟩
      · obtain ⟨M, m1, m2⟩ := i2.1 h
        exact ⟨f :: M, m1.cons_cons f, by rw [m2, List.append_assoc]; rfl⟩
    · rintro ⟨M, m1, m2⟩
      cases m1 with
      | cons _ m1 =>
        rcases List.mem_cons.1 (i1.2 ⟨M, m1, m2⟩) with h | h
        · exact List.mem_cons.2 (.inl h)
        · exact List.mem_cons.2 (.inr (List.mem_append.2 (.inr h)))
      | @cons_cons M' _ _ m1 =>
        exact List.mem_cons.2 (.inr (List.mem_append.2 (.inl (i2.2 ⟨M', m1, by rw [m2, List.append_assoc]; rfl⟩))))
theorem sets_iff (n : Nat) (L : List Int) : L ∈ setsF n ↔ L.Sublist (places n) := by
  have h := rest_iff n 0 [] L
  rw [run_places] at h
  unfold setsF
  rw [h]
  constructor
  · rintro ⟨M, m1, rfl⟩; exact m1
  · intro h; exact ⟨L, h, rfl⟩
theorem places_map (l : List Int) : (places l.length).map (rd l) = l := by
  unfold places
  apply List.ext_getElem
  · simp
  · intro i h1 h2
    simp [rd, List.getD_eq_getElem?_getD, List.getElem?_eq_getElem h2]
theorem sum_fold {ps : List Int} (hp : ∀ i : Int, 0 ≤ rd ps i ∧ rd ps i ≤ 100) : ∀ (L : List Int) (s : Int), 0 ≤ s → s + 100 * L.length ≤ 100000 → L.foldl (fun s i => wrap64 (s + rd ps i)) s = s + (L.map (rd ps)).sum
  | [], s, _, _ => by simp
  | i :: L, s, h0, h1 => by
    have hi := hp i
    rw [List.length_cons] at h1
    rw [List.foldl_cons, Hand.wrap_in (by omega) (by omega), sum_fold hp L _ (by omega) (by omega), List.map_cons, List.sum_cons]
    omega
theorem sumF_eq {ps : List Int} (hp : ∀ i : Int, 0 ≤ rd ps i ∧ rd ps i ≤ 100) {L : List Int} (hL : L.length ≤ 100) : sumF ps L = (L.map (rd ps)).sum := by
  unfold sumF
  rw [sum_fold hp L 0 (by omega) (by omega), Int.zero_add]
theorem sub_bd {l : List Int} (hp : ∀ x ∈ l, 0 ≤ x ∧ x ≤ 100) : ∀ {M : List Int}, M.Sublist l → 0 ≤ M.sum ∧ M.sum ≤ 100 * l.length := by
  intro M h
  induction h with
  | slnil => exact ⟨Int.le_refl _, Int.le_refl _⟩
  | @cons l1 l2 a _ ih =>
    have := ih fun x hx => hp x (List.mem_cons_of_mem _ hx)
    rw [List.length_cons]
    omega
  | @cons_cons l1 l2 a _ ih =>
    have := ih fun x hx => hp x (List.mem_cons_of_mem _ hx)
    have := hp a List.mem_cons_self
    rw [List.length_cons, List.sum_cons]
    omega
theorem sets_sum {l : List Int} (hl : l.length ≤ 12) (hp : ∀ i : Int, 0 ≤ rd l i ∧ rd l i ≤ 100) (s : Int) : (∃ L, L ∈ setsF l.length ∧ sumF l L = s) ↔ SubSum l s := by
  constructor
  · rintro ⟨L, h1, h2⟩
    have h3 := (sets_iff _ _).1 h1
    have h4 := h3.length_le
    have h5 : (places l.length).length = l.length := by simp [places]
    refine ⟨L.map (rd l), ?_, by rw [← h2, sumF_eq hp (by omega)]⟩
    have := h3.map (rd l)
    rwa [places_map] at this
  · rintro ⟨M, h1, h2⟩
    rw [← places_map l, List.sublist_map_iff] at h1
    obtain ⟨L, h3, h4⟩ := h1
    have h5 := h3.length_le
    have h6 : (places l.length).length = l.length := by simp [places]
    exact ⟨L, (sets_iff _ _).2 h3, by rw [sumF_eq hp (by omega), ← h4, h2]⟩
theorem compl {Q P : List Int} (h : P.Sublist Q) : ∃ P' : List Int, P'.Sublist Q ∧ ∀ f : Int → Int, (P.map f).sum + (P'.map f).sum = (Q.map f).sum := by
  induction h with
  | slnil => exact ⟨[], List.Sublist.slnil, fun f => rfl⟩
  | @cons l1 l2 a _ ih =>
    obtain ⟨P', h1, h2⟩ := ih
    exact ⟨a :: P', h1.cons_cons a, fun f => by have := h2 f; rw [List.map_cons, List.map_cons, List.sum_cons, List.sum_cons]; omega⟩
  | @cons_cons l1 l2 a _ ih =>
    obtain ⟨P', h1, h2⟩ := ih
    exact ⟨P', h1.cons a, fun f => by have := h2 f; rw [List.map_cons, List.map_cons, List.sum_cons, List.sum_cons]; omega⟩
def ab (d : Int) : Int := if d < 0 then -d else d
/-- Each set's difference is that of one with the position 0. -/
theorem sets_first {l : List Int} (hl : l.length ≤ 12) (hp : ∀ i : Int, 0 ≤ rd l i ∧ rd l i ≤ 100) (s : Int) (h : SubSum l s) : ∃ L, L ∈ setsF l.length ∧ ¬ (0 < l.length ∧ (L = [] ∨ rd L 0 ≠ 0)) ∧ ab (2 * sumF l L - l.sum) = ab (2 * s - l.sum) := by
  obtain ⟨L, h1, h2⟩ := (sets_sum hl hp s).2 h
  by_cases hc : 0 < l.length ∧ (L = [] ∨ rd L 0 ≠ 0)
  · obtain ⟨n, hn⟩ : ∃ n, l.length = n + 1 := ⟨l.length - 1, by omega⟩
    have e : places l.length = 0 :: run n 1 := by rw [← run_places, hn]; rfl
    have h3 := (sets_iff _ _).1 h1
    have hlen : (places l.length).length = l.length := by simp [places]
    have hLl := h3.length_le
    have hs : L.Sublist (run n 1) := by
      rw [e] at h3
      cases h3 with
      | cons _ h3 => exact h3
      | @cons_cons L' _ _ h3 => exact absurd hc.2 fun k => k.elim (fun k => by cases k) (fun k => k rfl)
    obtain ⟨P', p1, p2⟩ := compl hs
    have h4 : (0 :: P').Sublist (places l.length) := by rw [e]; exact p1.cons_cons 0
    have h4l := h4.length_le
    refine ⟨0 :: P', (sets_iff _ _).2 h4, fun k => k.2.elim (fun k => by cases k) (fun k => k rfl), ?_⟩
    have e2 := p2 (rd l)
    have e3 : l.sum = rd l 0 + ((run n 1).map (rd l)).sum := by
      have := congrArg List.sum (places_map l)
      rw [e, List.map_cons, List.sum_cons] at this
      exact this.symm
    rw [sumF_eq hp (by omega)] at h2 ⊢
    rw [List.map_cons, List.sum_cons, e3]
    unfold ab
    split <;> split <;> omega
  · exact ⟨L, h1, hc, by rw [h2]⟩

theorem rest_least {room : Int} {ps : List Int} (hr : 0 ≤ room ∧ room ≤ 100) : ∀ (S : List (List Int)) (a : List Int) (v : Int), (∀ L ∈ S, 0 ≤ sumF ps L ∧ sumF ps L ≤ 100000) → 0 ≤ v →
    (S.foldl (restStep room ps) (a, v)).2 ≤ v ∧ 0 ≤ (S.foldl (restStep room ps) (a, v)).2 ∧ ((S.foldl (restStep room ps) (a, v)).2 = v ∨ ∃ L ∈ S, (S.foldl (restStep room ps) (a, v)).2 = room - sumF ps L) ∧
    ∀ L ∈ S, sumF ps L ≤ room → (S.foldl (restStep room ps) (a, v)).2 ≤ room - sumF ps L
  | [], a, v, _, h0 => ⟨Int.le_refl _, h0, .inl rfl, fun L h => by cases h⟩
  | L :: S, a, v, h, h0 => by
    have hL := h L List.mem_cons_self
    have w1 : wrap64 (room - sumF ps L) = room - sumF ps L := Hand.wrap_in (by omega) (by omega)
    rw [List.foldl_cons]
    have e : restStep room ps (a, v) L = if 0 ≤ room - sumF ps L ∧ room - sumF ps L < v then (L, room - sumF ps L) else (a, v) := by unfold restStep; rw [w1]
    rw [e]
    by_cases hc : 0 ≤ room - sumF ps L ∧ room - sumF ps L < v
    · rw [if_pos hc]
      obtain ⟨i1, i2, i3, i4⟩ := rest_least hr S L (room - sumF ps L) (fun L hL => h L (List.mem_cons_of_mem _ hL)) hc.1
      refine ⟨by omega, i2, .inr ?_, fun M hM hM2 => ?_⟩
      · rcases i3 with k | ⟨M, hM, k⟩
        · exact ⟨L, List.mem_cons_self, k⟩
        · exact ⟨M, List.mem_cons_of_mem _ hM, k⟩
      · rcases List.mem_cons.1 hM with rfl | hM
        · exact i1
        · exact i4 M hM hM2
    · rw [if_neg hc]
      obtain ⟨i1, i2, i3, i4⟩ := rest_least hr S a v (fun L hL => h L (List.mem_cons_of_mem _ hL)) h0
      refine ⟨i1, i2, ?_, fun M hM hM2 => ?_⟩
      · rcases i3 with k | ⟨M, hM, k⟩
        · exact .inl k
        · exact .inr ⟨M, List.mem_cons_of_mem _ hM, k⟩
      · rcases List.mem_cons.1 hM with rfl | hM
        · omega
        · exact i4 M hM hM2
theorem abs_wrap {s all : Int} (hs : 0 ≤ s ∧ s ≤ 100000) (ha : 0 ≤ all ∧ all ≤ 100000) : absF (wrap64 (wrap64 (2 * s) - all)) = ab (2 * s - all) := by
  unfold absF ab
  rw [Hand.wrap_in (n := 2 * s) (by omega) (by omega), Hand.wrap_in (n := 2 * s - all) (by omega) (by omega), Hand.wrap_in (n := -(2 * s - all)) (by omega) (by omega)]
  split <;> split <;> omega
theorem ab_nonneg (d : Int) : 0 ≤ ab d := by unfold ab; split <;> omega
theorem split_least {ps : List Int} {all : Int} (ha : 0 ≤ all ∧ all ≤ 100000) : ∀ (S : List (List Int)) (a : List Int) (v : Int), (∀ L ∈ S, 0 ≤ sumF ps L ∧ sumF ps L ≤ 100000) → -1 ≤ v →
    ((S.foldl (splitStep ps all) (a, v)).2 = v ∨ ∃ L ∈ S, (S.foldl (splitStep ps all) (a, v)).2 = ab (2 * sumF ps L - all)) ∧ (0 ≤ v → 0 ≤ (S.foldl (splitStep ps all) (a, v)).2 ∧ (S.foldl (splitStep ps all) (a, v)).2 ≤ v) ∧
    ∀ L ∈ S, ¬ (0 < ps.length ∧ (L = [] ∨ rd L 0 ≠ 0)) → 0 ≤ (S.foldl (splitStep ps all) (a, v)).2 ∧ (S.foldl (splitStep ps all) (a, v)).2 ≤ ab (2 * sumF ps L - all)
  | [], a, v, _, _ => ⟨.inl rfl, fun h => ⟨h, Int.le_refl _⟩, fun L h => by cases h⟩
  | L :: S, a, v, h, hv => by
    have hL := h L List.mem_cons_self
    have hd0 := ab_nonneg (2 * sumF ps L - all)
    rw [List.foldl_cons]
    by_cases hn : 0 < ps.length ∧ (L = [] ∨ rd L 0 ≠ 0)
    · have e : splitStep ps all (a, v) L = (a, v) := by unfold splitStep; rw [if_pos hn]
      rw [e]
      obtain ⟨i1, i2, i3⟩ := split_least ha S a v (fun L hL => h L (List.mem_cons_of_mem _ hL)) hv
      refine ⟨?_, i2, fun M hM hM2 => ?_⟩
      · rcases i1 with k | ⟨M, hM, k⟩
        · exact .inl k
        · exact .inr ⟨M, List.mem_cons_of_mem _ hM, k⟩
      · rcases List.mem_cons.1 hM with rfl | hM
        · exact absurd hn hM2
        · exact i3 M hM hM2
    · have e : splitStep ps all (a, v) L = if v < 0 ∨ ab (2 * sumF ps L - all) < v then (L, ab (2 * sumF ps L - all)) else (a, v) := by unfold splitStep; rw [if_neg hn, abs_wrap hL ha]
      rw [e]
      by_cases hc : v < 0 ∨ ab (2 * sumF ps L - all) < v
      · rw [if_pos hc]
        obtain ⟨i1, i2, i3⟩ := split_least ha S L (ab (2 * sumF ps L - all)) (fun L hL => h L (List.mem_cons_of_mem _ hL)) (by omega)
        have i2 := i2 hd0
        refine ⟨.inr ?_, fun h0 => ⟨i2.1, by omega⟩, fun M hM hM2 => ?_⟩
        · rcases i1 with k | ⟨M, hM, k⟩
          · exact ⟨L, List.mem_cons_self, k⟩
          · exact ⟨M, List.mem_cons_of_mem _ hM, k⟩
        · rcases List.mem_cons.1 hM with rfl | hM
          · exact i2
          · exact i3 M hM hM2
      · rw [if_neg hc]
        obtain ⟨i1, i2, i3⟩ := split_least ha S a v (fun L hL => h L (List.mem_cons_of_mem _ hL)) hv
        refine ⟨?_, i2, fun M hM hM2 => ?_⟩
        · rcases i1 with k | ⟨M, hM, k⟩
          · exact .inl k
          · exact .inr ⟨M, List.mem_cons_of_mem _ hM, k⟩
        · rcases List.mem_cons.1 hM with rfl | hM
          · have := i2 (by omega); omega
          · exact i3 M hM hM2

theorem sub_perm {a b : List Int} (h : a.Perm b) {s : Int} (hs : SubSum a s) : SubSum b s := by
  obtain ⟨M, h1, h2⟩ := hs
  obtain ⟨M', h3, h4⟩ := List.exists_perm_sublist h1 h
  exact ⟨M', h4, by rw [perm_sum h3, h2]⟩
/-- What pieces have in common. -/
structure Sz (l : List Int) : Prop where
  len : l.length ≤ 12
  one : ∀ x ∈ l, 1 ≤ x ∧ x ≤ 100
theorem Sz.rd {l : List Int} (h : Sz l) (i : Int) : 0 ≤ rd l i ∧ rd l i ≤ 100 := by
  by_cases hi : i.toNat < l.length
  · have e : l.getD i.toNat 0 = l[i.toNat] := by rw [List.getD_eq_getElem?_getD, List.getElem?_eq_getElem hi, Option.getD_some]
    have := h.one _ (List.getElem_mem hi)
    show 0 ≤ l.getD i.toNat 0 ∧ l.getD i.toNat 0 ≤ 100
    rw [e]; omega
  · have e : l.getD i.toNat 0 = 0 := by rw [List.getD_eq_getElem?_getD, List.getElem?_eq_none (by omega), Option.getD_none]
    show 0 ≤ l.getD i.toNat 0 ∧ l.getD i.toNat 0 ≤ 100
    rw [e]; decide
theorem Sz.perm {l o : List Int} (h : Sz l) (hp : l.Perm o) : Sz o := ⟨by rw [← hp.length_eq]; exact h.len, fun x hx => h.one x (hp.mem_iff.2 hx)⟩
theorem Sz.sets {l : List Int} (h : Sz l) : ∀ L ∈ setsF l.length, 0 ≤ sumF l L ∧ sumF l L ≤ 1200 := fun L hL => by
  obtain ⟨M, h1, h2⟩ := (sets_sum h.len h.rd (sumF l L)).1 ⟨L, hL, rfl⟩
  have h3 := sub_bd (fun x hx => ⟨by have := h.one x hx; omega, (h.one x hx).2⟩) h1
  have h4 := h.len
  omega
/-- What Rest leaves. -/
theorem rest_val {room : Int} {l : List Int} (h : Sz l) (hok : pieF room l = true) (hr : 0 ≤ room ∧ room ≤ 100) : (restF room l).2.2 = 0 ∧ (restF room l).2.1 ≤ room ∧ 0 ≤ (restF room l).2.1 ∧ (∃ s, SubSum l s ∧ (restF room l).2.1 = room - s) ∧ ∀ s, SubSum l s → s ≤ room → (restF room l).2.1 ≤ room - s := by
  have hs := h.sets
  obtain ⟨i1, i2, i3, i4⟩ := rest_least (ps := l) hr (setsF l.length) [] room (fun L hL => by have := hs L hL; omega) hr.1
  unfold restF
  rw [if_pos hok]
  refine ⟨rfl, i1, i2, ?_, fun s hs1 hs2 => ?_⟩
  · rcases i3 with k | ⟨L, hL, k⟩
    · exact ⟨0, ⟨[], List.nil_sublist l, rfl⟩, by rw [Int.sub_zero]; exact k⟩
    · exact ⟨sumF l L, (sets_sum h.len h.rd _).1 ⟨L, hL, rfl⟩, k⟩
  · obtain ⟨L, hL, k⟩ := (sets_sum h.len h.rd s).2 hs1
    have := i4 L hL (by omega)
    rw [k] at this
    exact this
theorem rest_perm {room : Int} {l o : List Int} (h : Sz l) (hp : l.Perm o) (hok : pieF room l = true) (hok2 : pieF room o = true) (hr : 0 ≤ room ∧ room ≤ 100) : (restF room l).2.1 = (restF room o).2.1 := by
  obtain ⟨_, a1, a2, ⟨s, a3, a4⟩, a5⟩ := rest_val h hok hr
  obtain ⟨_, b1, b2, ⟨t, b3, b4⟩, b5⟩ := rest_val (h.perm hp) hok2 hr
  have c1 := b5 s (sub_perm hp a3) (by omega)
  have c2 := a5 t (sub_perm hp.symm b3) (by omega)
  omega
theorem split_val {l : List Int} (h : Sz l) (hok : pieF 100 l = true) : (splitF l).2.2 = 0 ∧ (∃ s, SubSum l s ∧ (splitF l).2.1 = ab (2 * s - l.sum)) ∧ ∀ s, SubSum l s → (splitF l).2.1 ≤ ab (2 * s - l.sum) := by
  have hs := h.sets
  have hpl : (places l.length).length = l.length := by unfold places; simp
  have hall : sumF l (places l.length) = l.sum := by rw [sumF_eq h.rd (by have := h.len; omega), places_map]
  have hmem : places l.length ∈ setsF l.length := (sets_iff _ _).2 (List.Sublist.refl _)
  have hb := hs _ hmem
  rw [hall] at hb
  obtain ⟨i1, i2, i3⟩ := split_least (ps := l) (all := l.sum) ⟨hb.1, by omega⟩ (setsF l.length) [] (-1) (fun L hL => by have := hs L hL; omega) (Int.le_refl _)
  have e : splitF l = (((setsF l.length).foldl (splitStep l l.sum) ([], -1)).1, ((setsF l.length).foldl (splitStep l l.sum) ([], -1)).2, 0) := by unfold splitF; rw [if_pos hok, hall]
  rw [e]
  refine ⟨rfl, ?_, fun s hs1 => ?_⟩
  · rcases i1 with k | ⟨L, hL, k⟩
    · obtain ⟨L, hL, k1, _⟩ := sets_first h.len h.rd 0 ⟨[], List.nil_sublist l, rfl⟩
      have := (i3 L hL k1).1
      omega
    · exact ⟨sumF l L, (sets_sum h.len h.rd _).1 ⟨L, hL, rfl⟩, k⟩
  · obtain ⟨L, hL, k1, k2⟩ := sets_first h.len h.rd s hs1
    have := (i3 L hL k1).2
    rw [k2] at this
    exact this
theorem split_perm {l o : List Int} (h : Sz l) (hp : l.Perm o) (hok : pieF 100 l = true) (hok2 : pieF 100 o = true) : (splitF l).2.1 = (splitF o).2.1 := by
  obtain ⟨_, ⟨s, a3, a4⟩, a5⟩ := split_val h hok
  obtain ⟨_, ⟨t, b3, b4⟩, b5⟩ := split_val (h.perm hp) hok2
  have c1 := b5 s (sub_perm hp a3)
  have c2 := a5 t (sub_perm hp.symm b3)
  rw [← perm_sum hp] at b4 c1
  omega

end Go.Proofs.Ytcjglbipkghhnaa.Math
