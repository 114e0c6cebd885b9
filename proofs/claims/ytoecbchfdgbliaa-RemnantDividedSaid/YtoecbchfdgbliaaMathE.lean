-- Plain lemmas: Rest finds what the reference finds.
import Derived.Test.YtoecbchfdgbliaaMathD
namespace Go.Proofs.Ytoecbchfdgbliaa.Math
open Go.RowKit Go.Proofs.Ytoecbchfdgbliaa.P Go.Proofs.YtoecbchfdgbliaaW.PrintWords Go.Proofs.YtoecbchfdgbliaaW.PrintLast Go.Proofs.YtoecbchfdgbliaaW.PrintMore Hand

theorem small_of {room : Int} {l : List Int} (h : Ok room l) : Small l := ⟨h.2.2.1, fun x hx => by have := h.2.2.2 x hx; have := h.2.1; omega⟩
def CR (room : Int) (l : List Int) (L : List Int) : Prop := L ∈ setsF l.length ∧ sumL l L ≤ room
instance (room : Int) (l : List Int) : DecidablePred (CR room l) := fun L => inferInstanceAs (Decidable (L ∈ setsF l.length ∧ sumL l L ≤ room))
def dR (room : Int) (l : List Int) (L : List Int) : Int := room - sumL l L
theorem sum_sets {l : List Int} (h : Small l) {L : List Int} (hL : L ∈ setsF l.length) : 0 ≤ sumL l L ∧ sumL l L ≤ 1200 ∧ sumF l L = sumL l L := by
  obtain ⟨hi, hl, _⟩ := in_sets hL
  have h1 := sumL_in h L hi
  have := h.1
  exact ⟨by omega, by omega, sumF_eq h L hi (by omega)⟩
theorem fold_rest {room : Int} {l : List Int} (h : Ok room l) : ∀ (xs : List (List Int)) (st : List Int × Int), (∀ x ∈ xs, x ∈ setsF l.length) → 0 ≤ st.2 → xs.foldl (restStep room l) st = xs.foldl (takeOne (CR room l) (dR room l)) st
  | [], _, _, _ => rfl
  | x :: xs, st, hx, hs => by
    have h1 := sum_sets (small_of h) (hx x List.mem_cons_self)
    have h2 := h.1
    have h3 := h.2.1
    have e : restStep room l st x = takeOne (CR room l) (dR room l) st x ∧ 0 ≤ (takeOne (CR room l) (dR room l) st x).2 := by
      unfold restStep takeOne
      simp only [h1.2.2]
      rw [wrap_in (n := room - sumL l x) (by omega) (by omega)]
      by_cases c : 0 ≤ room - sumL l x ∧ room - sumL l x < st.2
      · rw [if_pos c, if_pos ⟨⟨hx x List.mem_cons_self, by omega⟩, .inr c.2⟩]
        exact ⟨rfl, c.1⟩
      · rw [if_neg c, if_neg (fun k => c ⟨by have := k.1.2; omega, by rcases k.2 with k | k; · omega
                                                                      · exact k⟩)]
        exact ⟨rfl, hs⟩
    rw [List.foldl_cons, List.foldl_cons, e.1]
    exact fold_rest h xs _ (fun y hy => hx y (List.mem_cons_of_mem _ hy)) e.2
theorem rest_go {room : Int} {l : List Int} (h : Ok room l) : ∃ x, (setsF l.length).foldl (restStep room l) ([], room) = (x, dR room l x) ∧ Best (CR room l) (dR room l) x := by
  have h1 := h.1
  have hm : ([] : List Int) ∈ setsF l.length := by rw [sets_eq]; exact List.mem_cons_self
  have e : (setsF l.length).foldl (restStep room l) ([], room) = (setsF l.length).foldl (takeOne (CR room l) (dR room l)) ([], -1) := by
    rw [fold_rest h _ _ (fun x hx => hx) (by omega)]
    rw [sets_eq, List.foldl_cons, List.foldl_cons]
    congr 1
    have hc : CR room l [] := ⟨hm, by simp only [sumL, List.map_nil, List.sum_nil]; omega⟩
    have hd : dR room l [] = room := by simp only [dR, sumL, List.map_nil, List.sum_nil]; omega
    unfold takeOne
    rw [if_neg (fun k => by rcases k.2 with k | k <;> dsimp only at k <;> omega), if_pos ⟨hc, .inl (by decide)⟩, hd]
  rw [e]
  refine best_of_inv (by simpa using Inv.all (C := CR room l) (d := dR room l) (fun x hx => by have := hx.2; unfold dR; omega) (setsF l.length) [] ([], -1) (by simpa using sorted_sets l.length) (.inl ⟨rfl, by simp⟩)) ?_ (fun y hy => hy.1)
  exact ⟨[], hm, hm, by simp only [sumL, List.map_nil, List.sum_nil]; omega⟩

/-- The reference's best number so far. -/
def RefR (room : Int) (l : List Int) (i b : Nat) : Prop := b < 2 ^ l.length ∧ sumL l (bitsL l.length 0 b) ≤ room ∧ ∀ m, m < i → sumL l (bitsL l.length 0 m) ≤ room → sumL l (bitsL l.length 0 m) < sumL l (bitsL l.length 0 b) ∨ (sumL l (bitsL l.length 0 m) = sumL l (bitsL l.length 0 b) ∧ (bitsL l.length 0 m = bitsL l.length 0 b ∨ lexB (bitsL l.length 0 b) (bitsL l.length 0 m) = true))
theorem ref_rest {room : Int} {l : List Int} (h : Ok room l) : ∀ (t i b : Nat), i + t = 2 ^ l.length → RefR room l i b →
    ∃ b', RefR room l (i + t) b' ∧ ∀ k, t + 100 < k → galloonref09_Rest.l0 k room l (b : Int) (sumL l (bitsL l.length 0 b)) (i : Int) = some (bitsL l.length 0 b', dR room l (bitsL l.length 0 b')) := by
  have hs := small_of h
  have h12 := hs.1
  have hr1 := h.1
  have hr2 := h.2.1
  have hpow : 2 ^ l.length ≤ 4096 := Nat.le_trans (Nat.pow_le_pow_right (by decide) h12) (by decide)
  intro t
  induction t with
  | zero =>
    intro i b hi hb
    refine ⟨b, hb, fun k hk => ?_⟩
    obtain ⟨k, rfl⟩ : ∃ k', k = k' + 1 := ⟨k - 1, by omega⟩
    have := sum_sets hs (bits_mem hb.1)
    rw [galloonref09_Rest.l0, shl_nat l.length (by omega), if_neg (by omega), list_eq l.length b (by omega) hb.1 k (by omega), wrap_in (by omega) (by omega)]
    rfl
  | succ t ih =>
    intro i b hi hb
    have hlt : i < 2 ^ l.length := by omega
    have step : ∀ b2 : Nat, RefR room l (i + 1) b2 → (∀ k, t + 101 < k + 1 → galloonref09_Rest.l0 (k + 1) room l (b : Int) (sumL l (bitsL l.length 0 b)) (i : Int) = galloonref09_Rest.l0 k room l (b2 : Int) (sumL l (bitsL l.length 0 b2)) ((i + 1 : Nat) : Int)) →
        ∃ b', RefR room l (i + (t + 1)) b' ∧ ∀ k, t + 1 + 100 < k → galloonref09_Rest.l0 k room l (b : Int) (sumL l (bitsL l.length 0 b)) (i : Int) = some (bitsL l.length 0 b', dR room l (bitsL l.length 0 b')) := by
      intro b2 hb2 hst
      obtain ⟨b', hb', hk'⟩ := ih (i + 1) b2 (by omega) hb2
      refine ⟨b', by rw [show i + (t + 1) = i + 1 + t by omega]; exact hb', fun k hk => ?_⟩
      obtain ⟨k, rfl⟩ : ∃ k', k = k' + 1 := ⟨k - 1, by omega⟩
      rw [hst k (by omega), hk' k (by omega)]
    have hw : wrap64 ((i : Int) + 1) = ((i + 1 : Nat) : Int) := next (by omega)
    have hlen := bitsL_length l.length 0 i
    have old : ∀ (hc : ¬ (sumL l (bitsL l.length 0 i) ≤ room ∧ (sumL l (bitsL l.length 0 i) > sumL l (bitsL l.length 0 b) ∨ (sumL l (bitsL l.length 0 i) = sumL l (bitsL l.length 0 b) ∧ lexB (bitsL l.length 0 i) (bitsL l.length 0 b) = true)))), RefR room l (i + 1) b := by
      intro hc
      refine ⟨hb.1, hb.2.1, fun m hm hle => ?_⟩
      rcases Nat.lt_or_eq_of_le (Nat.lt_succ_iff.1 hm) with hm | rfl
      · exact hb.2.2 m hm hle
      · rcases Int.lt_trichotomy (sumL l (bitsL l.length 0 m)) (sumL l (bitsL l.length 0 b)) with c | c | c
        · exact .inl c
        · rcases lexB_total (bitsL l.length 0 m) (bitsL l.length 0 b) with e | e | e
          · exact .inr ⟨c, .inl e⟩
          · exact absurd ⟨hle, .inr ⟨c, e⟩⟩ hc
          · exact .inr ⟨c, .inr e⟩
        · exact absurd ⟨hle, .inl c⟩ hc
    by_cases c0 : sumL l (bitsL l.length 0 i) ≤ room
    · by_cases c1 : sumL l (bitsL l.length 0 i) > sumL l (bitsL l.length 0 b)
      · refine step i ⟨hlt, c0, fun m hm hle => ?_⟩ (fun k hk => ?_)
        · rcases Nat.lt_or_eq_of_le (Nat.lt_succ_iff.1 hm) with hm | rfl
          · rcases hb.2.2 m hm hle with h' | ⟨h', _⟩ <;> exact .inl (by omega)
          · exact .inr ⟨rfl, .inl rfl⟩
        · rw [galloonref09_Rest.l0, shl_nat l.length (by omega), if_pos (by omega), size_eq hs _ k (by omega)]
          simp only [Option.bind_some]
          rw [if_pos c0, if_pos c1, hw]
      · by_cases c2 : sumL l (bitsL l.length 0 i) = sumL l (bitsL l.length 0 b)
        · by_cases c3 : lexB (bitsL l.length 0 i) (bitsL l.length 0 b) = true
          · refine step i ⟨hlt, c0, fun m hm hle => ?_⟩ (fun k hk => ?_)
            · rcases Nat.lt_or_eq_of_le (Nat.lt_succ_iff.1 hm) with hm | rfl
              · rcases hb.2.2 m hm hle with h' | ⟨h', h''⟩
                · exact .inl (by omega)
                · refine .inr ⟨by omega, .inr ?_⟩
                  rcases h'' with h'' | h''
                  · rw [h'']; exact c3
                  · exact lexB_trans c3 h''
              · exact .inr ⟨rfl, .inl rfl⟩
            · rw [galloonref09_Rest.l0, shl_nat l.length (by omega), if_pos (by omega), size_eq hs _ k (by omega)]
              simp only [Option.bind_some]
              rw [if_pos c0, if_neg c1, if_pos c2, list_eq l.length _ (by omega) hlt k (by omega), list_eq l.length b (by omega) hb.1 k (by omega)]
              simp only [Option.bind_some]
              rw [before_eq _ _ (by omega) k (by omega)]
              simp only [Option.bind_some, c3, if_true]
              rw [hw]
          · refine step b (old (fun k => k.2.elim c1 (fun k => c3 k.2))) (fun k hk => ?_)
            rw [galloonref09_Rest.l0, shl_nat l.length (by omega), if_pos (by omega), size_eq hs _ k (by omega)]
            simp only [Option.bind_some]
            rw [if_pos c0, if_neg c1, if_pos c2, list_eq l.length _ (by omega) hlt k (by omega), list_eq l.length b (by omega) hb.1 k (by omega)]
            simp only [Option.bind_some]
            rw [before_eq _ _ (by omega) k (by omega)]
            simp only [Option.bind_some]
            rw [if_neg c3, hw]
        · refine step b (old (fun k => k.2.elim c1 (fun k => c2 k.1))) (fun k hk => ?_)
          rw [galloonref09_Rest.l0, shl_nat l.length (by omega), if_pos (by omega), size_eq hs _ k (by omega)]
          simp only [Option.bind_some]
          rw [if_pos c0, if_neg c1, if_neg c2, hw]
    · refine step b (old (fun k => c0 k.1)) (fun k hk => ?_)
      rw [galloonref09_Rest.l0, shl_nat l.length (by omega), if_pos (by omega), size_eq hs _ k (by omega)]
      simp only [Option.bind_some]
      rw [if_neg c0, hw]
/-- Rest's answer is the reference's. -/
theorem rest_ref {room : Int} {l : List Int} (h : Ok room l) (k : Nat) (hk : 5000 < k) : galloonref09_Rest.f k room l = some ((setsF l.length).foldl (restStep room l) ([], room)) := by
  have hs := small_of h
  have h12 := hs.1
  have hr1 := h.1
  have hpow : 2 ^ l.length ≤ 4096 := Nat.le_trans (Nat.pow_le_pow_right (by decide) h12) (by decide)
  obtain ⟨x, hx, hbx⟩ := rest_go h
  rw [hx]
  have hz : sumL l (bitsL l.length 0 0) = 0 := by rw [bitsL_zero]; rfl
  obtain ⟨b', hb', hk'⟩ := ref_rest h (2 ^ l.length) 0 0 (by omega) ⟨Nat.pow_pos (by decide), by omega, fun m hm => absurd hm (by omega)⟩
  have h1 := hk' k (by omega)
  rw [hz] at h1
  rw [show galloonref09_Rest.f k room l = galloonref09_Rest.l0 k room l ((0 : Nat) : Int) 0 ((0 : Nat) : Int) from rfl, h1]
  have e : x = bitsL l.length 0 b' := by
    refine hbx.unique ⟨⟨bits_mem hb'.1, hb'.2.1⟩, fun y hy => ?_⟩
    obtain ⟨_, _, m, hm, rfl⟩ := in_sets hy.1
    have := hb'.2.2 m (by omega) hy.2
    unfold dR
    rcases this with k | ⟨k, k'⟩
    · exact .inl (by omega)
    · exact .inr ⟨by omega, k'⟩
  rw [e]

theorem ints_at (a b : List Int) (e : a = b) (hl : a.length ≤ 100000) : ∀ (d j : Nat), j + d = a.length → ∀ k, d < k → galloonlaw09_ints.l0 k a b (j : Int) = some true := by
  subst e
  intro d
  induction d with
  | zero =>
    intro j hj k hk
    obtain ⟨k, rfl⟩ : ∃ k', k = k' + 1 := ⟨k - 1, by omega⟩
    rw [galloonlaw09_ints.l0, if_neg (by omega)]
  | succ d ih =>
    intro j hj k hk
    obtain ⟨k, rfl⟩ : ∃ k', k = k' + 1 := ⟨k - 1, by omega⟩
    rw [galloonlaw09_ints.l0, if_pos (by omega), if_pos (by omega), if_pos (by omega), if_pos rfl, next (by omega), ih (j + 1) (by omega) k (by omega)]
theorem ints_eq (a : List Int) (hl : a.length ≤ 100000) (k : Nat) (hk : a.length < k) : galloonlaw09_ints.f k a a = some true := by
  unfold galloonlaw09_ints.f
  rw [if_pos rfl]
  exact ints_at a a rfl hl a.length 0 (by omega) k hk

end Go.Proofs.Ytoecbchfdgbliaa.Math
