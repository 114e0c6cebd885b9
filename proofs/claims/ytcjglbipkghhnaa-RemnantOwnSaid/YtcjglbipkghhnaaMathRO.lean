-- Plain lemmas over the names of the B print: tame rooms and pieces, awake; what First, Falling and Split answer.
import Derived.Test.YtcjglbipkghhnaaMathS
import Derived.Test.YtcjglbipkghhnaaMathFB
import Derived.Test.YtcjglbipkghhnaaBx4
namespace Go.Proofs.Ytcjglbipkghhnaa.Math
open Go.RowKit Go.Proofs.Ytcjglbipkghhnaa.B Go.Proofs.YtcjglbipkghhnaaW.PrintWords Go.Proofs.YtcjglbipkghhnaaW.PrintLast Go.Proofs.YtcjglbipkghhnaaW.PrintMore
open Go.Proofs.Ytcjglbipkghhnaa.Hand hiding wrap_in look within_iff
set_option linter.unusedVariables false

theorem within_is (x lo hi : Int) : Hand.within x lo hi = true ↔ lo ≤ x ∧ x ≤ hi := by
  unfold Hand.within
  split
  · simp only [decide_eq_true_eq]; omega
  · constructor
    · intro h; cases h
    · intro h; omega

/-- What pieces are. -/
def Ok (room : Int) (l : List Int) : Prop := 1 ≤ room ∧ room ≤ 100 ∧ l.length ≤ 12 ∧ ∀ x ∈ l, 1 ≤ x ∧ x ≤ room
theorem pie_iff (room : Int) (l : List Int) : Hand.pieF room l = true ↔ Ok room l := by
  unfold Hand.pieF Ok
  simp only [Bool.and_eq_true, within_is, decide_eq_true_eq, List.all_eq_true]
  constructor
  · rintro ⟨⟨h1, h2⟩, h3, h4⟩; exact ⟨h1, h2, by omega, h4⟩
  · rintro ⟨h1, h2, h3, h4⟩; exact ⟨⟨h1, h2⟩, by omega, h4⟩


theorem u64_in {n : Int} (h0 : 0 ≤ n) (h1 : n < 18446744073709551616) : IntKind.u64.wrap n = n := IntWalk.u64_in n ⟨h0, by omega⟩
theorem u64_nonneg (n : Int) : 0 ≤ IntKind.u64.wrap n := by
  have h : IntKind.u64.wrap n = n % 18446744073709551616 := by
    simp [IntKind.wrap, IntKind.bits, IntKind.signed]
  rw [h]; omega
theorem mod_some (x n : Int) (h0 : 1 ≤ n) (h1 : n ≤ 4096) : ∃ r : Nat, (r : Int) < n ∧ galloonlaw09_mod.f x n = some (r : Int) := by
  have hx := u64_nonneg x
  have hr0 := Int.emod_nonneg (IntKind.u64.wrap x) (show n ≠ 0 by omega)
  have hr1 := Int.emod_lt_of_pos (IntKind.u64.wrap x) (show 0 < n by omega)
  obtain ⟨r, hr⟩ := Int.eq_ofNat_of_zero_le hr0
  refine ⟨r, by omega, ?_⟩
  unfold galloonlaw09_mod.f
  rw [u64_in (n := n) (by omega) (by omega), if_neg (by omega), Int.tmod_eq_emod_of_nonneg hx, hr, wrap_in (by omega) (by omega)]

theorem tame_at {M : Nat} (hM : M ≤ 12) (room : Int) (l1 : List Int) (h1 : 1 ≤ room) (h100 : room ≤ 100) : ∀ (m j : Nat) (acc : List Int), j + m = M → acc.length = j → (∀ x ∈ acc, 1 ≤ x ∧ x ≤ room) →
    ∃ out : List Int, out.length ≤ M ∧ (∀ x ∈ out, 1 ≤ x ∧ x ≤ room) ∧ ∀ k, m < k → galloonlaw09_tame.l0 k room l1 (M : Int) acc (j : Int) = some (room, out) := by
  intro m
  induction m with
  | zero =>
    intro j acc hj hl ha
    refine ⟨acc, by omega, ha, fun k hk => ?_⟩
    obtain ⟨k, rfl⟩ : ∃ k', k = k' + 1 := ⟨k - 1, by omega⟩
    rw [galloonlaw09_tame.l0]
    split
    · rw [if_neg (by omega)]
    · rfl
  | succ m ih =>
    intro j acc hj hl ha
    by_cases hc : (j : Int) < (l1.length : Int)
    · obtain ⟨r, hr, he⟩ := mod_some (rd l1 (j : Int)) room h1 (by omega)
      have hw : wrap64 (1 + (r : Int)) = 1 + (r : Int) := wrap_in (by omega) (by omega)
      obtain ⟨out, h2, h3, h4⟩ := ih (j + 1) (acc ++ [1 + (r : Int)]) (by omega) (by simp; omega) (fun x hx => by
        rcases List.mem_append.1 hx with hx | hx
        · exact ha x hx
        · rw [List.mem_singleton.1 hx]; omega)
      refine ⟨out, h2, h3, fun k hk => ?_⟩
      obtain ⟨k, rfl⟩ : ∃ k', k = k' + 1 := ⟨k - 1, by omega⟩
      rw [galloonlaw09_tame.l0, if_pos hc, if_pos (by omega), if_pos (by omega), he]
      simp only [Option.bind_some]
      rw [if_pos (by omega), hw, next (by omega), h4 k (by omega)]
    · refine ⟨acc, by omega, ha, fun k hk => ?_⟩
      obtain ⟨k, rfl⟩ : ∃ k', k = k' + 1 := ⟨k - 1, by omega⟩
      rw [galloonlaw09_tame.l0, if_neg hc]
/-- Whatever int and list: tame makes a room and pieces. -/
theorem tame_ok {M : Nat} (hM : M ≤ 12) (a0 : Int) (l1 : List Int) : ∃ room l, Ok room l ∧ l.length ≤ M ∧ ∀ k, 20 < k → galloonlaw09_tame.f k a0 l1 (M : Int) = some (room, l) := by
  obtain ⟨r, hr, he⟩ := mod_some a0 100 (by decide) (by decide)
  have hw : wrap64 (1 + (r : Int)) = 1 + (r : Int) := wrap_in (by omega) (by omega)
  obtain ⟨out, h2, h3, h4⟩ := tame_at hM (1 + (r : Int)) l1 (by omega) (by omega) M 0 [] (by omega) rfl (by simp)
  refine ⟨1 + (r : Int), out, ⟨by omega, by omega, by omega, h3⟩, h2, fun k hk => ?_⟩
  unfold galloonlaw09_tame.f
  rw [he]
  simp only [Option.bind_some]
  rw [hw]
  exact h4 k (by omega)
theorem awake_ev : ∀ k, 60 ≤ k → galloonlaw09_awake.f k = some true := by
  intro k hk
  exact up (fun k => galloonlaw09_awake.mono k) (k := 60) (by decide +kernel) hk

theorem ord_at (l : List Int) (hl : l.length ≤ 1000) : ∀ (m j : Nat), j + m = l.length → ∀ k, m < k → remnant_inOrder.l0 k (places j) (l.length : Int) (j : Int) = some (places l.length) := by
  intro m
  induction m with
  | zero =>
    intro j hj k hk
    obtain ⟨k, rfl⟩ : ∃ k', k = k' + 1 := ⟨k - 1, by omega⟩
    rw [remnant_inOrder.l0, if_neg (by omega), show j = l.length by omega]
  | succ m ih =>
    intro j hj k hk
    obtain ⟨k, rfl⟩ : ∃ k', k = k' + 1 := ⟨k - 1, by omega⟩
    rw [remnant_inOrder.l0, if_pos (by omega), if_pos (by rw [places_length]; omega), next (by omega), show places j ++ [(j : Int)] = places (j + 1) by simp [places, List.range_succ]]
    exact ih (j + 1) (by omega) k (by omega)
theorem first_val {room : Int} {l : List Int} (h : pieF room l = true) (k : Nat) (hk : 20 ≤ k) : remnant_First.f k room l = some (fitF room l (fun _ _ => false) (places l.length), 0) := by
  obtain ⟨h1, h2, h12, hall⟩ := (pie_iff room l).mp h
  unfold remnant_First.f remnant_arePieces.f fitNever.f
  rw [h, show remnant_inOrder.f k l = some (places l.length) from ord_at l (by omega) l.length 0 (by omega) k (by omega)]
  simp only [Option.bind_some, if_true]
  rw [if_pos ⟨by omega, h2, h12, by rw [places_length]; exact h12, hall, places_in⟩]
  rfl
theorem boxF_snoc : ∀ (A : List Int) (n r b : Int), boxF 0 n A = (r, true) → 0 ≤ b → b ≤ r → boxF 0 n (A ++ [b]) = (mx r (b + 1), true)
  | [], n, r, b, h, h0, h1 => by
    rw [boxF] at h
    injection h with h _
    subst h
    rw [List.nil_append, boxF, if_pos ⟨h0, h1⟩, boxF]
  | a :: A, n, r, b, h, h0, h1 => by
    rw [boxF] at h
    rw [List.cons_append, boxF]
    by_cases c : 0 ≤ a ∧ a ≤ n
    · rw [if_pos c] at h
      rw [if_pos c]
      exact boxF_snoc A _ r b h h0 h1
    · rw [if_neg c] at h; cases h
/-- In the order of the pieces, the boxes have their numbers in the order of their first uses. -/
theorem fit_box {room : Int} {ps : List Int} (p : Int → Int → Bool) (hs : ∀ i : Nat, i < ps.length → 0 ≤ rd ps (i : Int) ∧ rd ps (i : Int) ≤ room) (h12 : ps.length ≤ 12) : ∀ (R A : List Int) (st : List Int × List Int × Nat), FI room ps A st → boxF 0 0 (st.1.take A.length) = ((st.2.2 : Int), true) → A ++ R = places ps.length →
    boxF 0 0 ((R.foldl (fitStep room ps p) st).1.take (A ++ R).length) = (((R.foldl (fitStep room ps p) st).2.2 : Int), true)
  | [], A, st, h, hb, _ => by rw [List.append_nil]; exact hb
  | i :: R, A, st, h, hb, hO => by
    have hlen : A.length + (R.length + 1) = ps.length := by
      have := congrArg List.length hO
      rw [List.length_append, List.length_cons, placesLen] at this
      exact this
    have hi : i = (A.length : Int) := by
      have h1 : (A ++ i :: R)[A.length]? = some i := by rw [List.getElem?_append_right (Nat.le_refl _), Nat.sub_self]; rfl
      rw [hO] at h1
      unfold places at h1
      rw [List.getElem?_map, List.getElem?_range (by omega)] at h1
      exact (Option.some.inj h1).symm
    subst hi
    have hnd : (A ++ (A.length : Int) :: R).Nodup := by rw [hO]; exact places_nodup _
    have hA0 : ∀ j ∈ A, 0 ≤ j := fun j hj => (places_memF.1 (by rw [← hO]; exact List.mem_append_left _ hj)).1
    have hFI := h.step (p := p) (i := A.length) hA0 (fun k => (List.nodup_append.1 hnd).2.2 _ k _ List.mem_cons_self rfl) (by omega) (by omega) (hs A.length (by omega))
    have e : A ++ (A.length : Int) :: R = (A ++ [(A.length : Int)]) ++ R := by simp
    have step : boxF 0 0 ((fitStep room ps p st (A.length : Int)).1.take (A.length + 1)) = (((fitStep room ps p st (A.length : Int)).2.2 : Int), true) := by
      obtain ⟨out, x, n⟩ := st
      have hol : out.length = ps.length := h.ok.1
      have htk : ∀ v : Int, (out.set A.length v).take (A.length + 1) = out.take A.length ++ [v] := fun v => by
        rw [List.take_add_one, List.take_set, List.getElem?_set_self (by omega), List.set_eq_of_length_le (by rw [List.length_take]; omega)]
        rfl
      have hb' : boxF 0 0 (out.take A.length) = ((n : Int), true) := hb
      rcases scan_inv x room (rd ps (A.length : Int)) p n with hc | ⟨hc1, hc2, hc3⟩
      · rw [fitStep_new hc, Int.toNat_natCast]
        show boxF 0 0 ((out.set A.length (n : Int)).take (A.length + 1)) = (((n + 1 : Nat) : Int), true)
        rw [htk, boxF_snoc _ 0 n n hb' (by omega) (Int.le_refl _)]
        congr 1
        unfold mx; split <;> omega
      · obtain ⟨b, hbb⟩ := Int.eq_ofNat_of_zero_le hc1
        rw [fitStep_old hbb, Int.toNat_natCast]
        show boxF 0 0 ((out.set A.length (b : Int)).take (A.length + 1)) = ((n : Int), true)
        rw [htk, boxF_snoc _ 0 n b hb' (by omega) (by omega)]
        congr 1
        unfold mx; split <;> omega
    have ih := fit_box p hs h12 R (A ++ [(A.length : Int)]) _ hFI (by rw [List.length_append, List.length_singleton]; exact step) (by rw [← e]; exact hO)
    rw [e, List.foldl_cons]
    exact ih
theorem nmL_len : ∀ (F : List Int) (r : List (Int × Int)) (d : Int), (nmL d r F).length = F.length
  | [], _, _ => rfl
  | b :: F, r, d => by rw [nmL, List.length_cons, nmL_len F, List.length_cons]
theorem fallF_len {room : Int} {l : List Int} (h : pieF room l = true) : (fallF room l).1.length = l.length ∧ (fallF room l).2 = 0 := by
  unfold fallF
  rw [if_pos h]
  refine ⟨?_, rfl⟩
  unfold renamedF
  rw [nmL_len, fitF_length]
theorem ints_at' (a : List Int) (hl : a.length ≤ 100000) : ∀ (d j : Nat), j + d = a.length → ∀ k, d < k → galloonlaw09_ints.l0 k a a (j : Int) = some true := by
  intro d
  induction d with
  | zero =>
    intro j hj k hk
    obtain ⟨k, rfl⟩ : ∃ k', k = k' + 1 := ⟨k - 1, by omega⟩
    rw [galloonlaw09_ints.l0, if_neg (by omega)]
  | succ d ih =>
    intro j hj k hk
    obtain ⟨k, rfl⟩ : ∃ k', k = k' + 1 := ⟨k - 1, by omega⟩
    rw [galloonlaw09_ints.l0, if_pos (by omega), if_pos (by omega), if_pos (by omega), if_pos rfl, next (by omega), ih (j + 1) (by omega) k (by omega)]
theorem ints_same (a : List Int) (hl : a.length ≤ 100000) (k : Nat) (hk : a.length < k) : galloonlaw09_ints.f k a a = some true := by
  unfold galloonlaw09_ints.f
  rw [if_pos rfl]
  exact ints_at' a hl a.length 0 (by omega) k hk
theorem split_len (ps : List Int) (all : Int) : ∀ (S : List (List Int)) (st : List Int × Int), (∀ L ∈ S, L.length ≤ 12) → st.1.length ≤ 12 → (S.foldl (splitStep ps all) st).1.length ≤ 12
  | [], st, _, h => h
  | L :: S, st, hS, h => by
    rw [List.foldl_cons]
    refine split_len ps all S _ (fun L' h' => hS L' (List.mem_cons_of_mem _ h')) ?_
    unfold splitStep
    split
    · exact h
    · dsimp only
      split
      · exact hS L List.mem_cons_self
      · exact h
theorem splitF_len {l : List Int} (h12 : l.length ≤ 12) (hok : Hand.pieF 100 l = true) : (splitF l).1.length ≤ 12 ∧ (splitF l).2.2 = 0 := by
  unfold splitF
  rw [if_pos hok]
  refine ⟨split_len _ _ _ _ (fun L hL => ?_) (Nat.zero_le _), rfl⟩
  have := ((sets_iff _ _).1 hL).length_le
  rw [placesLen] at this
  omega
/-- What Loads answers of a packing. -/
theorem loads_val {room : Int} {l p : List Int} {n : Nat} (hok : Hand.pieF room l = true) (hlen : p.length = l.length) (hb : boxF 0 0 p = ((n : Int), true)) : loadsF room l p = ((loadF l p).take n, 0) := by
  unfold loadsF
  rw [if_pos ⟨hok, hlen⟩, hb, if_pos rfl, Int.toNat_natCast]

end Go.Proofs.Ytcjglbipkghhnaa.Math
