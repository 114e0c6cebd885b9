-- Plain lemmas over the names of the B print: Best.
import Derived.Test.YtcjglbipkghhnaaMathS
import Derived.Test.YtcjglbipkghhnaaBx3
namespace Go.Proofs.Ytcjglbipkghhnaa.Math
open Go.RowKit Go.Proofs.Ytcjglbipkghhnaa.B Go.Proofs.YtcjglbipkghhnaaW.PrintWords Go.Proofs.YtcjglbipkghhnaaW.PrintLast Go.Proofs.YtcjglbipkghhnaaW.PrintMore
open Go.Proofs.Ytcjglbipkghhnaa.Hand hiding wrap_in look
set_option linter.unusedVariables false

/-- What Weight and Best answer: no smaller number of boxes does. -/
theorem best_ok {room : Int} {l : List Int} (hok : Hand.pieF room l = true) (h1 : 1 ≤ room) (h2 : room ≤ 100) (h12 : l.length ≤ 12) (hp : ∀ i, i < l.length → 1 ≤ pz l i ∧ pz l i ≤ room) :
    ∃ (w at_ : Int) (m : Nat) (q : List Int), (0 ≤ at_ ∧ 2 * at_ ≤ room ∧ w = wgt room at_ (pz l) l.length ∧ ∀ a : Int, 0 ≤ a → 2 * a ≤ room → wgt room a (pz l) l.length ≤ w) ∧ w ≤ m ∧ m ≤ l.length ∧
      q ∈ packs room l m l.length [] 0 (List.replicate 12 0) ∧ (∀ m' : Nat, w ≤ m' → m' < m → packs room l m' l.length [] 0 (List.replicate 12 0) = []) ∧
      ∀ k, 200 ≤ k → remnant_Weight.f k room l = some (w, at_, 0) ∧ remnant_Best.f k room l = some (q, (m : Int), 0) := by
  obtain ⟨t, ht⟩ := Int.eq_ofNat_of_zero_le (show 0 ≤ room / 2 + 1 by omega)
  obtain ⟨w, at_, hP, hk⟩ := weight_go h1 h2 l h12 hp t 0 (-1) 0 (by omega) (.inl ⟨rfl, rfl⟩)
  have hwn : 0 ≤ w := by rw [hP.2.2.1]; exact wgt_nonneg _ _ _ _
  have hwl : w ≤ l.length := by rw [hP.2.2.1]; exact wgt_len h1 hP.1 hP.2.1 (pz l) l.length hp
  obtain ⟨v, rfl⟩ := Int.eq_ofNat_of_zero_le hwn
  have h0 : ∀ b, (List.replicate 12 (0 : Int)).getD b 0 = 0 := fun b => by rw [List.getD_eq_getElem?_getD, List.getElem?_replicate]; split <;> rfl
  have hld : ∀ (d j : Nat), (∀ i, i < j + d → 0 ≤ pz l i ∧ pz l i ≤ room) → ∀ b, 0 ≤ ld (pz l) (fun i => i) b j d ∧ ld (pz l) (fun i => i) b j d ≤ room ∧ (b < j → ld (pz l) (fun i => i) b j d = 0) := by
    intro d
    induction d with
    | zero => intro j _ b; exact ⟨Int.le_refl _, by show (0 : Int) ≤ room; omega, fun _ => rfl⟩
    | succ d ih =>
      intro j hb b
      have h3 := ih (j + 1) (fun i hi => hb i (by omega)) b
      have h4 := hb j (by omega)
      rw [ld]
      by_cases e : j = b
      · have := h3.2.2 (by omega)
        rw [if_pos e, this]
        omega
      · rw [if_neg e, Int.zero_add]
        exact ⟨h3.1, h3.2.1, fun h => h3.2.2 (by omega)⟩
  have hlast : packs room l l.length l.length [] 0 (List.replicate 12 0) ≠ [] := by
    refine packs_ne room l l.length (fun i hi => by have := (hp i hi).1; dsimp only [pz] at this; omega) h12 l.length [] 0 _ (by simp) (Nat.zero_le _) (by simp) (fun b _ => h0 b) ⟨fun i => i, fun i _ hi => by simpa using hi, fun b hb => ?_⟩
    show (List.replicate 12 (0 : Int)).getD b 0 + ld (pz l) (fun i => i) b 0 l.length ≤ room
    rw [h0, Int.zero_add]
    exact (hld l.length 0 (fun i hi => by have := hp i (by omega); omega) b).2.1
  obtain ⟨m, hm1, hm2, hm3, hm4⟩ : ∃ m : Nat, v ≤ m ∧ m ≤ l.length ∧ packs room l m l.length [] 0 (List.replicate 12 0) ≠ [] ∧ ∀ m', v ≤ m' → m' < m → packs room l m' l.length [] 0 (List.replicate 12 0) = [] := by
    have key : ∀ d u : Nat, u + d = l.length → v ≤ u → (∀ m', v ≤ m' → m' < u → packs room l m' l.length [] 0 (List.replicate 12 0) = []) → ∃ m : Nat, v ≤ m ∧ m ≤ l.length ∧ packs room l m l.length [] 0 (List.replicate 12 0) ≠ [] ∧ ∀ m', v ≤ m' → m' < m → packs room l m' l.length [] 0 (List.replicate 12 0) = [] := by
      intro d
      induction d with
      | zero => intro u hu hv hb; exact ⟨u, hv, by omega, by rw [show u = l.length by omega]; exact hlast, hb⟩
      | succ d ih =>
        intro u hu hv hb
        by_cases e : packs room l u l.length [] 0 (List.replicate 12 0) = []
        · exact ih (u + 1) (by omega) (by omega) fun m' h3 h4 => by
            by_cases e2 : m' = u
            · rw [e2]; exact e
            · exact hb m' h3 (by omega)
        · exact ⟨u, hv, by omega, e, hb⟩
    exact key (l.length - v) v (by omega) (Nat.le_refl _) fun m' h3 h4 => by omega
  obtain ⟨q, hq, hbest⟩ := bestL_found room l (l.length + 1 - v) v m hm1 (by omega) hm3 hm4
  refine ⟨v, at_, m, q, hP, by omega, hm2, hq, fun m' h3 h4 => hm4 m' (by omega) h4, fun k hk' => ?_⟩
  have hW : remnant_Weight.f k room l = some ((v : Int), at_, 0) := by
    unfold remnant_Weight.f remnant_arePieces.f
    rw [hok]
    simp only [Option.bind_some, if_true]
    rw [half room h1 h2, wrap_in (by omega) (by omega)]
    exact hk k (by omega)
  refine ⟨hW, ?_⟩
  unfold remnant_Best.f
  rw [if_pos hok, hW, Option.bind_some, if_pos ⟨rfl, by omega, by omega⟩, bestF, if_pos hok, Int.toNat_natCast, hbest]

end Go.Proofs.Ytcjglbipkghhnaa.Math
