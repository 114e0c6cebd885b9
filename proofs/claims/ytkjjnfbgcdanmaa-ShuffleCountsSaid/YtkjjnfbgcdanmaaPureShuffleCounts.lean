/- For every int, ShuffleCounts answers true: every modulus is one of 63, and each of these is reckoned. -/
import Derived.Test.YtkjjnfbgcdanmaaPx5
import Derived.Test.YtkjjnfbgcdanmaaMath0
namespace Go.Proofs.Ytkjjnfbgcdanmaa.Pure
open Go.RowKit Go.Proofs.Ytkjjnfbgcdanmaa.P Go.Proofs.YtkjjnfbgcdanmaaW.PrintWords Go.Proofs.YtkjjnfbgcdanmaaW.PrintLast

/-- The law at the residue t. -/
def countsAt (t : Int) : Option Bool := (shuffle_Count.f 200 (wrap64 (2 + t))).bind fun bt181 => ((shuffle_Degree.f 200 (wrap64 (2 + t))).bind fun bt183 => (if bt183.2 = 0 then (if bt183.1 < 2 then (galloonlaw06_ShuffleCounts.j0 200 (wrap64 (2 + t)) bt181.1 bt181.2 bt183.1 true) else (galloonlaw06_ShuffleCounts.j0 200 (wrap64 (2 + t)) bt181.1 bt181.2 bt183.1 (decide (bt183.1 > (wrap64 (2 + t)))))) else (galloonlaw06_ShuffleCounts.j0 200 (wrap64 (2 + t)) bt181.1 bt181.2 bt183.1 true)))

theorem counts_all : ∀ n : Fin 63, countsAt (n.val : Int) = some true := by decide +kernel

theorem ShuffleCounts : galloonlaw06_ShuffleCounts.Pure := by
  intro a _
  obtain ⟨t, ht, h0, h1⟩ := mod_some a 63 (by omega) (by omega)
  refine ⟨200, ?_⟩
  unfold galloonlaw06_ShuffleCounts.f
  rw [ht]
  have h := counts_all ⟨t.toNat, by omega⟩
  have e : ((t.toNat : Nat) : Int) = t := by omega
  simp only [e] at h
  exact h

end Go.Proofs.Ytkjjnfbgcdanmaa.Pure
