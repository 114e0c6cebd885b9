/- The reference's room at each modulus and place. -/
import Derived.Test.YtkjjnfbgcdanmaaMathE
import Derived.Test.YtkjjnfbgcdanmaaPx10 -- @shuffle_Unform
import Derived.Test.YtkjjnfbgcdanmaaPx12 -- @galloonref06_Formed
import Derived.Test.YtkjjnfbgcdanmaaPx13 -- @galloonref06_Unform
namespace Go.Proofs.Ytkjjnfbgcdanmaa.Pure
open Go.RowKit Go.Proofs.Ytkjjnfbgcdanmaa.P Go.Proofs.YtkjjnfbgcdanmaaW.PrintWords Go.Proofs.YtkjjnfbgcdanmaaW.PrintLast
open Go.Proofs.Ytkjjnfbgcdanmaa.MathA Go.Proofs.Ytkjjnfbgcdanmaa.MathB

theorem room_all : ∀ t : Fin 63, ∀ i : Fin 66, galloonref06_Room.f 200 ((t.val + 2 : Nat) : Int) ((i.val : Nat) : Int) = some ((ch (t.val + 2) i.val : Nat) : Int) := by decide +kernel
theorem room_ev {m : Nat} (h : Mod m) {i : Nat} (hi : i ≤ 65) {k : Nat} (hk : 200 ≤ k) : galloonref06_Room.f k (m : Int) (i : Int) = some (ch m i : Int) := by
  obtain ⟨t, rfl⟩ := h.fin
  exact at_rounds (fun k => galloonref06_Room.mono _ _ k) hk (room_all t ⟨i, by omega⟩)

end Go.Proofs.Ytkjjnfbgcdanmaa.Pure
