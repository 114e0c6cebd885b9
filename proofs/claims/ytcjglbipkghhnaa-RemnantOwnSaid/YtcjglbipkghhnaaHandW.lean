import Derived.Laws.Entries
import Derived.Below
namespace Go.Proofs.Ytcjglbipkghhnaa.Hand
/-- A cell behind a store to it, without a premise: simp's own depth of premises runs out at four stores into one block. -/
theorem cell_map_ (w : World) (a : Addr) (v : Value) : (w.setCell a v).cell? a = (w.cell? a).map fun _ => v := by
  cases h : w.cell? a with
  | some u => exact World.cell?_setCell_same (h := h) ..
  | none =>
    unfold World.cell? at h
    unfold World.cell? World.setCell
    simp only [Array.getElem?_modify, if_true]
    cases hb : w.heap[a.block]? with
    | none => simp
    | some o =>
      cases o with
      | cells c e f =>
        rw [hb] at h
        cases hs : a.spot with
        | some s => simp
        | none =>
          simp only [hs] at h
          simpa using h
      | _ => simp
end Go.Proofs.Ytcjglbipkghhnaa.Hand
