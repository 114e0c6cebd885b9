import Derived.Test.YtpkmmbicpijgpaaHandB
namespace Go.Proofs.Ytpkmmbicpijgpaa.Hand
open Go.RowKit Go.Shelf Go.Proofs.YtpkmmbicpijgpaaW.PrintWords Go.Proofs.YtpkmmbicpijgpaaW.PrintLast Go.Proofs.YtpkmmbicpijgpaaW.PrintMore

/-- A condition that always holds may stand beside another. -/
theorem R_true {α : Type} {d : Kd α} {e base : Nat} {ok : Nat → Prop} {w : World} {v : Value} {xs : List α} (h : Kd.R d e w base ok v xs) : Kd.R d e w base (fun k => True ∧ ok k) v xs := Kd.R_mono h (fun _ h_ => ⟨trivial, h_⟩)

theorem s0_ {α : Type _} (l : List α) (i : Nat) (a : α) : l.toArray.setIfInBounds i a = (l.set i a).toArray := List.setIfInBounds_toArray ..
theorem s1_ {α : Type _} (xs : List α) (i : Nat) (b a : α) : (b :: xs).set (i + 1) a = b :: xs.set i a := List.set_cons_succ ..

end Go.Proofs.Ytpkmmbicpijgpaa.Hand
