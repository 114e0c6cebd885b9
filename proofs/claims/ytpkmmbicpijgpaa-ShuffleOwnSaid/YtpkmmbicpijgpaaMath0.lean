import Derived.Test.YtpkmmbicpijgpaaOx4
namespace Go.Proofs.Ytpkmmbicpijgpaa.Pure
open Go.RowKit Go.Proofs.Ytpkmmbicpijgpaa.O Go.Proofs.YtpkmmbicpijgpaaW.PrintWords Go.Proofs.YtpkmmbicpijgpaaW.PrintLast

theorem wrap_in {n : Int} (h0 : -9223372036854775808 ≤ n) (h1 : n ≤ 9223372036854775807) : wrap64 n = n := by
  unfold wrap64
  omega

theorem u64_wrap (n : Int) : IntKind.u64.wrap n = n % 18446744073709551616 := by
  rfl

theorem mod_spec (a n : Int) (hn : 0 < n) (hn2 : n ≤ 9223372036854775807) : galloonlaw06_mod.f a n = some ((a % 18446744073709551616) % n) := by
  unfold galloonlaw06_mod.f
  rw [u64_wrap, u64_wrap]
  have e : n % 18446744073709551616 = n := Int.emod_eq_of_lt (by omega) (by omega)
  rw [e, if_neg (by omega)]
  have h0 : 0 ≤ a % 18446744073709551616 := Int.emod_nonneg _ (by omega)
  rw [Int.tmod_eq_emod_of_nonneg h0]
  have h1 := Int.emod_nonneg (a % 18446744073709551616) (show n ≠ 0 by omega)
  have h2 := Int.emod_lt_of_pos (a % 18446744073709551616) hn
  rw [wrap_in (by omega) (by omega)]

theorem mod_some (a n : Int) (hn : 0 < n) (hn2 : n ≤ 9223372036854775807) : ∃ t, galloonlaw06_mod.f a n = some t ∧ 0 ≤ t ∧ t < n :=
  ⟨_, mod_spec a n hn hn2, Int.emod_nonneg _ (by omega), Int.emod_lt_of_pos _ hn⟩

theorem awake_40 : galloonlaw06_awake.f 40 = some true := by decide +kernel

end Go.Proofs.Ytpkmmbicpijgpaa.Pure
