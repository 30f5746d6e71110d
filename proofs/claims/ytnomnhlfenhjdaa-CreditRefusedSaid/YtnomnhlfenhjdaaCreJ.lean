/- CreditRefused: its eighteen cases joined. No statement is proved here; nothing is assumed. -/
import Derived.Test.YtnomnhlfenhjdaaCreG
namespace Go.Proofs.Ytnomnhlfenhjdaa
open Go.RowKit Go.Shelf
set_option linter.unusedVariables false

theorem refused_walk (L S : Nat) (n : Int) (T : Nat) (hL : L < 256) (hS : S < 256) (hn : n < 9223372036854775808) (hT : T < 18446744073709551616) (w : World) :
    Calls Try.prog 5 #[.int .u8 (L : Int), .int .u8 (S : Int), .int .i64 n, .int .u64 (T : Int)] w fun e w' => e = .returned (.bool true) ∧ Step [] w w' := by
  by_cases hSm : S ≤ L + 1
  · by_cases h1 : n < 0
    · by_cases t1 : S + (L + 1) < T
      · exact refused_lt_neg_err L S (L + 1) _ n T rfl hL hS (by omega) rfl hT hSm h1 t1 w
      · by_cases t2 : T ≤ L + 1
        · exact refused_lt_neg_old L S (L + 1) _ n T rfl hL hS (by omega) rfl hT hSm h1 t2 w
        · exact refused_lt_neg_new L S (L + 1) _ n T rfl hL hS (by omega) rfl hT hSm h1 (by omega) (by omega) w
    · obtain ⟨a, rfl⟩ := Int.eq_ofNat_of_zero_le (show 0 ≤ n by omega)
      by_cases h2 : L + 1 - S < a
      · by_cases t1 : S + (L + 1) < T
        · exact refused_lt_over_err L S (L + 1) _ a T rfl hL hS (by omega) rfl hT hSm h2 (by omega) t1 w
        · by_cases t2 : T ≤ L + 1
          · exact refused_lt_over_old L S (L + 1) _ a T rfl hL hS (by omega) rfl hT hSm h2 (by omega) t2 w
          · exact refused_lt_over_new L S (L + 1) _ a T rfl hL hS (by omega) rfl hT hSm h2 (by omega) (by omega) (by omega) w
      · by_cases t1 : S + a + (L + 1) < T
        · exact refused_lt_ok_err L S (L + 1) _ a _ T rfl hL hS (by omega) rfl hT hSm (by omega) rfl t1 w
        · by_cases t2 : T ≤ L + 1
          · exact refused_lt_ok_old L S (L + 1) _ a _ T rfl hL hS (by omega) rfl hT hSm (by omega) rfl t2 w
          · exact refused_lt_ok_new L S (L + 1) _ a _ T rfl hL hS (by omega) rfl hT hSm (by omega) rfl (by omega) (by omega) w
  · by_cases h1 : n < 0
    · by_cases t1 : (L + 1) + (L + 1) < T
      · exact refused_ge_neg_err L S (L + 1) (L + 1) _ n T rfl hL rfl hS (by omega) rfl hT (by omega) h1 t1 w
      · by_cases t2 : T ≤ L + 1
        · exact refused_ge_neg_old L S (L + 1) (L + 1) _ n T rfl hL rfl hS (by omega) rfl hT (by omega) h1 t2 w
        · exact refused_ge_neg_new L S (L + 1) (L + 1) _ n T rfl hL rfl hS (by omega) rfl hT (by omega) h1 (by omega) (by omega) w
    · obtain ⟨a, rfl⟩ := Int.eq_ofNat_of_zero_le (show 0 ≤ n by omega)
      by_cases h2 : (L + 1) - (L + 1) < a
      · by_cases t1 : (L + 1) + (L + 1) < T
        · exact refused_ge_over_err L S (L + 1) (L + 1) _ a T rfl hL rfl hS (by omega) rfl hT (by omega) h2 (by omega) t1 w
        · by_cases t2 : T ≤ L + 1
          · exact refused_ge_over_old L S (L + 1) (L + 1) _ a T rfl hL rfl hS (by omega) rfl hT (by omega) h2 (by omega) t2 w
          · exact refused_ge_over_new L S (L + 1) (L + 1) _ a T rfl hL rfl hS (by omega) rfl hT (by omega) h2 (by omega) (by omega) (by omega) w
      · by_cases t1 : (L + 1) + a + (L + 1) < T
        · exact refused_ge_ok_err L S (L + 1) (L + 1) _ a _ T rfl hL rfl hS (by omega) rfl hT (by omega) (by omega) rfl t1 w
        · by_cases t2 : T ≤ L + 1
          · exact refused_ge_ok_old L S (L + 1) (L + 1) _ a _ T rfl hL rfl hS (by omega) rfl hT (by omega) (by omega) rfl t2 w
          · exact refused_ge_ok_new L S (L + 1) (L + 1) _ a _ T rfl hL rfl hS (by omega) rfl hT (by omega) (by omega) rfl (by omega) (by omega) w
end Go.Proofs.Ytnomnhlfenhjdaa
