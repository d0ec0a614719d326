/- Plain laws: numbers as texts. -/
import Derived.Test.YtdbihpobfcbmeaaDoorGR
import Derived.Test.YtdbihpobfcbmeaaDoorPL
set_option linter.unusedVariables false
set_option linter.unusedSimpArgs false
namespace Go.Proofs.YtdbihpobfcbmeaaDoor
namespace B
open Go Go.RowKit

theorem dgI (n : Nat) : byteI (IntKind.u8.wrap (IntKind.u64.wrap ((48 : Int) + (((n : Nat) : Int).tmod (10 : Int))))) = dg (n % 10) ∧ 0 ≤ (IntKind.u8.wrap (IntKind.u64.wrap ((48 : Int) + (((n : Nat) : Int).tmod (10 : Int))))) ∧ (IntKind.u8.wrap (IntKind.u64.wrap ((48 : Int) + (((n : Nat) : Int).tmod (10 : Int))))) < 256 := by
  have h : ((n : Nat) : Int).tmod (10 : Int) = ((n % 10 : Nat) : Int) := rfl
  rw [h, wu64 (by omega) (by omega), wu8 (by omega) (by omega)]
  refine ⟨?_, by omega, by omega⟩
  unfold byteI dg
  congr 1
theorem amount_n : ∀ (k K n : Nat), n < 10 ^ (k + 1) → k ≤ 30 → n < 18446744073709551616 → p_ref05_amount_n (K + k + 1) ((n : Nat) : Int) = some (decN n)
  | 0, K, n, h, _, _ => by
    show p_ref05_amount_s (p_ref05_amount_n (K + 0)) _ = _
    unfold p_ref05_amount_s
    obtain ⟨h1, h2⟩ := dgI n
    rw [if_pos h2, if_pos (by simp at h; omega), h1, decN_lt (by simpa using h), Nat.mod_eq_of_lt (by simpa using h)]
  | k + 1, K, n, h, hk, h64 => by
    show p_ref05_amount_s (p_ref05_amount_n (K + k + 1)) _ = _
    unfold p_ref05_amount_s
    obtain ⟨h1, h2⟩ := dgI n
    rw [if_pos h2, h1]
    by_cases hn : n < 10
    · rw [if_pos (by omega), decN_lt hn, Nat.mod_eq_of_lt hn]
    · have h3 : ((n : Nat) : Int).tdiv (10 : Int) = ((n / 10 : Nat) : Int) := rfl
      have h4 : 10 ^ (k + 1 + 1) = 10 ^ (k + 1) * 10 := Nat.pow_succ ..
      have hlen := decN_len k (n / 10) (by omega)
      rw [if_neg (by omega), h3, wu64 (by omega) (by omega), amount_n k K (n / 10) (by omega) (by omega) (by omega), Option.bind_some, if_pos (by simp; omega), ← decN_ge hn]
theorem amount_p (n : Nat) (h : n < 18446744073709551616) : p_ref05_amount ((n : Nat) : Int) = some (decN n) := by
  have := amount_n 20 (fuel - 21) n (by omega) (by omega) h
  rw [show fuel - 21 + 20 + 1 = fuel from rfl] at this
  exact this
theorem refShow_p (n : Int) (h0 : -9223372036854775808 ≤ n) (h1 : n ≤ 9223372036854775807) : p_ref05_Show n = some (decS n) := by
  unfold p_ref05_Show decS
  by_cases h : n < 0
  · rw [if_pos h, if_pos h, w64 (n := n + 1) (by omega) (by omega), w64 (by omega) (by omega), wu64 (n := 0 - (n + 1)) (by omega) (by omega), wu64 (by omega) (by omega)]
    rw [show (0 - (n + 1) + 1 : Int) = ((n.natAbs : Nat) : Int) by omega, amount_p _ (by omega), Option.bind_some]
    have := decN_len 18 n.natAbs (by omega)
    rw [if_pos (by simp; omega)]; rfl
  · rw [if_neg h, if_neg h, wu64 (by omega) (by omega)]
    rw [show n = ((n.toNat : Nat) : Int) by omega, amount_p _ (by omega)]
    simp only [Option.bind_some, Int.toNat_natCast]
theorem numShow_p (n : Int) (h0 : -9223372036854775808 ≤ n) (h1 : n ≤ 9223372036854775807) : p_num_Show n = some (decS n) := by
  unfold p_num_Show p_strconv_FormatInt p_internal_strconv_FormatInt
  rw [if_pos ⟨rfl, h0, h1⟩]
  simp only [Option.bind_some]
  rw [itoa_decS]
end B
end Go.Proofs.YtdbihpobfcbmeaaDoor
