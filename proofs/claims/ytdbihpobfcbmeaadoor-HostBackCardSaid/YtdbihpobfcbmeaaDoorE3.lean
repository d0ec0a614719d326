/- Plain laws of hosts: numbers. -/
import Derived.Test.YtdbihpobfcbmeaaDoorE2
set_option linter.unusedVariables false
set_option linter.unusedSimpArgs false
namespace Go.Proofs.YtdbihpobfcbmeaaDoor
namespace B
open Go Go.RowKit

theorem wu64 {n : Int} (h0 : 0 ≤ n) (h1 : n < 18446744073709551616) : IntKind.u64.wrap n = n := by
  rw [IntKind.wrap_u64]; omega
theorem wu8 {n : Int} (h0 : 0 ≤ n) (h1 : n < 256) : IntKind.u8.wrap n = n := by
  rw [IntKind.wrap_u8]; omega
theorem dgI (n : Nat) : byteI (IntKind.u8.wrap (IntKind.u64.wrap ((48 : Int) + (((n : Nat) : Int).tmod (10 : Int))))) = dg (n % 10) ∧ ∀ m ∈ ([(IntKind.u8.wrap (IntKind.u64.wrap ((48 : Int) + (((n : Nat) : Int).tmod (10 : Int)))))] : List Int), 0 ≤ m ∧ m < 256 := by
  have h : ((n : Nat) : Int).tmod (10 : Int) = ((n % 10 : Nat) : Int) := rfl
  rw [h, wu64 (by omega) (by omega), wu8 (by omega) (by omega)]
  refine ⟨?_, by intro m hm; simp at hm; omega⟩
  unfold byteI dg
  congr 1
theorem amount_n : ∀ (k K n : Nat), n < 10 ^ (k + 1) → k ≤ 30 → n < 18446744073709551616 → p_ref05_amount_n (K + k + 1) ((n : Nat) : Int) = some (decN n)
  | 0, K, n, h, _, _ => by
    show p_ref05_amount_s (p_ref05_amount_n (K + 0)) _ = _
    unfold p_ref05_amount_s
    obtain ⟨h1, h2⟩ := dgI n
    rw [if_pos h2, if_pos (by simp at h; omega), h1, decN_lt (by simpa using h), Nat.mod_eq_of_lt (by simpa using h)]
  | k + 1, K, n, h, hk, h64 => by
    show p_ref05_amount_s (p_ref05_amount_n (K + k + 1)) _ = _
    unfold p_ref05_amount_s
    obtain ⟨h1, h2⟩ := dgI n
    rw [if_pos h2, h1]
    by_cases hn : n < 10
    · rw [if_pos (by omega), decN_lt hn, Nat.mod_eq_of_lt hn]
    · have h3 : ((n : Nat) : Int).tdiv (10 : Int) = ((n / 10 : Nat) : Int) := rfl
      have h4 : 10 ^ (k + 1 + 1) = 10 ^ (k + 1) * 10 := Nat.pow_succ ..
      have hlen := decN_len k (n / 10) (by omega)
      rw [if_neg (by omega), h3, wu64 (by omega) (by omega), amount_n k K (n / 10) (by omega) (by omega) (by omega), Option.bind_some, if_pos (by simp; omega), ← decN_ge hn]
theorem amount_p (n : Nat) (h : n < 18446744073709551616) : p_ref05_amount ((n : Nat) : Int) = some (decN n) := by
  have := amount_n 20 (fuel - 21) n (by omega) (by omega) h
  rw [show fuel - 21 + 20 + 1 = fuel from rfl] at this
  exact this
theorem show_p (n : Nat) (h : n ≤ 9223372036854775807) : p_ref05_Show ((n : Nat) : Int) = some (decN n) := by
  unfold p_ref05_Show
  rw [if_neg (by omega), wu64 (by omega) (by omega), amount_p n (by omega)]; rfl
theorem shown_p (s : List UInt8) (lo hi : Nat) (hh : hi ≤ 65535) : p_ref27_Shown s ((lo : Nat) : Int) ((hi : Nat) : Int) = some (numI s lo hi) := by
  unfold p_ref27_Shown
  refine loopO_inv (fun st => ∃ n : Nat, st = (n : Int) ∧ (lo ≤ n ∧ ∀ m, lo ≤ m → m < n → decN m ≠ s)) (fun st => hi + 1 - st.toNat) ⟨lo, rfl, Nat.le_refl _, fun m h1 h2 => by omega⟩ (by omega) ?_
  rintro st ⟨n, rfl, h1, h2⟩
  unfold p_ref27_Shown_b1
  by_cases h : n ≤ hi
  · rw [if_pos (by omega)]
    by_cases h5 : (5 : Int) < s.length
    · right
      rw [if_pos h5, numI_not (fun m h3 h4 e => by
        have := decN_len 4 m (by omega)
        rw [e] at this; omega)]; rfl
    · rw [if_neg h5, show_p n (by omega), Option.bind_some]
      by_cases he : decN n = s
      · right; rw [if_pos he, numI_of he h1 h]; rfl
      · left
        rw [if_neg he, wsucc _ (by omega)]
        refine ⟨_, rfl, ⟨n + 1, rfl, by omega, fun m h3 h4 => ?_⟩, by simp only [Int.toNat_natCast]; omega⟩
        by_cases e : m = n
        · rw [e]; exact he
        · exact h2 m h3 (by omega)
  · right
    rw [if_neg (by omega), numI_not (fun m h3 h4 => h2 m h3 (by omega))]; rfl
theorem b_eq (s : List UInt8) (i : Nat) {n : Nat} (hn : n < 256) : ((((s.getD i 0).toNat : Nat) : Int) = (n : Int)) = (s.getD i 0 = UInt8.ofNat n) := propext (byte_eq hn)
theorem scan_j3 (i j k : Nat) (n : Int) (o : Bool) : p_num_Scan_j3 (i : Int) (j : Int) n (k : Int) o = some (if o = true then (0, 0, 2) else (if i < j then IntKind.i64.wrap (0 - n) else n, (k : Int), 0)) := by
  unfold p_num_Scan_j3
  cases o with
  | true => rfl
  | false =>
    by_cases h : i < j
    · rw [if_neg (by decide), if_pos (by omega), if_neg (by decide), if_pos h]
    · rw [if_neg (by decide), if_neg (by omega), if_neg (by decide), if_neg h]
theorem scan_j2 (s : List UInt8) (i j k : Nat) (n : Int) (o : Bool) (hj : j < s.length) (hl : s.length ≤ 100000000) : p_num_Scan_j2 s (i : Int) (j : Int) n (k : Int) o =
    if (s.getD j 0 = 48 ∧ (j + 1 < k ∨ i < j)) ∨ (k < s.length ∧ (s.getD k 0 = 46 ∨ s.getD k 0 = 101 ∨ s.getD k 0 = 69)) then some (0, 0, 12) else p_num_Scan_j3 (i : Int) (j : Int) n (k : Int) o := by
  have e48 : (((s.getD j 0).toNat : Nat) : Int) = 48 ↔ s.getD j 0 = 48 := byte_eq (n := 48) (by decide)
  have e46 : (((s.getD k 0).toNat : Nat) : Int) = 46 ↔ s.getD k 0 = 46 := byte_eq (n := 46) (by decide)
  have e101 : (((s.getD k 0).toNat : Nat) : Int) = 101 ↔ s.getD k 0 = 101 := byte_eq (n := 101) (by decide)
  have e69 : (((s.getD k 0).toNat : Nat) : Int) = 69 ↔ s.getD k 0 = 69 := byte_eq (n := 69) (by decide)
  unfold p_num_Scan_j2
  simp only [Int.toNat_natCast]
  rw [wsucc _ (by omega)]
  by_cases hC : (s.getD j 0 = 48 ∧ (j + 1 < k ∨ i < j)) ∨ (k < s.length ∧ (s.getD k 0 = 46 ∨ s.getD k 0 = 101 ∨ s.getD k 0 = 69))
  · rw [if_pos hC]
    rw [← e48, ← e46, ← e101, ← e69] at hC
    repeat' split
    all_goals first | rfl | omega
  · rw [if_neg hC]
    rw [← e48, ← e46, ← e101, ← e69] at hC
    repeat' split
    all_goals first | rfl | omega
end B
end Go.Proofs.YtdbihpobfcbmeaaDoor
