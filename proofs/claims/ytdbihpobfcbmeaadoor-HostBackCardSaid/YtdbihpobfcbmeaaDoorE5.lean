/- Plain laws of hosts: four numbers. -/
import Derived.Test.YtdbihpobfcbmeaaDoorE4
set_option linter.unusedVariables false
set_option linter.unusedSimpArgs false
namespace Go.Proofs.YtdbihpobfcbmeaaDoor
namespace B
open Go Go.RowKit

theorem four_p (s : List UInt8) (hl : s.length ≤ 10000000) : p_host_four s = some (fourB s) := by
  unfold p_host_four
  rw [split_p s 46 (by omega), Option.bind_some, fourB]
  have hml := sp_mem_le 46 s
  have hle := sp_le 46 s
  generalize sp 46 s = xs at *
  refine loopO_inv (fun st => ∃ (i : Nat), st = (i : Int) ∧ i ≤ xs.length ∧ (xs.drop i).all (fun x => decide (0 ≤ numI x 0 255)) = xs.all (fun x => decide (0 ≤ numI x 0 255))) (fun st => xs.length - st.toNat) ⟨0, rfl, Nat.zero_le _, rfl⟩ (by simp; omega) ?_
  rintro st ⟨i, rfl, hi, h1⟩
  unfold p_host_four_b1
  by_cases h : i < xs.length
  · rw [if_pos (by omega), getI_nat, List.getElem?_eq_getElem h, Option.bind_some]
    have hxl := hml xs[i] (List.getElem_mem h)
    rw [getD_of h, List.all_cons] at h1
    generalize xs[i] = x at h1 hxl ⊢
    have hn := number_p x 0 255 (by omega) (by decide)
    rw [show ((0 : Nat) : Int) = (0 : Int) from rfl, show ((255 : Nat) : Int) = (255 : Int) from rfl] at hn
    rw [hn, Option.bind_some]
    by_cases g : numI x 0 255 < 0
    · right
      rw [if_pos g]
      rw [decide_eq_false (by omega), Bool.false_and] at h1
      rw [← h1, Bool.and_false]; rfl
    · left
      rw [if_neg g, wsucc _ (by omega)]
      rw [decide_eq_true (by omega), Bool.true_and] at h1
      exact ⟨_, rfl, ⟨i + 1, rfl, by omega, h1⟩, by simp only [Int.toNat_natCast]; omega⟩
  · right
    rw [if_neg (by omega)]
    rw [List.drop_eq_nil_of_le (by omega)] at h1
    rw [← h1, List.all_nil, Bool.and_true]
    show some (Sum.inr _) = _
    congr 2
    exact decide_eq_decide.2 (by omega)
theorem rfour_p (s : List UInt8) (hl : s.length ≤ 10000000) : p_ref27_four s = some (fourB s) := by
  unfold p_ref27_four
  rw [cut46 s (by omega), Option.bind_some, fourB]
  have hml := sp_mem_le 46 s
  have hle := sp_le 46 s
  generalize sp 46 s = xs at *
  by_cases h4 : xs.length = 4
  · rw [if_pos (by omega), decide_eq_true h4, Bool.true_and]
    refine loopO_inv (fun st => ∃ (i : Nat), st = (i : Int) ∧ i ≤ xs.length ∧ (xs.drop i).all (fun x => decide (0 ≤ numI x 0 255)) = xs.all (fun x => decide (0 ≤ numI x 0 255))) (fun st => xs.length - st.toNat) ⟨0, rfl, Nat.zero_le _, rfl⟩ (by simp; omega) ?_
    rintro st ⟨i, rfl, hi, h1⟩
    unfold p_ref27_four_b1
    by_cases h : i < xs.length
    · rw [if_pos (by omega), getI_nat, List.getElem?_eq_getElem h, Option.bind_some]
      rw [getD_of h, List.all_cons] at h1
      generalize xs[i] = x at h1 ⊢
      have hn := shown_p x 0 255 (by decide)
      rw [show ((0 : Nat) : Int) = (0 : Int) from rfl, show ((255 : Nat) : Int) = (255 : Int) from rfl] at hn
      rw [hn, Option.bind_some]
      by_cases g : numI x 0 255 < 0
      · right
        rw [if_pos g]
        rw [decide_eq_false (by omega), Bool.false_and] at h1
        rw [← h1]; rfl
      · left
        rw [if_neg g, wsucc _ (by omega)]
        rw [decide_eq_true (by omega), Bool.true_and] at h1
        exact ⟨_, rfl, ⟨i + 1, rfl, by omega, h1⟩, by simp only [Int.toNat_natCast]; omega⟩
    · right
      rw [if_neg (by omega)]
      rw [List.drop_eq_nil_of_le (by omega)] at h1
      rw [← h1]; rfl
  · rw [if_neg (by omega), decide_eq_false h4, Bool.false_and]
theorem subS_all (s : List UInt8) (j : Nat) : subS s (j : Int) (s.length : Int) = s.drop j := by simp [subS]
theorem subS_pre (s : List UInt8) (j : Nat) : subS s (0 : Int) (j : Int) = s.take j := by simp [subS]
/-- The last place of a byte. -/
def lastI (b : UInt8) : List UInt8 → Option Nat
  | [] => none
  | c :: s => match lastI b s with | some i => some (i + 1) | none => if c = b then some 0 else none
def lastZ (b : UInt8) (s : List UInt8) : Int := match lastI b s with | some i => (i : Int) | none => -1
theorem lastI_snoc (b c : UInt8) : ∀ s : List UInt8, lastI b (s ++ [c]) = if c = b then some s.length else lastI b s
  | [] => by simp [lastI]
  | x :: s => by
    rw [List.cons_append, lastI, lastI_snoc b c s]
    by_cases h : c = b
    · rw [if_pos h, if_pos h]; rfl
    · rw [if_neg h, if_neg h]; rfl
theorem lastI_take (b : UInt8) (s : List UInt8) (k : Nat) (h : k < s.length) : lastI b (s.take (k + 1)) = if s.getD k 0 = b then some k else lastI b (s.take k) := by
  rw [take_snoc s k h, lastI_snoc, List.length_take, Nat.min_eq_left (by omega)]
theorem lastI_lt (b : UInt8) : ∀ (s : List UInt8) (i : Nat), lastI b s = some i → i < s.length
  | [], i, h => by simp [lastI] at h
  | c :: s, i, h => by
    rw [lastI] at h
    split at h
    · rename_i k hk; cases h; have := lastI_lt b s k hk; simp; omega
    · split at h
      · cases h; simp
      · cases h
theorem lastIdx_p (s : List UInt8) (b : UInt8) (hl : s.length ≤ 100000000) : p_strings_LastIndexByte s ((b.toNat : Nat) : Int) = some (lastZ b s) := by
  unfold p_strings_LastIndexByte p_internal_bytealg_LastIndexByteString
  have key : ∀ r : Int, r = lastZ b s → loopO (fun q : Int => p_internal_bytealg_LastIndexByteString_b1 s ((b.toNat : Nat) : Int) q) (IntKind.i64.wrap ((s.length : Int) - 1)) = some r := by
    rintro r rfl
    refine loopO_inv (fun st => ∃ k : Nat, st = (k : Int) - 1 ∧ k ≤ s.length ∧ lastI b (s.take k) = lastI b s) (fun st => (st + 1).toNat) ⟨s.length, by rw [w64 (by omega) (by omega)], Nat.le_refl _, by rw [List.take_length]⟩ (by rw [w64 (by omega) (by omega)]; omega) ?_
    rintro st ⟨k, rfl, hk, hm⟩
    unfold p_internal_bytealg_LastIndexByteString_b1
    cases k with
    | zero =>
      right
      rw [if_neg (by omega)]
      rw [List.take_zero] at hm
      rw [lastZ, ← hm]; rfl
    | succ k =>
      have e : (((k + 1 : Nat) : Int) - 1) = ((k : Nat) : Int) := by omega
      rw [e, if_pos (by omega), if_pos (by omega), Int.toNat_natCast]
      rw [lastI_take b s k (by omega)] at hm
      by_cases h : s.getD k 0 = b
      · right
        rw [if_pos (by rw [h])]
        rw [if_pos h] at hm
        rw [lastZ, ← hm]; rfl
      · left
        rw [if_neg (fun e => h (UInt8.toNat_inj.1 (by omega)))]
        rw [if_neg h] at hm
        exact ⟨_, rfl, ⟨k, by rw [w64 (by omega) (by omega)], by omega, hm⟩, by rw [w64 (by omega) (by omega)]; omega⟩
  rw [key _ rfl]; rfl
end B
end Go.Proofs.YtdbihpobfcbmeaaDoor
