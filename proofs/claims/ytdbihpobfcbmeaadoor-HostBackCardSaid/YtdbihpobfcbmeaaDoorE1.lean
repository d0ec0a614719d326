/- Plain laws of hosts: what the printed functions compute. -/
import Derived.Test.YtdbihpobfcbmeaaDoorGP
import Derived.Test.YtdbihpobfcbmeaaDoorL27
set_option linter.unusedVariables false
set_option linter.unusedSimpArgs false
namespace Go.Proofs.YtdbihpobfcbmeaaDoor
namespace B
open Go Go.RowKit

theorem lives27 : p_law27_lives = some true := by kernel_rfl
theorem getI_nat {α : Type} (xs : List α) (i : Nat) : getI xs ((i : Nat) : Int) = xs[i]? := by simp [getI]
theorem wnat (n : Nat) (h : n ≤ 9223372036854775807) : IntKind.i64.wrap ((n : Nat) : Int) = ((n : Nat) : Int) := w64 (by omega) (by omega)
theorem wsucc (n : Nat) (h : n < 9223372036854775807) : IntKind.i64.wrap (((n : Nat) : Int) + (1 : Int)) = ((n + 1 : Nat) : Int) := by rw [w64 (by omega) (by omega)]; omega
theorem digit_p (b : UInt8) : p_host_digit ((b.toNat : Nat) : Int) = some (isD b) := by
  unfold p_host_digit isD
  split
  · simp only [Option.some.injEq]; exact decide_eq_decide.2 (by omega)
  · simp only [Option.some.injEq]; exact (decide_eq_false (by omega)).symm
theorem letter_p (b : UInt8) : p_host_letter ((b.toNat : Nat) : Int) = some (isL b) := by
  unfold p_host_letter isL
  repeat' split
  all_goals simp only [Option.some.injEq]
  all_goals first
    | exact (decide_eq_true (by omega)).symm
    | exact (decide_eq_false (by omega)).symm
    | exact decide_eq_decide.2 (by omega)
theorem class_p (b : UInt8) : p_ref27_class ((b.toNat : Nat) : Int) = some ((clsN b.toNat : Nat) : Int) := by
  have key : ∀ n : Fin 256, p_ref27_class ((n.1 : Nat) : Int) = some ((clsN n.1 : Nat) : Int) := by decide +kernel
  exact key ⟨b.toNat, b.toNat_lt⟩
theorem drop_getD (s : List UInt8) (i : Nat) (h : i < s.length) : s.drop i = s.getD i 0 :: s.drop (i + 1) := drop_cons s i 0 h
theorem most_p (s : List UInt8) (hl : s.length ≤ 100000000) : p_ref27_most s = some ((mst s 0 : Nat) : Int) := by
  unfold p_ref27_most
  refine loopO_inv (fun st => ∃ i n : Nat, st = ((n : Int), (i : Int)) ∧ i ≤ s.length ∧ mst (s.drop i) n = mst s 0) (fun st => s.length - st.2.toNat) ⟨0, 0, rfl, Nat.zero_le _, rfl⟩ (by simp; omega) ?_
  rintro st ⟨i, n, rfl, hi, hm⟩
  dsimp only
  unfold p_ref27_most_b1
  by_cases h : i < s.length
  · rw [if_pos (by omega), if_pos (by omega), Int.toNat_natCast, class_p, Option.bind_some]
    rw [drop_getD s i h, mst] at hm
    by_cases h0 : clsN (s.getD i 0).toNat = 0
    · rw [if_pos h0] at hm
      right
      rw [if_pos (by omega), ← hm]; rfl
    · rw [if_neg h0] at hm
      left
      rw [if_neg (by omega), wsucc _ (by omega)]
      refine ⟨_, rfl, ⟨i + 1, max n (clsN (s.getD i 0).toNat), ?_, by omega, hm⟩, ?_⟩
      · congr 1
        split <;> omega
      · simp only [Int.toNat_natCast]; omega
  · right
    rw [if_neg (by omega)]
    rw [List.drop_eq_nil_of_le (by omega)] at hm
    rw [← hm]; rfl
theorem cut_p (s : List UInt8) (b : UInt8) (hl : s.length ≤ 100000000) : p_ref27_cut s ((b.toNat : Nat) : Int) = some (sp b s) := by
  unfold p_ref27_cut
  refine loopO_inv (fun st => ∃ (out : List (List UInt8)) (j i : Nat), st = (out, (j : Int), (i : Int)) ∧ j ≤ i ∧ i ≤ s.length ∧ out.length ≤ i ∧ (∀ x ∈ (s.take i).drop j, x ≠ b) ∧ out ++ sp b (s.drop j) = sp b s) (fun st => s.length - st.2.2.toNat) ⟨[], 0, 0, rfl, Nat.le_refl _, Nat.zero_le _, Nat.zero_le _, by simp, rfl⟩ (by simp; omega) ?_
  rintro st ⟨out, j, i, rfl, hji, hi, ho, hno, hf⟩
  dsimp only
  unfold p_ref27_cut_b1
  by_cases h : i < s.length
  · rw [if_pos (by omega), if_pos (by omega), Int.toNat_natCast]
    left
    by_cases h2 : s.getD i 0 = b
    · rw [if_pos (by rw [h2]), if_pos (by omega), if_pos (by simp; omega), wsucc _ (by omega)]
      have hsp := sp_at b s j i hji h hno h2
      refine ⟨_, rfl, ⟨_, i + 1, i + 1, rfl, Nat.le_refl _, by omega, by simp; omega, ?_, ?_⟩, ?_⟩
      · rw [List.drop_eq_nil_of_le (by rw [List.length_take]; omega)]; simp
      · rw [← hf, hsp]; simp [subS]
      · simp only [Int.toNat_natCast]; omega
    · rw [if_neg (fun e => h2 (UInt8.toNat_inj.1 (by omega))), wsucc _ (by omega)]
      refine ⟨_, rfl, ⟨out, j, i + 1, rfl, by omega, by omega, by omega, ?_, hf⟩, ?_⟩
      · rw [drop_take_succ s j i hji h]
        intro x hx
        rcases List.mem_append.1 hx with hx | hx
        · exact hno x hx
        · simp only [List.mem_singleton] at hx; rw [hx]; exact h2
      · simp only [Int.toNat_natCast]; omega
  · right
    have hie : i = s.length := by omega
    subst hie
    rw [List.take_length] at hno
    rw [if_neg (by omega), if_pos (by omega), if_pos (by simp; omega)]
    rw [← hf, sp_none b _ hno]
    simp [subS]
theorem wlen1 (n : Nat) (h : 1 ≤ n) (h2 : n ≤ 9223372036854775807) : IntKind.i64.wrap (((n : Nat) : Int) - (1 : Int)) = ((n - 1 : Nat) : Int) := by rw [w64 (by omega) (by omega)]; omega
/-- A list gone through, element by element. -/
theorem getD_of {α : Type} {xs : List α} {i : Nat} (h : i < xs.length) : xs.drop i = xs[i] :: xs.drop (i + 1) := List.drop_eq_getElem_cons h
theorem host_b3 (v : Int) (x : List UInt8) (hl : x.length ≤ 100000000) (i : Nat) (hi : i ≤ x.length) : loopO (fun s : Int => p_host_word_b3 v x s) (i : Int) = some (.inl ((x.drop i).all isD, IntKind.i64.wrap (v + 1))) := by
  refine loopO_inv (fun st => ∃ k : Nat, st = (k : Int) ∧ k ≤ x.length ∧ (x.drop k).all isD = (x.drop i).all isD) (fun st => x.length - st.toNat) ⟨i, rfl, hi, rfl⟩ (by simp; omega) ?_
  rintro st ⟨k, rfl, hk, hm⟩
  unfold p_host_word_b3
  by_cases h : k < x.length
  · rw [if_pos (by omega), if_pos (by omega), Int.toNat_natCast, digit_p, Option.bind_some]
    rw [drop_getD x k h, List.all_cons] at hm
    cases hd : isD (x.getD k 0) with
    | false => right; rw [hd] at hm; simp [← hm]
    | true =>
      left
      rw [hd, Bool.true_and] at hm
      simp only [Bool.not_true, Bool.false_eq_true, if_false, wsucc _ (show k < 9223372036854775807 by omega)]
      exact ⟨_, rfl, ⟨k + 1, rfl, by omega, hm⟩, by simp only [Int.toNat_natCast]; omega⟩
  · right
    rw [if_neg (by omega), ← hm, List.drop_eq_nil_of_le (by omega)]; rfl
theorem host_b2 (a : Bool) (v : Int) (x : List UInt8) (hl : x.length ≤ 100000000) : loopO (fun s : Int => p_host_word_b2 a v x s) ((0 : Nat) : Int) = if x.all isW = true then some (.inl (a && x.all isD, IntKind.i64.wrap (v + 1))) else some (.inr false) := by
  have key : ∀ r, (if x.all isW = true then some (.inl (a && x.all isD, IntKind.i64.wrap (v + 1))) else some (.inr false)) = some r → loopO (fun s : Int => p_host_word_b2 a v x s) ((0 : Nat) : Int) = some r := by
    intro r hr
    refine loopO_inv (fun st => ∃ k : Nat, st = (k : Int) ∧ k ≤ x.length ∧ (x.drop k).all isW = x.all isW) (fun st => x.length - st.toNat) ⟨0, rfl, Nat.zero_le _, rfl⟩ (by simp; omega) ?_
    rintro st ⟨k, rfl, hk, hm⟩
    unfold p_host_word_b2
    by_cases h : k < x.length
    · rw [if_pos (by omega), if_pos (by omega), Int.toNat_natCast, digit_p, Option.bind_some, letter_p, Option.bind_some]
      rw [drop_getD x k h, List.all_cons] at hm
      generalize x.getD k 0 = b at hm ⊢
      have go : isW b = true → ∃ s', some (Sum.inl (IntKind.i64.wrap ((k : Int) + 1))) = some (Sum.inl (β := (Bool × Int) ⊕ Bool) s') ∧ (∃ k : Nat, s' = (k : Int) ∧ k ≤ x.length ∧ (x.drop k).all isW = x.all isW) ∧ x.length - s'.toNat < x.length - (k : Int).toNat := by
        intro hw
        rw [hw, Bool.true_and] at hm
        exact ⟨_, rfl, ⟨k + 1, wsucc _ (by omega), by omega, hm⟩, by rw [wsucc _ (by omega)]; simp only [Int.toNat_natCast]; omega⟩
      by_cases h1 : isD b = true
      · left; rw [if_pos h1]; exact go (by rw [isW, h1]; rfl)
      · rw [if_neg h1]
        by_cases h2 : isL b = true
        · left; rw [if_pos h2]; exact go (by rw [isW, h2]; simp)
        · rw [if_neg h2]
          by_cases h3 : ((b).toNat : Int) = 45
          · left; rw [if_pos h3]; exact go (by rw [isW, Bool.or_eq_true, decide_eq_true_eq]; right; omega)
          · right
            rw [if_neg h3]
            have hw : isW b = false := by
              rw [isW, Bool.eq_false_iff.2 h1, Bool.eq_false_iff.2 h2]; exact decide_eq_false (by omega)
            rw [hw, Bool.false_and] at hm
            rw [← hm] at hr
            obtain rfl := Option.some.inj hr
            rfl
    · right
      rw [if_neg (by omega)]
      rw [List.drop_eq_nil_of_le (by omega)] at hm
      rw [← hm] at hr
      simp only [List.all_nil, if_true] at hr
      obtain rfl := Option.some.inj hr
      cases a with
      | true => rw [if_pos rfl, show (0 : Int) = ((0 : Nat) : Int) from rfl, host_b3 v x hl 0 (Nat.zero_le _)]; rfl
      | false => rfl
  split
  · rename_i h; exact key _ (by rw [if_pos h])
  · rename_i h; exact key _ (by rw [if_neg h])
end B
end Go.Proofs.YtdbihpobfcbmeaaDoor
