/- Plain laws of hosts: what stands in brackets, first part: what the two count. -/
import Derived.Test.YtdbihpobfcbmeaaDoorE5
set_option linter.unusedVariables false
set_option linter.unusedSimpArgs false
namespace Go.Proofs.YtdbihpobfcbmeaaDoor
namespace B
open Go Go.RowKit

def okG (x : List UInt8) : Bool := decide (1 ≤ x.length) && decide (x.length ≤ 4) && x.all isH
def grp (t : List UInt8) : Int := if t = [] then 0 else if (sp 58 t).all okG = true then (((sp 58 t).length : Nat) : Int) else -1
theorem okG_iff (x : List UInt8) : okG x = true ↔ 1 ≤ x.length ∧ x.length ≤ 4 ∧ x.all isH = true := by
  rw [okG, Bool.and_eq_true, Bool.and_eq_true, decide_eq_true_eq, decide_eq_true_eq, and_assoc]
theorem isH_iff (b : UInt8) : isH b = true ↔ isD b = true ∨ ((97 : Int) ≤ ((b.toNat : Nat) : Int) ∧ ((b.toNat : Nat) : Int) ≤ 102) ∨ ((65 : Int) ≤ ((b.toNat : Nat) : Int) ∧ ((b.toNat : Nat) : Int) ≤ 70) := by
  rw [isH, isD, decide_eq_true_eq, decide_eq_true_eq]; omega
theorem groups_b2 (n i : Int) (x : List UInt8) (hl : x.length ≤ 100000000) : loopO (fun s : Int => p_host_groups_b2 n i x s) (0 : Int) = if x.all isH = true then some (.inl (IntKind.i64.wrap (n + 1), IntKind.i64.wrap (i + 1))) else some (.inr (-1)) := by
  have key : ∀ r, (if x.all isH = true then some (.inl (IntKind.i64.wrap (n + 1), IntKind.i64.wrap (i + 1))) else some (.inr (-1))) = some r → loopO (fun s : Int => p_host_groups_b2 n i x s) (0 : Int) = some r := by
    intro r hr
    refine loopO_inv (fun st => ∃ k : Nat, st = (k : Int) ∧ k ≤ x.length ∧ (x.drop k).all isH = x.all isH) (fun st => x.length - st.toNat) ⟨0, rfl, Nat.zero_le _, rfl⟩ (by simp; omega) ?_
    rintro st ⟨k, rfl, hk, hm⟩
    unfold p_host_groups_b2
    by_cases h : k < x.length
    · rw [if_pos (by omega), if_pos (by omega), Int.toNat_natCast, digit_p, Option.bind_some]
      rw [drop_getD x k h, List.all_cons] at hm
      have hH := isH_iff (x.getD k 0)
      generalize x.getD k 0 = b at hm hH ⊢
      have go : isH b = true → ∃ s', some (Sum.inl (IntKind.i64.wrap ((k : Int) + 1))) = some (Sum.inl (β := (Int × Int) ⊕ Int) s') ∧ (∃ k : Nat, s' = (k : Int) ∧ k ≤ x.length ∧ (x.drop k).all isH = x.all isH) ∧ x.length - s'.toNat < x.length - (k : Int).toNat := by
        intro hw
        rw [hw, Bool.true_and] at hm
        exact ⟨_, rfl, ⟨k + 1, wsucc _ (by omega), by omega, hm⟩, by rw [wsucc _ (by omega)]; simp only [Int.toNat_natCast]; omega⟩
      have no : ¬ isH b = true → Option.map Sum.inr (Option.map Sum.inr (some (-1))) = some (Sum.inr (α := Int) r) := by
        intro hw
        rw [Bool.eq_false_iff.2 hw, Bool.false_and] at hm
        rw [← hm] at hr
        obtain rfl := Option.some.inj hr
        rfl
      by_cases h1 : isD b = true
      · left; rw [if_pos h1]; exact go (hH.2 (.inl h1))
      · rw [if_neg h1]
        by_cases h2 : (97 : Int) ≤ ((b.toNat : Nat) : Int)
        · rw [if_pos h2]
          by_cases h3 : ((b.toNat : Nat) : Int) ≤ 102
          · left; rw [if_pos h3]; exact go (hH.2 (.inr (.inl ⟨h2, h3⟩)))
          · rw [if_neg h3]
            right
            have hn : ¬ isH b = true := fun hh => by rcases hH.1 hh with h | h | h; exact h1 h; omega; omega
            repeat' split
            all_goals first | exact no hn | (exfalso; omega)
        · rw [if_neg h2]
          by_cases h4 : (65 : Int) ≤ ((b.toNat : Nat) : Int)
          · rw [if_pos h4]
            by_cases h5 : ((b.toNat : Nat) : Int) ≤ 70
            · left; rw [if_pos h5]; exact go (hH.2 (.inr (.inr ⟨h4, h5⟩)))
            · rw [if_neg h5]; right; exact no (fun hh => by rcases hH.1 hh with h | h | h; exact h1 h; omega; omega)
          · rw [if_neg h4]; right; exact no (fun hh => by rcases hH.1 hh with h | h | h; exact h1 h; omega; omega)
    · right
      rw [if_neg (by omega)]
      rw [List.drop_eq_nil_of_le (by omega)] at hm
      rw [← hm] at hr
      simp only [List.all_nil, if_true] at hr
      obtain rfl := Option.some.inj hr
      rfl
  split
  · rename_i h; exact key _ (by rw [if_pos h])
  · rename_i h; exact key _ (by rw [if_neg h])
theorem groups_p (t : List UInt8) (hl : t.length ≤ 10000000) : p_host_groups t = some (grp t) := by
  unfold p_host_groups grp
  by_cases h0 : t = []
  · rw [if_pos h0, if_pos h0]
  rw [if_neg h0, if_neg h0, split_p t 58 (by omega), Option.bind_some]
  have hml := sp_mem_le 58 t
  have hle := sp_le 58 t
  generalize sp 58 t = xs at *
  refine loopO_inv (fun st => ∃ (i : Nat), st = ((i : Int), (i : Int)) ∧ i ≤ xs.length ∧ (xs.drop i).all okG = xs.all okG) (fun st => xs.length - st.2.toNat) ⟨0, rfl, Nat.zero_le _, rfl⟩ (by simp; omega) ?_
  rintro st ⟨i, rfl, hi, h1⟩
  dsimp only
  unfold p_host_groups_b1
  by_cases h : i < xs.length
  · rw [if_pos (by omega), getI_nat, List.getElem?_eq_getElem h, Option.bind_some]
    have hxl := hml xs[i] (List.getElem_mem h)
    rw [getD_of h, List.all_cons] at h1
    generalize xs[i] = x at h1 hxl ⊢
    have bad : ¬ okG x = true → ¬ xs.all okG = true := fun hb => by rw [← h1, Bool.eq_false_iff.2 hb]; simp
    by_cases g1 : (x.length : Int) < 1
    · right; rw [if_pos g1, if_neg (bad (fun hh => by have := (okG_iff x).1 hh; omega))]; rfl
    rw [if_neg g1]
    by_cases g2 : (4 : Int) < x.length
    · right; rw [if_pos g2, if_neg (bad (fun hh => by have := (okG_iff x).1 hh; omega))]; rfl
    rw [if_neg g2, groups_b2 _ _ _ (by omega)]
    by_cases g5 : x.all isH = true
    · left
      rw [(okG_iff x).2 ⟨by omega, by omega, g5⟩, Bool.true_and] at h1
      rw [if_pos g5, wsucc _ (by omega)]
      exact ⟨_, rfl, ⟨i + 1, rfl, by omega, h1⟩, by simp only [Int.toNat_natCast]; omega⟩
    · right
      rw [if_neg g5, if_neg (bad (fun hh => g5 ((okG_iff x).1 hh).2.2))]
  · right
    rw [if_neg (by omega)]
    rw [List.drop_eq_nil_of_le (by omega)] at h1
    rw [← h1]
    have : i = xs.length := by omega
    subst this
    rfl
end B
end Go.Proofs.YtdbihpobfcbmeaaDoor
