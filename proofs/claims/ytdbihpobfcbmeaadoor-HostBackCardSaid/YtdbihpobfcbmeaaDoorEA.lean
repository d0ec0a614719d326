/- Plain laws of hosts: kinds, parts; and that the statement's function answers true. -/
import Derived.Test.YtdbihpobfcbmeaaDoorE9
set_option linter.unusedVariables false
set_option linter.unusedSimpArgs false
namespace Go.Proofs.YtdbihpobfcbmeaaDoor
namespace B
open Go Go.RowKit

theorem progB_short (t : List UInt8) (h : t.length ≤ 1) : progB t = false := by
  rcases cut_spec t with ⟨hc, hd⟩ | ⟨a, b, rfl, hc, ha⟩
  · have h1 := grp_le t
    rw [progB, hc]
    have he : grp [] = 0 := rfl
    simp only [he, Bool.false_eq_true, if_false]
    rw [decide_eq_false (show ¬ grp t + 0 = 8 by omega), Bool.and_false]
  · simp at h; omega
theorem head_drop (t : List UInt8) (i : Nat) (h : i < t.length) : (t.drop i).head? = some (t.getD i 0) := by rw [drop_getD t i h]; rfl
theorem rbrackets_p (s : List UInt8) (hl : s.length ≤ 10000000) : p_ref27_brackets s = some (brB s) := by
  unfold p_ref27_brackets brB
  by_cases h2 : (s.length : Int) < 4
  · rw [if_pos h2]
    by_cases h3 : 2 ≤ s.length
    · rw [progB_short (midB s) (by rw [mid_len]; omega), Bool.and_false]
    · rw [decide_eq_false h3]; rfl
  rw [if_neg h2, if_pos (by omega), decide_eq_true (show 2 ≤ s.length by omega), Bool.true_and]
  by_cases h3 : s.getD 0 0 = 91
  · rw [if_pos (by show (((s.getD 0 0).toNat : Nat) : Int) = 91; rw [h3]; rfl), decide_eq_true h3, Bool.true_and]
    have hm := subS_mid s (by omega) (by omega)
    have hw := wlen1 s.length (by omega) (by omega)
    rw [hw, if_pos (by omega), Int.toNat_natCast]
    by_cases h4 : s.getD (s.length - 1) 0 = 93
    · rw [if_pos (by rw [h4]; rfl), decide_eq_true h4, Bool.true_and, if_pos (by omega)]
      have hml := mid_len s
      rw [agree (midB s) (by intro e; rw [e] at hml; simp at hml; omega)]
      refine loopO_inv (fun st => ∃ (d i : Nat), st = ((d : Int), (i : Int)) ∧ i ≤ (midB s).length ∧ d + dbl ((midB s).drop i) = dbl (midB s) ∧ d ≤ i) (fun st => (midB s).length - st.2.toNat) ⟨0, 0, rfl, Nat.zero_le _, by simp, Nat.zero_le _⟩ (by simp; omega) ?_
      rintro st ⟨d, i, rfl, hi, hd, hdi⟩
      dsimp only
      unfold p_ref27_brackets_b1
      rw [hm, wsucc i (by omega)]
      by_cases h : i + 1 < (midB s).length
      · rw [if_pos (by omega), if_pos (by omega), Int.toNat_natCast, Int.toNat_natCast]
        left
        rw [drop_getD (midB s) i (by omega), dbl_c, head_drop (midB s) (i + 1) h] at hd
        have fin : ∀ d' : Nat, d' + dbl ((midB s).drop (i + 1)) = dbl (midB s) → d' ≤ i + 1 → ∃ s', some (Sum.inl (((d' : Nat) : Int), ((i + 1 : Nat) : Int))) = some (Sum.inl (β := Bool) s') ∧ (∃ (d i : Nat), s' = ((d : Int), (i : Int)) ∧ i ≤ (midB s).length ∧ d + dbl ((midB s).drop i) = dbl (midB s) ∧ d ≤ i) ∧ (midB s).length - s'.2.toNat < (midB s).length - ((i : Nat) : Int).toNat :=
          fun d' h1 h2 => ⟨_, rfl, ⟨d', i + 1, rfl, by omega, h1, h2⟩, by simp only [Int.toNat_natCast]; omega⟩
        by_cases a1 : (midB s).getD i 0 = 58
        · rw [if_pos (by rw [a1]; rfl), if_pos (by omega)]
          by_cases a2 : (midB s).getD (i + 1) 0 = 58
          · rw [if_pos (by rw [a2]; rfl), wsucc d (by omega)]
            rw [if_pos ⟨a1, by rw [a2]⟩] at hd
            exact fin (d + 1) (by omega) (by omega)
          · have a2' : ¬ ((((midB s).getD (i + 1) 0).toNat : Nat) : Int) = 58 := fun e => a2 ((byte_eq (n := 58) (by decide)).1 e)
            rw [if_neg a2']
            rw [if_neg (fun e => a2 (Option.some.inj e.2))] at hd
            exact fin d (by omega) (by omega)
        · have a1' : ¬ ((((midB s).getD i 0).toNat : Nat) : Int) = 58 := fun e => a1 ((byte_eq (n := 58) (by decide)).1 e)
          rw [if_neg a1']
          rw [if_neg (fun e => a1 e.1)] at hd
          exact fin d (by omega) (by omega)
      · right
        have h0 : dbl ((midB s).drop i) = 0 := by
          by_cases h5 : i < (midB s).length
          · rw [drop_getD (midB s) i h5, List.drop_eq_nil_of_le (by omega)]; simp [dbl]
          · rw [List.drop_eq_nil_of_le (by omega)]; rfl
        rw [if_neg (by omega), cut58 _ (by omega), Option.bind_some, show d = dbl (midB s) by omega, rbr_b2 s hl (by omega)]
        rfl
    · have h4' : ¬ (((s.getD (s.length - 1) 0).toNat : Nat) : Int) = 93 := fun e => h4 ((byte_eq (n := 93) (by decide)).1 e)
      rw [if_neg h4', decide_eq_false h4]; rfl
  · have h3' : ¬ (((s.getD (0 : Int).toNat 0).toNat : Nat) : Int) = 91 := fun e => h3 ((byte_eq (n := 91) (by decide)).1 e)
    rw [if_neg h3', decide_eq_false h3]; rfl
def kindN (s : List UInt8) : Nat := if wordB s = true then 1 else if fourB s = true then 2 else if brB s = true then 3 else 0
theorem kind_p (s : List UInt8) (hl : s.length ≤ 10000000) : p_host_Kind s = some ((kindN s : Nat) : Int) := by
  unfold p_host_Kind p_host_Kind_2 p_host_Kind_3 kindN
  rw [word_p s hl, four_p s hl, brackets_p s hl]
  simp only [Option.bind_some]
  repeat' split
  all_goals rfl
theorem rkind_p (s : List UInt8) (hl : s.length ≤ 10000000) : p_ref27_Kind s = some ((kindN s : Nat) : Int) := by
  unfold p_ref27_Kind kindN
  rw [rword_p s hl, rfour_p s hl, rbrackets_p s hl]
  simp only [Option.bind_some]
  repeat' split
  all_goals rfl
/-- The name, the port, the error. -/
def partsF (s : List UInt8) : List UInt8 × Int × Int :=
  if 230 < s.length then ([], 0, 4) else if 0 < kindN s then (s, 0, 0) else match lastI 58 s with
  | none => ([], 0, 25)
  | some i => if kindN (s.take i) = 0 then ([], 0, 25) else if numI (s.drop (i + 1)) 1 65535 < 0 then ([], 0, 25) else (s.take i, numI (s.drop (i + 1)) 1 65535, 0)
theorem parts_p (s : List UInt8) (hl : s.length ≤ 10000000) : p_host_Parts s = some (partsF s) := by
  unfold p_host_Parts partsF
  by_cases h0 : 230 < s.length
  · rw [if_pos (by omega), if_pos h0]
  rw [if_neg (by omega), if_neg h0, kind_p s hl, Option.bind_some]
  by_cases h1 : 0 < kindN s
  · rw [if_pos (by omega), if_pos h1]
  have hli := lastIdx_p s 58 (by omega)
  rw [show (((58 : UInt8).toNat : Nat) : Int) = (58 : Int) from rfl] at hli
  rw [if_neg (by omega), if_neg h1, hli, Option.bind_some, lastZ]
  cases hq : lastI 58 s with
  | none => rfl
  | some i =>
    have hlt := lastI_lt 58 s i hq
    dsimp only
    rw [if_neg (by omega), if_pos (by omega), subS_pre, kind_p _ (by rw [List.length_take]; omega), Option.bind_some]
    by_cases h2 : kindN (s.take i) = 0
    · rw [if_pos (by omega), if_pos h2]
    have hn := number_p (s.drop (i + 1)) 1 65535 (by rw [List.length_drop]; omega) (by decide)
    rw [show ((1 : Nat) : Int) = (1 : Int) from rfl, show ((65535 : Nat) : Int) = (65535 : Int) from rfl] at hn
    rw [if_neg (by omega), if_neg h2, wsucc i (by omega), if_pos (by omega), subS_all, hn, Option.bind_some]
    split <;> rfl
theorem rparts_p (s : List UInt8) (hl : s.length ≤ 10000000) : p_ref27_Parts s = some (partsF s) := by
  unfold p_ref27_Parts partsF
  by_cases h0 : 230 < s.length
  · rw [if_pos (by omega), if_pos h0]
  rw [if_neg (by omega), if_neg h0, rkind_p s hl, Option.bind_some]
  by_cases h1 : 0 < kindN s
  · rw [if_pos (by omega), if_pos h1]
  rw [if_neg (by omega), if_neg h1]
  refine loopO_inv (fun st => ∃ i : Nat, st = (lastZ 58 (s.take i), (i : Int)) ∧ i ≤ s.length) (fun st => s.length - st.2.toNat) ⟨0, rfl, Nat.zero_le _⟩ (by simp; omega) ?_
  rintro st ⟨i, rfl, hi⟩
  dsimp only
  unfold p_ref27_Parts_b1
  by_cases h : i < s.length
  · left
    rw [if_pos (by omega), if_pos (by omega), Int.toNat_natCast, wsucc i (by omega)]
    have hlt := lastI_take 58 s i h
    by_cases h2 : s.getD i 0 = 58
    · rw [if_pos (by rw [h2]; rfl)]
      rw [if_pos h2] at hlt
      exact ⟨_, rfl, ⟨i + 1, by rw [lastZ, hlt], by omega⟩, by simp only [Int.toNat_natCast]; omega⟩
    · have h2' : ¬ (((s.getD i 0).toNat : Nat) : Int) = 58 := fun e => h2 ((byte_eq (n := 58) (by decide)).1 e)
      rw [if_neg h2']
      rw [if_neg h2] at hlt
      exact ⟨_, rfl, ⟨i + 1, by rw [lastZ, lastZ, hlt], by omega⟩, by simp only [Int.toNat_natCast]; omega⟩
  · right
    have hie : i = s.length := by omega
    subst hie
    rw [if_neg (by omega), List.take_length, lastZ]
    cases hq : lastI 58 s with
    | none => rfl
    | some i =>
      have hlt := lastI_lt 58 s i hq
      dsimp only
      rw [if_neg (by omega), if_pos (by omega), subS_pre, rkind_p _ (by rw [List.length_take]; omega), Option.bind_some]
      by_cases h2 : kindN (s.take i) = 0
      · rw [if_pos (by omega), if_pos h2]; rfl
      have hn := shown_p (s.drop (i + 1)) 1 65535 (by decide)
      rw [show ((1 : Nat) : Int) = (1 : Int) from rfl, show ((65535 : Nat) : Int) = (65535 : Int) from rfl] at hn
      rw [if_neg (by omega), if_neg h2, wsucc i (by omega), if_pos (by omega), subS_all, hn, Option.bind_some]
      split <;> rfl
/-- The statement's function answers true, whatever text it is given. -/
theorem hostTells_true (s : List UInt8) : p_law27_HostTells s = some true := by
  unfold p_law27_HostTells
  by_cases h : (300 : Int) < s.length
  · rw [if_pos h, lives27]; rfl
  · rw [if_neg h, parts_p s (by omega), Option.bind_some, rparts_p s (by omega), Option.bind_some, kind_p s (by omega), Option.bind_some, rkind_p s (by omega), Option.bind_some, if_pos rfl, if_pos rfl, if_pos rfl, if_pos rfl, lives27]; rfl
end B
end Go.Proofs.YtdbihpobfcbmeaaDoor
