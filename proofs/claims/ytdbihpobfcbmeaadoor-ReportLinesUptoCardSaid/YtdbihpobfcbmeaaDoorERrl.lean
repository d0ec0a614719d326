/- Plain law of ReportLines. -/
import Derived.Test.YtdbihpobfcbmeaaDoorERrep
set_option linter.unusedVariables false
set_option linter.unusedSimpArgs false
namespace Go.Proofs.YtdbihpobfcbmeaaDoor
namespace B
open Go Go.RowKit

/-- The bytes of a list of words. -/
def sumL (xs : List (List UInt8)) : Nat := (xs.map List.length).sum
theorem sumL_take : ∀ (xs : List (List UInt8)) (k : Nat), sumL (xs.take k) ≤ sumL xs
  | [], k => by simp [sumL]
  | x :: r, 0 => by simp [sumL]
  | x :: r, k + 1 => by
    have := sumL_take r k
    simp only [sumL, List.take_succ_cons, List.map_cons, List.sum_cons] at this ⊢; omega
theorem sumL_le : ∀ (xs : List (List UInt8)), sumL xs ≤ (xs.map fun s => s.length + 1).sum
  | [] => by simp [sumL]
  | x :: r => by
    have := sumL_le r
    simp only [sumL, List.map_cons, List.sum_cons] at this ⊢; omega
theorem joinTail_le : ∀ (xs : List (List UInt8)), (Lib.joinTail [32] (xs.map dashB)).length ≤ sumL xs + 2 * xs.length
  | [] => by simp [Lib.joinTail]
  | x :: r => by
    have ih := joinTail_le r
    have hx : (dashB x).length ≤ x.length + 1 := by unfold dashB; split <;> simp
    rw [List.map_cons, show Lib.joinTail [32] (dashB x :: r.map dashB) = [32] ++ dashB x ++ Lib.joinTail [32] (r.map dashB) by simp [Lib.joinTail]]
    simp only [sumL, List.map_cons, List.sum_cons, List.length_append, List.length_cons, List.length_nil] at ih ⊢
    omega
theorem join_le (xs : List (List UInt8)) : (Lib.join (xs.map dashB) [32]).length ≤ sumL xs + 2 * xs.length := by
  cases xs with
  | nil => simp [Lib.join_nil]
  | cons x r =>
    have ih := joinTail_le r
    have hx : (dashB x).length ≤ x.length + 1 := by unfold dashB; split <;> simp
    rw [List.map_cons, Lib.join_cons]
    simp only [sumL, List.map_cons, List.sum_cons, List.length_append, List.length_cons] at ih ⊢
    omega
theorem lineS_len (xs : List (List UInt8)) : (lineS xs).length ≤ sumL xs + 2 * xs.length + 1 := by
  have := join_le xs
  simp only [lineS, List.length_append, List.length_cons, List.length_nil]; omega
theorem both_lines (x0 : List (List UInt8)) (h : x0.length ≤ 1000000) (hj : sumL x0 ≤ 100000000) : p_report_Line x0 = some (lineS x0) ∧ p_ref49_Line x0 = some (lineS x0) := by
  have := join_le x0
  exact ⟨reportLine_p x0 h (by omega), refLine_p x0 h (by omega)⟩
/-- A verdict's line. -/
def verdS (x : S_api_Verdict) : List UInt8 :=
  lineS (if x.Err = 0 then [[101, 118, 101, 110, 116], x.ID, if x.Redacted = true then [114, 101, 100, 97, 99, 116, 101, 100] else [111, 107]] else [[101, 118, 101, 110, 116], x.ID, [114, 101, 102, 117, 115, 101, 100], decS x.Err])
theorem both_verdicts (x : S_api_Verdict) (hid : x.ID.length ≤ 10000000) (h0 : -9223372036854775808 ≤ x.Err) (h1 : x.Err ≤ 9223372036854775807) : p_report_Verdict x = some (verdS x) ∧ p_ref49_Verdict x = some (verdS x) := by
  have hd := decS_len x.Err h0 h1
  unfold p_report_Verdict p_ref49_Verdict verdS p_report_number_api_Errno p_ref49_show
  by_cases he : x.Err = 0
  · simp only [if_pos he]
    by_cases hr : x.Redacted = true
    · have hb := both_lines [[101, 118, 101, 110, 116], x.ID, [114, 101, 100, 97, 99, 116, 101, 100]] (by simp) (by simp [sumL]; omega)
      simp only [if_pos hr, hb.1, hb.2, Option.bind_some, and_self]
    · have hb := both_lines [[101, 118, 101, 110, 116], x.ID, [111, 107]] (by simp) (by simp [sumL]; omega)
      simp only [if_neg hr, hb.1, hb.2, Option.bind_some, and_self]
  · have hb := both_lines [[101, 118, 101, 110, 116], x.ID, [114, 101, 102, 117, 115, 101, 100], decS x.Err] (by simp) (by simp [sumL]; omega)
    simp only [if_neg he, numShow_p _ h0 h1, refShow_p _ h0 h1, hb.1, hb.2, Option.bind_some, and_self]
set_option maxRecDepth 100000 in
theorem lives49_p : p_law49_lives = some true := by kernel_rfl
/-- The loop over the lines of a text. -/
theorem cuts_p (x2 : Int) (t : List UInt8) (ht : t.length ≤ 1000000) : loopO (fun (s : Int × (List UInt8)) => p_law49_ReportLines_b2 x2 (lnS t []) s.1 s.2) ((0 : Int), t) = some true := by
  have hll := lnS_len t []
  refine loopO_inv (fun st => ∃ (i : Nat) (r : List UInt8), st = ((i : Int), r) ∧ i ≤ (lnS t []).length ∧ r.length ≤ t.length ∧ (lnS t []).drop i = lnS r []) (fun st => st.2.length) ⟨0, t, rfl, Nat.zero_le _, Nat.le_refl _, by simp⟩ (by simp; omega) ?_
  rintro st ⟨i, r, rfl, hi, hr, hd⟩
  dsimp only
  unfold p_law49_ReportLines_b2
  by_cases h0 : r = []
  · right
    subst h0
    rw [if_pos rfl]
    have hl : i = (lnS t []).length := by
      have := congrArg List.length hd
      simp [lnS] at this; omega
    rw [if_pos (by omega), lives49_p]; rfl
  · rw [if_neg h0]
    have hc := lnS_cut r [] (.inl h0)
    rw [hc] at hd
    have hil : i < (lnS t []).length := by
      have := congrArg List.length hd
      simp at this; omega
    have hgi : (lnS t [])[i]? = some (cutB 10 r).1 := by
      have := congrArg (fun l => l[0]?) hd
      simpa using this
    unfold p_strings_Cut
    rw [if_pos (by omega), Option.bind_some, cut1, if_neg (by omega), getI_nat, hgi, Option.bind_some, wsucc _ (by omega)]
    simp only [if_pos]
    by_cases h2 : ((i + 1 : Nat) : Int) = x2
    · right
      rw [if_pos (by first | exact h2 | (push_cast at h2 ⊢; exact h2)), lives49_p]; rfl
    · left
      rw [if_neg (by first | exact h2 | (push_cast at h2 ⊢; exact h2))]
      refine ⟨_, rfl, ⟨i + 1, _, rfl, by omega, by have := cutB_len 10 r; omega, ?_⟩, cutB_lt 10 r h0⟩
      have := congrArg (List.drop 1) hd
      rw [List.drop_drop] at this
      simpa using this
theorem reportLines_p (x0 : List (List UInt8)) (x1 : S_api_Verdict) (x2 : Int) (hs : sumL x0 ≤ 10000000) (hid : x1.ID.length ≤ 10000000) (h0 : -9223372036854775808 ≤ x1.Err) (h1 : x1.Err ≤ 9223372036854775807) : p_law49_ReportLines x0 x1 x2 = some true := by
  unfold p_law49_ReportLines
  by_cases hn : x0.length > 50
  · rw [if_pos (by omega), lives49_p]; rfl
  have hb := both_lines x0 (by omega) (by omega)
  have hv := both_verdicts x1 hid h0 h1
  have hll := lineS_len x0
  rw [if_neg (by omega), hb.1, hb.2, Option.bind_some, Option.bind_some, if_pos rfl, hv.1, hv.2, Option.bind_some, Option.bind_some, if_pos rfl]
  refine loopO_inv (fun st => ∃ (i : Nat) (t : List UInt8), st = (t, (i : Int)) ∧ i ≤ x0.length ∧ t.length ≤ (lineS x0).length + sumL (x0.take i)) (fun st => x0.length - st.2.toNat) ⟨0, _, rfl, Nat.zero_le _, by omega⟩ (by simp; omega) ?_
  rintro st ⟨i, t, rfl, hi, ht⟩
  dsimp only
  unfold p_law49_ReportLines_b1
  have hsi := sumL_take x0 i
  by_cases hlt : i < x0.length
  · left
    have hx : x0[i]? = some x0[i] := List.getElem?_eq_getElem hlt
    have hT : sumL (x0.take (i + 1)) = sumL (x0.take i) + x0[i].length := by unfold sumL; rw [take_at hx, List.map_append, List.sum_append]; rfl
    have hsi2 := sumL_take x0 (i + 1)
    rw [if_pos (by omega), getI_nat, hx, Option.bind_some, if_pos (by omega), wsucc _ (by omega)]
    exact ⟨_, rfl, ⟨i + 1, _, rfl, by omega, by rw [List.length_append]; omega⟩, by simp only [Int.toNat_natCast]; omega⟩
  · right
    rw [if_neg (by omega)]
    by_cases h6 : 600 < t.length
    · rw [if_pos (by omega), lives49_p]; rfl
    · rw [if_neg (by omega), refLines_p t (by omega), Option.bind_some, cuts_p x2 t (by omega)]; rfl
end B
end Go.Proofs.YtdbihpobfcbmeaaDoor
