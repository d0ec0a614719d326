/- Plain laws of reports: lines. -/
import Derived.Test.YtdbihpobfcbmeaaDoorERnum
set_option linter.unusedVariables false
set_option linter.unusedSimpArgs false
namespace Go.Proofs.YtdbihpobfcbmeaaDoor
namespace B
open Go Go.RowKit

def dashB (w : List UInt8) : List UInt8 := if w = [] then [45] else w
def lineS (ws : List (List UInt8)) : List UInt8 := Lib.join (ws.map dashB) [32] ++ [10]
theorem join_take_le (xs : List (List UInt8)) (sep : List UInt8) (k : Nat) : (Lib.join (xs.take k) sep).length ≤ (Lib.join xs sep).length := by
  cases xs with
  | nil => simp
  | cons x r =>
    cases k with
    | zero => simp [Lib.join_nil]
    | succ k =>
      rw [List.take_succ_cons, Lib.join_cons, Lib.join_cons, List.length_append, List.length_append]
      have := Lib.joinTail_take_le sep r k
      omega
theorem reportLine_p (x0 : List (List UInt8)) (h : x0.length ≤ 1000000) (hj : (Lib.join (x0.map dashB) [32]).length ≤ 140737488355328) : p_report_Line x0 = some (lineS x0) := by
  unfold p_report_Line
  rw [if_pos (by omega)]
  refine loopO_inv (fun st => ∃ i : Nat, i ≤ x0.length ∧ st = ((x0.take i).map dashB ++ x0.drop i, (i : Int))) (fun st => x0.length - st.2.toNat) ⟨0, Nat.zero_le _, by simp⟩ (by simp; omega) ?_
  rintro st ⟨i, hi, rfl⟩
  dsimp only
  unfold p_report_Line_b1
  by_cases hlt : i < x0.length
  · rw [if_pos (by omega)]
    left
    have hx : x0[i]? = some x0[i] := List.getElem?_eq_getElem hlt
    have hlen : ((x0.take i).map dashB).length = i := by simp; omega
    have hg : ((x0.take i).map dashB ++ x0.drop i)[i]? = some x0[i] := by
      rw [List.getElem?_append_right (by omega), hlen, Nat.sub_self, drop_at hx]; rfl
    rw [getI_nat, hg, Option.bind_some, wsucc _ (by omega)]
    have hT : (x0.take (i + 1)).map dashB = (x0.take i).map dashB ++ [dashB x0[i]] := by rw [take_at hx, List.map_append]; rfl
    by_cases h0 : x0[i] = []
    · rw [if_pos h0, Option.bind_some]
      refine ⟨_, rfl, ⟨i + 1, by omega, ?_⟩, by simp only [Int.toNat_natCast]; omega⟩
      congr 1
      rw [hT, Int.toNat_natCast, List.set_append_right _ _ (by omega), hlen, Nat.sub_self, drop_at hx, dashB, if_pos h0, List.set_cons_zero, List.append_assoc]
      rfl
    · rw [if_neg h0]
      refine ⟨_, rfl, ⟨i + 1, by omega, ?_⟩, by simp only [Int.toNat_natCast]; omega⟩
      congr 1
      rw [hT, drop_at hx, dashB, if_neg h0, List.append_assoc]
      rfl
  · right
    rw [if_neg (by omega)]
    obtain rfl : i = x0.length := by omega
    rw [List.take_of_length_le (Nat.le_refl _), List.drop_eq_nil_of_le (Nat.le_refl _), List.append_nil]
    unfold p_strings_Join
    rw [if_pos ⟨by simp; omega, hj⟩, Option.bind_some, if_pos (by simp; omega)]
    rfl
theorem refLine_p (x0 : List (List UInt8)) (h : x0.length ≤ 1000000) (hj : (Lib.join (x0.map dashB) [32]).length ≤ 140737488355328) : p_ref49_Line x0 = some (lineS x0) := by
  unfold p_ref49_Line
  refine loopO_inv (fun st => ∃ i : Nat, i ≤ x0.length ∧ st = (Lib.join ((x0.take i).map dashB) [32], (i : Int))) (fun st => x0.length - st.2.toNat) ⟨0, Nat.zero_le _, by simp [Lib.join_nil]⟩ (by simp; omega) ?_
  rintro st ⟨i, hi, rfl⟩
  dsimp only
  unfold p_ref49_Line_b1
  have hle := join_take_le (x0.map dashB) [32] i
  rw [← List.map_take] at hle
  by_cases hlt : i < x0.length
  · rw [if_pos (by omega)]
    left
    have hx : x0[i]? = some x0[i] := List.getElem?_eq_getElem hlt
    have hT : (x0.take (i + 1)).map dashB = (x0.take i).map dashB ++ [dashB x0[i]] := by rw [take_at hx, List.map_append]; rfl
    have hle2 := join_take_le (x0.map dashB) [32] (i + 1)
    rw [← List.map_take, hT, joinSnoc] at hle2
    have hfin : ∀ s : List UInt8, s ++ dashB x0[i] = Lib.join ((x0.take (i + 1)).map dashB) [32] → s.length ≤ 140737488355400 → ∃ s', p_ref49_Line_j1 x0 ((i : Nat) : Int) s = some (.inl s') ∧ (∃ i : Nat, i ≤ x0.length ∧ s' = (Lib.join ((x0.take i).map dashB) [32], (i : Int))) ∧ x0.length - s'.2.toNat < x0.length - i := by
      intro s hs hsl
      unfold p_ref49_Line_j1
      rw [getI_nat, hx, Option.bind_some, wsucc _ (by omega)]
      have hle3 := join_take_le (x0.map dashB) [32] (i + 1)
      rw [← List.map_take, ← hs] at hle3
      by_cases h0 : x0[i] = []
      · rw [if_pos h0, if_pos (by simp; omega)]
        refine ⟨_, rfl, ⟨i + 1, by omega, ?_⟩, by simp only [Int.toNat_natCast]; omega⟩
        rw [← hs, dashB, if_pos h0]
      · rw [if_neg h0, Option.bind_some, if_pos (by rw [dashB, if_neg h0] at hle3; simp at hle3; omega)]
        refine ⟨_, rfl, ⟨i + 1, by omega, ?_⟩, by simp only [Int.toNat_natCast]; omega⟩
        rw [← hs, dashB, if_neg h0]
    simp only [Int.toNat_natCast]
    by_cases hi0 : 0 < i
    · rw [if_pos (by omega), if_pos (by simp only [List.length_cons, List.length_nil]; omega)]
      refine hfin _ ?_ (by simp only [List.length_append, List.length_cons, List.length_nil]; omega)
      rw [hT, joinSnoc, if_neg]
      intro h2
      have := congrArg List.length h2
      simp only [List.length_map, List.length_take, List.length_nil] at this; omega
    · obtain rfl : i = 0 := by omega
      rw [if_neg (by omega)]
      refine hfin _ ?_ (by simp [Lib.join_nil])
      rw [hT, joinSnoc, if_pos (by simp)]
      simp [Lib.join_nil]
  · right
    rw [if_neg (by omega)]
    obtain rfl : i = x0.length := by omega
    rw [List.take_of_length_le (Nat.le_refl _), if_pos (by simp; omega)]
    rfl
/-- The lines of a text. -/
def lnS : List UInt8 → List UInt8 → List (List UInt8)
  | [], a => if a = [] then [] else [a]
  | c :: s, a => if c = 10 then a :: lnS s [] else lnS s (a ++ [c])
theorem lnS_cut : ∀ (s a : List UInt8), s ≠ [] ∨ a ≠ [] → lnS s a = (a ++ (cutB 10 s).1) :: lnS (cutB 10 s).2 []
  | [], a, h => by
    have ha : a ≠ [] := h.resolve_left (fun h => h rfl)
    simp [lnS, cutB, ha]
  | c :: s, a, _ => by
    by_cases hc : c = 10
    · simp [lnS, cutB, hc]
    · rw [lnS, if_neg hc, lnS_cut s (a ++ [c]) (.inr (by simp))]
      simp [cutB, hc]
theorem lnS_len : ∀ (s a : List UInt8), (lnS s a).length ≤ s.length + 1
  | [], a => by simp only [lnS]; split <;> simp
  | c :: s, a => by
    simp only [lnS]
    split
    · have := lnS_len s []; simp; omega
    · have := lnS_len s (a ++ [c]); simp; omega
theorem refLines_p (s : List UInt8) (hl : s.length ≤ 100000000) : p_ref49_Lines s = some (lnS s []) := by
  unfold p_ref49_Lines
  refine loopO_inv (fun st => ∃ (out : List (List UInt8)) (j i : Nat), st = (out, (j : Int), (i : Int)) ∧ j ≤ i ∧ i ≤ s.length ∧ out.length ≤ i ∧ out ++ lnS (s.drop i) ((s.take i).drop j) = lnS s []) (fun st => s.length - st.2.2.toNat) ⟨[], 0, 0, rfl, Nat.le_refl _, Nat.zero_le _, Nat.zero_le _, by simp⟩ (by simp; omega) ?_
  rintro st ⟨out, j, i, rfl, hji, hi, ho, hf⟩
  dsimp only
  unfold p_ref49_Lines_b1
  by_cases hlt : i < s.length
  · left
    have hx : s[i]? = some s[i] := List.getElem?_eq_getElem hlt
    have hgd : s.getD i 0 = s[i] := by rw [List.getD_eq_getElem?_getD, hx]; rfl
    rw [if_pos (by omega), if_pos (by omega), Int.toNat_natCast, hgd]
    rw [drop_at hx, lnS] at hf
    by_cases hc : s[i] = 10
    · rw [if_pos hc] at hf
      rw [if_pos (by rw [hc]; rfl), if_pos (by omega), if_pos (by simp; omega), wsucc _ (by omega)]
      refine ⟨_, rfl, ⟨_, i + 1, i + 1, rfl, Nat.le_refl _, hlt, by simp; omega, ?_⟩, by simp only [Int.toNat_natCast]; omega⟩
      rw [@List.drop_eq_nil_of_le _ (s.take (i + 1)) (i + 1) (by rw [List.length_take]; omega)]
      simp only [subS, Int.toNat_natCast, List.append_assoc, List.singleton_append]
      exact hf
    · rw [if_neg hc] at hf
      rw [if_neg (by intro h; exact hc (UInt8.toNat_inj.1 (by simp at h ⊢; omega))), wsucc _ (by omega)]
      refine ⟨_, rfl, ⟨out, j, i + 1, rfl, by omega, hlt, by omega, ?_⟩, by simp only [Int.toNat_natCast]; omega⟩
      rw [take_at hx, List.drop_append_of_le_length (by simp; omega)]
      exact hf
  · right
    obtain rfl : i = s.length := by omega
    rw [if_neg (by omega)]
    rw [List.drop_eq_nil_of_le (Nat.le_refl _), List.take_of_length_le (Nat.le_refl _), lnS] at hf
    by_cases h0 : j < s.length
    · rw [if_neg (by intro h; have := congrArg List.length h; simp at this; omega)] at hf
      rw [if_pos (by omega), if_pos (by omega), if_pos (by simp; omega), ← hf]
      simp [subS]
    · rw [if_pos (List.drop_eq_nil_of_le (by omega))] at hf
      rw [if_neg (by omega), ← hf]
      simp
end B
end Go.Proofs.YtdbihpobfcbmeaaDoor
