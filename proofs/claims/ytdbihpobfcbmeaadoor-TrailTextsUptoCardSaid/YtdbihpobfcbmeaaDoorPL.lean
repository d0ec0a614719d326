/- Plain laws: words that all of them use. No program here. -/
import Derived.Test.YtdbihpobfcbmeaaDoorG1
import Derived.Test.YtdbihpobfcbmeaaDoorL27
import Derived.Lib.ItoaNum
import Derived.Lib.Join
set_option linter.unusedVariables false
set_option linter.unusedSimpArgs false
namespace Go.Proofs.YtdbihpobfcbmeaaDoor
namespace B
open Go Go.RowKit

theorem getI_nat {α : Type} (xs : List α) (i : Nat) : getI xs ((i : Nat) : Int) = xs[i]? := by simp [getI]
theorem wnat (n : Nat) (h : n ≤ 9223372036854775807) : IntKind.i64.wrap ((n : Nat) : Int) = ((n : Nat) : Int) := w64 (by omega) (by omega)
theorem wsucc (n : Nat) (h : n < 9223372036854775807) : IntKind.i64.wrap (((n : Nat) : Int) + (1 : Int)) = ((n + 1 : Nat) : Int) := by rw [w64 (by omega) (by omega)]; omega
theorem drop_getD (s : List UInt8) (i : Nat) (h : i < s.length) : s.drop i = s.getD i 0 :: s.drop (i + 1) := drop_cons s i 0 h
theorem drop_at {α : Type} {xs : List α} {i : Nat} {x : α} (h : xs[i]? = some x) : xs.drop i = x :: xs.drop (i + 1) := by
  obtain ⟨hlt, rfl⟩ := List.getElem?_eq_some_iff.1 h
  exact List.drop_eq_getElem_cons hlt
theorem take_at {α : Type} {xs : List α} {i : Nat} {x : α} (h : xs[i]? = some x) : xs.take (i + 1) = xs.take i ++ [x] := by
  obtain ⟨hlt, rfl⟩ := List.getElem?_eq_some_iff.1 h
  rw [List.take_succ_eq_append_getElem hlt]
theorem wu64 {n : Int} (h0 : 0 ≤ n) (h1 : n < 18446744073709551616) : IntKind.u64.wrap n = n := by
  rw [IntKind.wrap_u64]; omega
theorem wu8 {n : Int} (h0 : 0 ≤ n) (h1 : n < 256) : IntKind.u8.wrap n = n := by
  rw [IntKind.wrap_u8]; omega
theorem decDigits_decN : ∀ n : Nat, Lib.decDigits n = decN n := by
  intro n
  induction n using Nat.strongRecOn with
  | _ n ih =>
    by_cases h : n < 10
    · rw [Lib.decDigits, dif_pos h, decN_lt h]; rfl
    · rw [Lib.decDigits, dif_neg h, decN_ge h, ih (n / 10) (by omega)]; rfl
/-- A number in digits. -/
def decS (n : Int) : List UInt8 := if n < 0 then 45 :: decN n.natAbs else decN n.toNat
theorem itoa_decS (n : Int) : Lib.itoa n = decS n := by
  unfold Lib.itoa decS
  rw [decDigits_decN, decDigits_decN]
theorem byteI_nat (b : UInt8) : byteI ((b.toNat : Nat) : Int) = b := by
  unfold byteI; rw [Int.toNat_natCast, UInt8.ofNat_toNat]
theorem decS_len (n : Int) (h0 : -9223372036854775808 ≤ n) (h1 : n ≤ 9223372036854775807) : (decS n).length ≤ 20 := by
  unfold decS
  split
  · have := decN_len 18 n.natAbs (by omega); simp; omega
  · have := decN_len 18 n.toNat (by omega); omega
/-! ### A text cut at a byte -/
def cutB (b : UInt8) : List UInt8 → List UInt8 × List UInt8
  | [] => ([], [])
  | c :: l => if c = b then ([], l) else (c :: (cutB b l).1, (cutB b l).2)
theorem index_cons1 (c b : UInt8) (l : List UInt8) : Lib.index (c :: l) [b] = if b = c then 0 else if Lib.index l [b] = -1 then -1 else Lib.index l [b] + 1 := by
  rw [Lib.index]
  by_cases h : b = c
  · simp [h, List.isPrefixOf]
  · simp [h, List.isPrefixOf]
theorem index_ge1 (b : UInt8) : ∀ l : List UInt8, -1 ≤ Lib.index l [b]
  | [] => by simp [Lib.index]
  | c :: l => by
    have := index_ge1 b l
    rw [index_cons1]
    split
    · omega
    · split <;> omega
theorem cut1 (b : UInt8) : ∀ s : List UInt8, Lib.cut s [b] = ((cutB b s).1, (cutB b s).2, s.any (· == b))
  | [] => by simp [Lib.cut, Lib.index, cutB]
  | c :: l => by
    have ih := cut1 b l
    have hge := index_ge1 b l
    unfold Lib.cut at ih ⊢
    rw [index_cons1]
    by_cases h : b = c
    · subst h
      simp [cutB]
    · have hcb : c ≠ b := fun h2 => h h2.symm
      rw [if_neg h]
      by_cases h1 : Lib.index l [b] = -1
      · rw [if_pos h1, if_neg (by omega)]
        rw [if_neg (by omega)] at ih
        have e1 := congrArg (·.1) ih; have e2 := congrArg (·.2.1) ih; have e3 := congrArg (·.2.2) ih
        simp only at e1 e2 e3
        simp only [cutB, if_neg hcb, ← e1, ← e2, List.any_cons, ← e3]
        simp [hcb]
      · rw [if_neg h1, if_pos (by omega)]
        rw [if_pos (by omega)] at ih
        have e1 := congrArg (·.1) ih; have e2 := congrArg (·.2.1) ih; have e3 := congrArg (·.2.2) ih
        simp only at e1 e2 e3
        have hn : (Lib.index l [b] + 1).toNat = (Lib.index l [b]).toNat + 1 := by omega
        simp only [cutB, if_neg hcb, ← e1, ← e2, List.any_cons, ← e3, hn]
        simp [hcb, Nat.add_right_comm]
theorem cutB_len (b : UInt8) : ∀ s : List UInt8, (cutB b s).2.length ≤ s.length
  | [] => by simp [cutB]
  | c :: l => by
    have := cutB_len b l
    simp only [cutB]; split
    · simp
    · simp; omega
theorem cutB_lt (b : UInt8) : ∀ s : List UInt8, s ≠ [] → (cutB b s).2.length < s.length
  | [], h => absurd rfl h
  | c :: l, _ => by
    have := cutB_len b l
    simp only [cutB]; split
    · simp
    · simp; omega
theorem joinSnoc (xs : List (List UInt8)) (x sep : List UInt8) : Lib.join (xs ++ [x]) sep = if xs = [] then x else Lib.join xs sep ++ sep ++ x := by
  cases xs with
  | nil => simp [Lib.join, List.intercalate]
  | cons y ys =>
    rw [if_neg (by simp)]
    rw [List.cons_append, Lib.join_cons, Lib.join_cons]
    simp [Lib.joinTail]
end B
end Go.Proofs.YtdbihpobfcbmeaaDoor
