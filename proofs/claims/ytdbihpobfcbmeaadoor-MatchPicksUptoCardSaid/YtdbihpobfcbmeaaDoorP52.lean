/- The walks of the patterns' functions. -/
import Derived.Test.YtdbihpobfcbmeaaDoorBL
set_option linter.unusedVariables false
set_option linter.unusedSimpArgs false
namespace Go.Proofs.YtdbihpobfcbmeaaDoor
namespace B
open Go Go.RowKit

theorem take_isPrefix (p s : List UInt8) : decide (s.take p.length = p) = p.isPrefixOf s := by
  rw [Bool.eq_iff_iff, List.isPrefixOf_iff_prefix, List.prefix_iff_eq_take, decide_eq_true_eq]; exact ⟨fun h => h.symm, fun h => h.symm⟩
theorem drop_isSuffix (p s : List UInt8) (hl : p.length ≤ s.length) : decide (s.drop (s.length - p.length) = p) = p.isSuffixOf s := by
  rw [Bool.eq_iff_iff, List.isSuffixOf_iff_suffix, List.suffix_iff_eq_drop, decide_eq_true_eq]; exact ⟨fun h => h.symm, fun h => h.symm⟩
set_option maxHeartbeats 1000000 in
theorem hasPrefix_ok (s p : List UInt8) (w : World) (K : Value → World → Prop) (k : K (.bool (p.isPrefixOf s)) w) :
    callW Tryd.prog 160 [.string (bs s), .string (bs p)] K w := by
  refine fn_of good Tryd.func160 rfl rfl rfl ?_
  refine cd (fun h => ?_) (fun h => ?_)
  · have h : (p.length : Int) ≤ s.length := h
    refine req ⟨by omega, by omega, h⟩ ?_
    refine finB k ?_
    exact take_isPrefix p s
  · refine finB k ?_
    have h : ¬ (p.length : Int) ≤ s.length := h
    refine (Bool.eq_false_iff.2 fun h2 => h ?_).symm
    have := (List.isPrefixOf_iff_prefix.1 h2).length_le
    omega
set_option maxHeartbeats 1000000 in
theorem hasSuffix_ok (s p : List UInt8) (w : World) (K : Value → World → Prop) (hl : s.length < 4294967296) (k : K (.bool (p.isSuffixOf s)) w) :
    callW Tryd.prog 64 [.string (bs s), .string (bs p)] K w := by
  refine fn_of good Tryd.func64 rfl rfl rfl ?_
  refine fn_of good Tryd.func120 rfl rfl rfl ?_
  refine cd (fun h => ?_) (fun h => ?_)
  · have h : (p.length : Int) ≤ s.length := h
    have hw : IntKind.i64.wrap ((s.length : Int) - p.length) = ((s.length - p.length : Nat) : Int) := wSub (by omega) (by omega)
    refine req ⟨by show (0:Int) ≤ IntKind.i64.wrap ((s.length : Int) - p.length); omega, by show IntKind.i64.wrap ((s.length : Int) - p.length) ≤ (s.length : Int); omega, Int.le_refl _⟩ ?_
    refine finB k ?_
    show decide (((s.take (s.length : Int).toNat).drop (IntKind.i64.wrap ((s.length : Int) - p.length)).toNat) = p) = _
    rw [hw, Int.toNat_natCast, Int.toNat_natCast, List.take_length]
    exact drop_isSuffix p s (by omega)
  · refine finB k ?_
    have h : ¬ (p.length : Int) ≤ s.length := h
    refine (Bool.eq_false_iff.2 fun h2 => h ?_).symm
    have := (List.isSuffixOf_iff_suffix.1 h2).length_le
    omega
set_option maxHeartbeats 1000000 in
theorem cutPrefix_ok (s p : List UInt8) (w : World) (K : Value → World → Prop) (k : K (.tuple #[.string (bs (if p.isPrefixOf s then s.drop p.length else s)), .bool (p.isPrefixOf s)]) w) :
    callW Tryd.prog 62 [.string (bs s), .string (bs p)] K w := by
  refine fn_of good Tryd.func62 rfl rfl rfl ?_
  refine fn_of good Tryd.func118 rfl rfl rfl ?_
  refine hasPrefix_ok s p _ _ ?_
  cases hp : p.isPrefixOf s with
  | false =>
    rw [hp] at k
    exact k
  | true =>
    rw [hp] at k
    have := (List.isPrefixOf_iff_prefix.1 hp).length_le
    refine req ⟨by omega, by show (p.length : Int) ≤ s.length; omega, Int.le_refl _⟩ ?_
    refine fin k ?_
    show Value.tuple #[.string (bs ((s.take (s.length : Int).toNat).drop (p.length : Int).toNat)), .bool true] = _
    rw [Int.toNat_natCast, Int.toNat_natCast, List.take_length]; rfl
end B
end Go.Proofs.YtdbihpobfcbmeaaDoor
