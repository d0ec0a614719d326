/- Contracts of the library's functions, in the shape in which the printed walks have theirs: a number as a text. -/
import Derived.Test.YtdbihpobfcbmeaaDoorM1
import Derived.Lib.LaidTab
set_option linter.unusedVariables false
set_option linter.unusedSimpArgs false
namespace Go.Proofs.YtdbihpobfcbmeaaDoor
namespace B
open Go Go.RowKit

/-- The library's table of powers of ten lies as its initialiser lays it. -/
def Tab10 (I : Im) : Prop := ∃ g o, Tryd.prog.globalNamed "internal/strconv.uint64pow10" = some g ∧ I g = some o ∧ ∀ w : World, w.heap[g]? = some o → Lib.TabIs Tryd.prog w "internal/strconv.uint64pow10" .u64 Lib.pow10Tab
theorem Tab10.le {I J : Im} (h : Tab10 I) (hl : Le I J) : Tab10 J := by obtain ⟨g, o, h1, h2, h3⟩ := h; exact ⟨g, o, h1, hl _ _ h2, h3⟩
theorem Tab10.at {I : Im} {w : World} (h : Tab10 I) (hI : Imm I w) : Lib.TabIs Tryd.prog w "internal/strconv.uint64pow10" .u64 Lib.pow10Tab := by
  obtain ⟨g, o, h1, h2, h3⟩ := h
  exact h3 w (hI _ _ h2)
theorem tab10_of {W : World} (h : Lib.TabIs Tryd.prog W "internal/strconv.uint64pow10" .u64 Lib.pow10Tab) : Tab10 (ofW W) := by
  unfold Lib.TabIs World.var? at h
  cases hg : Tryd.prog.globalNamed "internal/strconv.uint64pow10" with
  | none => rw [hg] at h; cases h
  | some g =>
    rw [hg] at h
    simp only [Option.bind_some] at h
    cases ho : W.heap[g]? with
    | none => rw [ho] at h; cases h
    | some o =>
      refine ⟨g, o, hg, ho, fun w hw => ?_⟩
      unfold Lib.TabIs World.var?
      rw [hg]
      simp only [Option.bind_some]
      rw [hw, ← ho]; exact h
theorem Ch.grow (w : World) (os : Array Obj) : Ch Non w (Go.Sort.grow w os) := ⟨rfl, rfl, rfl, by simp [Go.Sort.grow], fun i hi _ => by simp only [Go.Sort.grow]; rw [Array.getElem?_append_left hi]⟩
section
variable {c : Cx} {I : Im} {L : List Ent} {w : World} {K : Value → World → Prop}
def p_internal_strconv_FormatInt (n b : Int) : Option (List UInt8) := if b = 10 ∧ -9223372036854775808 ≤ n ∧ n ≤ 9223372036854775807 then some (Lib.itoa n) else none
theorem w_internal_strconv_FormatInt (x0 x1 : Int) (r : List UInt8) (hf : p_internal_strconv_FormatInt x0 x1 = some r) (hg : Glo I) (hX : ∀ b, ¬ c.X b) (hn_Tab10 : Tab10 I) (hs : St c I L w)
    (k : ∀ (J : Im) (w' : World), Le I J → St c J L w' → K (.string (bs r)) w') :
    callW Tryd.prog 146 [.int .i64 x0, .int .i64 x1] K w := by
  unfold p_internal_strconv_FormatInt at hf
  obtain ⟨⟨rfl, h0, h1⟩, hf2⟩ := okO hf
  clear hf
  obtain rfl := Option.some.inj hf2
  refine callW_mk (by kernel_rfl) ((Tryd.internal_strconv_FormatInt_10 x0 h0 h1 w (hn_Tab10.at hs.im)).mono ?_)
  rintro e w' ⟨rfl, n, os, rfl⟩
  exact ⟨_, rfl, k I _ (Le.refl _) (hs.quiet ((Ch.drewN w n).trans0 (Ch.grow _ os)))⟩
end
end B
end Go.Proofs.YtdbihpobfcbmeaaDoor
