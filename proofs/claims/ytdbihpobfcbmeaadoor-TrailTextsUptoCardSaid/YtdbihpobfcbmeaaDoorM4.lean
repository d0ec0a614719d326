/- Contracts of the library's functions: strings.ReplaceAll. -/
import Derived.Test.YtdbihpobfcbmeaaDoorM3
import Derived.Lib.Replace
set_option linter.unusedVariables false
set_option linter.unusedSimpArgs false
namespace Go.Proofs.YtdbihpobfcbmeaaDoor
namespace B
open Go Go.RowKit
section
variable {c : Cx} {I : Im} {L : List Ent} {w : World} {K : Value → World → Prop}
/-- strings.ReplaceAll -/
def p_strings_ReplaceAll (s old new : List UInt8) : Option (List UInt8) :=
  if s.length < 4294967281 ∧ 1 ≤ old.length ∧ s.length + (s.length + 1) * new.length ≤ 140737488355328 then some (Lib.replaceAll s old new) else none
theorem w_strings_ReplaceAll (x0 x1 x2 : List UInt8) (r : List UInt8) (hf : p_strings_ReplaceAll x0 x1 x2 = some r) (hg : Glo I) (hX : ∀ b, ¬ c.X b) (hs : St c I L w)
    (k : ∀ (J : Im) (w' : World), Le I J → St c J L w' → K (.string (bs r)) w') :
    callW Tryd.prog 91 [.string (bs x0), .string (bs x1), .string (bs x2)] K w := by
  unfold p_strings_ReplaceAll at hf
  obtain ⟨⟨h1, h2, h3⟩, hf⟩ := okO hf
  obtain rfl := Option.some.inj hf
  obtain ⟨m, hm⟩ := hg.cell hs.im
  have hc : Lib.countB (bs x0) (bs x1) ≤ x0.length + 1 := Lib.count_le x0 x1
  have hlen : (bs x0).size + Lib.countB (bs x0) (bs x1) * (bs x2).size ≤ 140737488355328 := by
    have := Nat.mul_le_mul_right x2.length hc
    show x0.length + _ * x2.length ≤ _
    omega
  refine callW_mk (by kernel_rfl) ((Tryd.strings_ReplaceAll (bs x0) (bs x1) (bs x2) m w h1 hm h2 hlen).mono ?_)
  rintro e w' ⟨rfl, hb⟩
  exact ⟨_, rfl, k I _ (Le.refl _) (hs.quiet (Ch.of_below hb))⟩
end
end B
end Go.Proofs.YtdbihpobfcbmeaaDoor
