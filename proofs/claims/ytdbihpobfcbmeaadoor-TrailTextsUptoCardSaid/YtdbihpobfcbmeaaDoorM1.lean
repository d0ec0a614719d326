/- Contracts of the library's functions, in the shape in which the printed walks have theirs. -/
import Derived.Test.YtdbihpobfcbmeaaDoorG0
set_option linter.unusedVariables false
set_option linter.unusedSimpArgs false
namespace Go.Proofs.YtdbihpobfcbmeaaDoor
namespace B
open Go Go.RowKit

section
variable {c : Cx} {I : Im} {L : List Ent} {w : World} {K : Value → World → Prop}
def p_strings_Split (s b : List UInt8) : Option (List (List UInt8)) := if b.length = 1 ∧ s.length < 4294967281 then some (sp (b.getD 0 0) s) else none
theorem w_strings_Split (x0 x1 : List UInt8) (r : List (List UInt8)) (hf : p_strings_Split x0 x1 = some r) (hg : Glo I) (hX : ∀ b, ¬ c.X b) (hs : St c I L w)
    (k : ∀ (ra0 : Option Addr) (rc0 : Nat) (J : Im) (w' : World), Le I J → St c J L w' → RdL J 1 RdS (.slice ra0 r.length rc0) r → K (.slice ra0 r.length rc0) w') :
    callW Tryd.prog 61 [.string (bs x0), .string (bs x1)] K w := by
  unfold p_strings_Split at hf
  obtain ⟨⟨h1, h2⟩, hf⟩ := okO hf
  obtain rfl := Option.some.inj hf
  match x1, h1 with
  | [b], _ =>
    refine split_ok x0 b hg hs hX h2 ?_
    intro v J w' hJ hs' hr
    obtain ⟨a, c', rfl, _⟩ := hr.len
    exact k a c' J w' hJ hs' hr
theorem Ch.drewN (w : World) : ∀ n, Ch Non w (w.drewN n)
  | n => ⟨rfl, rfl, rfl, Nat.le_refl _, fun _ _ _ => rfl⟩
def p_strings_Cut (s b : List UInt8) : Option (List UInt8 × List UInt8 × Bool) := if s.length < 4294967281 then some (Lib.cut s b) else none
theorem w_strings_Cut (x0 x1 : List UInt8) (r : List UInt8 × List UInt8 × Bool) (hf : p_strings_Cut x0 x1 = some r) (hg : Glo I) (hX : ∀ b, ¬ c.X b) (hs : St c I L w)
    (k : ∀ (J : Im) (w' : World), Le I J → St c J L w' → K (.tuple ⟨[.string (bs r.1), .string (bs r.2.1), .bool r.2.2]⟩) w') :
    callW Tryd.prog 86 [.string (bs x0), .string (bs x1)] K w := by
  unfold p_strings_Cut at hf
  obtain ⟨h1, hf⟩ := okO hf
  obtain rfl := Option.some.inj hf
  obtain ⟨m, hm⟩ := hg.cell hs.im
  refine callW_mk (by kernel_rfl) ((Tryd.strings_Cut (bs x0) (bs x1) m w h1 hm).mono ?_)
  rintro e w' ⟨rfl, n, rfl⟩
  exact ⟨_, rfl, k I _ (Le.refl _) (hs.quiet (Ch.drewN w n))⟩
end
end B
end Go.Proofs.YtdbihpobfcbmeaaDoor
