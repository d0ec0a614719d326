/- The statement's own function. -/
import Derived.Test.YtdbihpobfcbmeaaDoorQ52
import Derived.Test.YtdbihpobfcbmeaaDoorR52
set_option linter.unusedVariables false
set_option linter.unusedSimpArgs false
namespace Go.Proofs.YtdbihpobfcbmeaaDoor
namespace B
open Go Go.RowKit

section
variable {c : Cx} {I : Im} {L : List Ent} {w : World}
theorem glob_is (p s : List UInt8) (r : Bool) (hr : globF p s = r) {K : Value → World → Prop} (hg : Glo I) (hs : St c I L w) (hX : ∀ b, ¬ c.X b) (hp : p.length ≤ 100000000) (hl : s.length ≤ 100000000)
    (k : ∀ J w', Le I J → St c J L w' → K (.bool r) w') : callW Tryd.prog 13 [.string (bs p), .string (bs s)] K w :=
  glob_ok p s hg hs hX hp hl fun J w' hJ hs' => by rw [hr]; exact k J w' hJ hs'
theorem refGlob_is (p s : List UInt8) (r : Bool) (hr : globF p s = r) {K : Value → World → Prop} (hs : St c I L w) (hp : p.length ≤ 100000000) (hl : s.length ≤ 100000000)
    (k : ∀ w', St c I L w' → K (.bool r) w') : callW Tryd.prog 14 [.string (bs p), .string (bs s)] K w :=
  refGlob_ok p s hs hp hl fun w' hs' => by rw [← globF_mb, hr]; exact k w' hs'
set_option maxHeartbeats 2000000 in
theorem lives52_ok {K : Value → World → Prop} (hg : Glo I) (hs : St c I L w) (hX : ∀ b, ¬ c.X b)
    (k : ∀ J w', Le I J → St c J L w' → K (.bool true) w') : callW Tryd.prog 12 [] K w := by
  refine fn_of good Tryd.func12 rfl rfl rfl ?_
  refine glob_ok (c := c) (I := I) (L := L) [109, 46, 42] [109, 46, 114, 111, 111, 109] hg hs hX (by decide) (by decide) ?_
  intro J1 w1 h1 hs1
  refine glob_ok (c := c) (I := J1) (L := L) [97, 42, 98, 42, 99] [97, 120, 98, 99] (hg.le h1) hs1 hX (by decide) (by decide) ?_
  intro J2 w2 h2 hs2
  refine glob_ok (c := c) (I := J2) (L := L) [97, 42, 98] [97] ((hg.le h1).le h2) hs2 hX (by decide) (by decide) ?_
  intro J3 w3 h3 hs3
  exact k J3 w3 ((h1.trans h2).trans h3) hs3
theorem globF_more_star {p s : List UInt8} (h : globF p s = true) : globF (p ++ [42]) (s ++ p) = true := (globF_iff _ _).2 (M_more ((globF_iff _ _).1 h) p)
theorem globF_any (s : List UInt8) : globF [42] s = true := (globF_iff _ _).2 (M_any s)
set_option maxHeartbeats 2000000 in
theorem matchGlobs_ok (p s : List UInt8) {K : Value → World → Prop} (hg : Glo I) (hs : St c I L w) (hX : ∀ b, ¬ c.X b)
    (k : ∀ J w', Le I J → St c J L w' → K (.bool true) w') : callW Tryd.prog 3 [.string (bs p), .string (bs s)] K w := by
  refine fn_of good Tryd.func3 rfl rfl rfl ?_
  have small : ∀ {K : Value → World → Prop}, (∀ J w', Le I J → St c J L w' → K (.bool true) w') → callW Tryd.prog 12 [] K w := fun k => lives52_ok hg hs hX k
  refine cd (fun h => ?_) (fun h => ?_)
  · refine small fun J w1 h1 hs1 => ?_
    exact k J w1 h1 hs1
  refine cd (fun h' => ?_) (fun h' => ?_)
  · refine small fun J w1 h1 hs1 => ?_
    exact k J w1 h1 hs1
  have h : ¬ (60 : Int) < p.length := h
  have h' : ¬ (60 : Int) < s.length := h'
  have last : ∀ {J : Im} {w : World}, Le I J → St c J L w → ∀ {K' : Value → World → Prop}, (∀ J w', Le I J → St c J L w' → K' (.bool true) w') → callW Tryd.prog 12 [] K' w := by
    intro J w hJ hs K' k'
    exact lives52_ok (hg.le hJ) hs hX fun J2 w2 h2 hs2 => k' J2 w2 (hJ.trans h2) hs2
  cases hb : globF p s with
  | false =>
    refine glob_is (c := c) (I := I) (L := L) p s false hb hg hs hX (by omega) (by omega) ?_
    intro J1 w1 h1 hs1
    refine refGlob_is (c := c) (I := J1) (L := L) p s false hb hs1 (by omega) (by omega) ?_
    intro w2 hs2
    refine glob_is (c := c) (I := J1) (L := L) p s false hb (hg.le h1) hs2 hX (by omega) (by omega) ?_
    intro J3 w3 h3 hs3
    have h3 := h1.trans h3
    refine glob_is (c := c) (I := J3) (L := L) [42] s true (globF_any s) (hg.le h3) hs3 hX (by decide) (by omega) ?_
    intro J4 w4 h4 hs4
    refine last (h3.trans h4) hs4 fun J5 w5 h5 hs5 => ?_
    exact k J5 w5 h5 hs5
  | true =>
    refine glob_is (c := c) (I := I) (L := L) p s true hb hg hs hX (by omega) (by omega) ?_
    intro J1 w1 h1 hs1
    refine refGlob_is (c := c) (I := J1) (L := L) p s true hb hs1 (by omega) (by omega) ?_
    intro w2 hs2
    refine glob_is (c := c) (I := J1) (L := L) p s true hb (hg.le h1) hs2 hX (by omega) (by omega) ?_
    intro J3 w3 h3 hs3
    have h3 := h1.trans h3
    refine req (by show p.length + 1 ≤ _; omega) ?_
    refine req (by show s.length + p.length ≤ _; omega) ?_
    refine glob_is (c := c) (I := J3) (L := L) (p ++ [42]) (s ++ p) true (globF_more_star hb) (hg.le h3) hs3 hX (by simp; omega) (by simp; omega) ?_
    intro J5 w5 h5 hs5
    have h5 := h3.trans h5
    refine glob_is (c := c) (I := J5) (L := L) [42] s true (globF_any s) (hg.le h5) hs5 hX (by decide) (by omega) ?_
    intro J4 w4 h4 hs4
    refine last (h5.trans h4) hs4 fun J6 w6 h6 hs6 => ?_
    exact k J6 w6 h6 hs6
end
end B
end Go.Proofs.YtdbihpobfcbmeaaDoor
