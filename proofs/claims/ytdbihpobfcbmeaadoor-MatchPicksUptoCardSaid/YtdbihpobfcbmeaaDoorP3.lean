/- The walks of whether one of some patterns lets a text pass. -/
import Derived.Test.YtdbihpobfcbmeaaDoorW52
import Derived.Test.YtdbihpobfcbmeaaDoorN6
set_option linter.unusedVariables false
set_option linter.unusedSimpArgs false
namespace Go.Proofs.YtdbihpobfcbmeaaDoor
namespace B
open Go Go.RowKit

def anyG (l : List (List UInt8)) (s : List UInt8) : Bool := l.any fun p => globF p s
/-- The first place where p holds. -/
def ixF {α : Type} (p : α → Bool) : List α → Nat → Int
  | [], _ => -1
  | x :: r, i => if p x = true then (i : Int) else ixF p r (i + 1)
theorem ixF_any {α : Type} (p : α → Bool) : ∀ (l : List α) (i : Nat), decide (0 ≤ ixF p l i) = l.any p
  | [], i => rfl
  | x :: r, i => by
    unfold ixF
    rw [List.any_cons]
    split
    · rename_i h; rw [h]; simp
    · rename_i h; rw [ixF_any p r (i + 1)]; simp [h]
section
variable {c : Cx} {I : Im} {L : List Ent} {w : World}
set_option maxHeartbeats 2000000 in
theorem indexFunc_ok (l : List (List UInt8)) (p : List UInt8 → Bool) (g : Nat) (cap : List Value) (a : Option Addr) (cc : Nat) {K : Value → World → Prop} (hll : l.length ≤ 100000000) (hr : RdL I 1 RdS (.slice a l.length cc) l) (hs : St c I L w)
    (hcall : ∀ x, x ∈ l → ∀ (J : Im) (w : World) (K : Value → World → Prop), Le I J → St c J L w → (∀ J' w', Le J J' → St c J' L w' → K (.bool (p x)) w') → callW Tryd.prog g ([.string (bs x)] ++ cap) K w)
    (k : ∀ J w', Le I J → St c J L w' → K (.int .i64 (ixF p l 0)) w') : callW Tryd.prog 186 [.slice a l.length cc, .func (.func g) #[] ⟨cap⟩] K w := by
  refine fn_of good Tryd.func186 rfl rfl rfl ?_
  refine loop [0, 1, 7, 8] (fun (i : Nat) vs w' => ∃ J, vs = [.slice a l.length cc, .func (.func g) #[] ⟨cap⟩, .int .i64 l.length, .int .i64 i] ∧ Le I J ∧ St c J L w' ∧ i ≤ l.length ∧ ixF p (l.drop i) i = ixF p l 0)
    (fun i => l.length - i) 0 ⟨I, rfl, Le.refl I, hs, Nat.zero_le _, rfl⟩ ?_
  clear hs
  rintro Z i vs e w' hI hZ
  obtain ⟨J, rfl, hJ, hs2, hi, hf⟩ := hI
  refine cd (fun h => ?_) (fun h => ?_)
  · have h : (i : Int) < l.length := h
    refine idr (hr.up hJ) hs2.im (by omega) h ?_
    rintro ad z r hz rfl - hcell
    rw [Int.toNat_natCast] at hz
    refine ldc1 (hcell 0 _ rfl) ?_
    have hd : l.drop i = z :: l.drop (i + 1) := by
      rw [List.drop_eq_getElem_cons (by omega)]
      congr 1
      exact (List.getElem?_eq_some_iff.1 hz).2
    rw [hd, ixF] at hf
    refine hcall z (List.mem_of_getElem? hz) J w' _ hJ hs2 ?_
    intro J2 w2 hJ2 hs3
    refine B.cs (fun h3 => ?_) (fun h3 => ?_)
    · rw [if_pos h3] at hf
      exact finI (k J2 w2 (hJ.trans hJ2) hs3) hf
    · rw [if_neg (by rw [h3]; decide)] at hf
      exact hZ (i + 1) _ _ ⟨J2, ce rfl (ce rfl (ce rfl (ce (vI (wAdd (a := i) (b := 1) (by omega))) rfl))), hJ.trans hJ2, hs3, by omega, hf⟩ (by omega)
  · have h : ¬ (i : Int) < l.length := h
    rw [List.drop_eq_nil_of_le (by omega)] at hf
    exact finI (k J w' hJ hs2) hf
set_option maxHeartbeats 2000000 in
theorem containsFunc_ok (l : List (List UInt8)) (p : List UInt8 → Bool) (g : Nat) (cap : List Value) (a : Option Addr) (cc : Nat) {K : Value → World → Prop} (hll : l.length ≤ 100000000) (hr : RdL I 1 RdS (.slice a l.length cc) l) (hs : St c I L w)
    (hcall : ∀ x, x ∈ l → ∀ (J : Im) (w : World) (K : Value → World → Prop), Le I J → St c J L w → (∀ J' w', Le J J' → St c J' L w' → K (.bool (p x)) w') → callW Tryd.prog g ([.string (bs x)] ++ cap) K w)
    (k : ∀ J w', Le I J → St c J L w' → K (.bool (l.any p)) w') : callW Tryd.prog 165 [.slice a l.length cc, .func (.func g) #[] ⟨cap⟩] K w := by
  refine fn_of good Tryd.func165 rfl rfl rfl ?_
  refine indexFunc_ok l p g cap a cc hll hr hs hcall ?_
  intro J w' hJ hs'
  exact finB (k J w' hJ hs') (ixF_any p l 0)
set_option maxHeartbeats 2000000 in
theorem anyOf_ok (l : List (List UInt8)) (s : List UInt8) (a : Option Addr) (cc : Nat) {K : Value → World → Prop} (hg : Glo I) (hX : ∀ b, ¬ c.X b) (hll : ksum l ≤ 100000000) (hsl : s.length ≤ 100000000) (hr : RdL I 1 RdS (.slice a l.length cc) l) (hs : St c I L w)
    (k : ∀ J w', Le I J → St c J L w' → K (.bool (anyG l s)) w') : callW Tryd.prog 123 [.slice a l.length cc, .string (bs s)] K w := by
  refine fn_of good Tryd.func123 rfl rfl rfl ?_
  refine new hs ?_
  intro b w1 hs1
  have hs1 : St c I (.blk b (.cells ⟨[.string (bs s)]⟩ 9) :: L) w1 := hs1
  refine containsFunc_ok l (fun p => globF p s) 166 [.pointer (some ⟨b, 0, none⟩)] a cc (by have := ksum_len l; omega) hr hs1 ?_ ?_
  · intro x hx J w K hJ hs2 k
    refine fn_of good Tryd.func166 rfl rfl rfl ?_
    refine ld 0 hs2 rfl rfl rfl ?_
    refine glob_ok (c := c) x s (hg.le hJ) hs2 hX (by have := sum_mem (f := fun x => x.length + 1) hx; rw [← ksum_sum] at this; omega) hsl ?_
    exact k
  · intro J w' hJ hs'
    exact k J w' hJ (hs'.drop 0)
end
end B
end Go.Proofs.YtdbihpobfcbmeaaDoor
