/- The walks of what finds a key in a map: the document's and the program's. -/
import Derived.Test.YtdbihpobfcbmeaaDoorN2
set_option linter.unusedVariables false
set_option linter.unusedSimpArgs false
namespace Go.Proofs.YtdbihpobfcbmeaaDoor
namespace B
open Go Go.RowKit

/-- The place of a key among keys, counted from a number; -1: nowhere. -/
def fnd (key : List UInt8) : List (List UInt8) → Nat → Int
  | [], _ => -1
  | k :: r, i => if k = key then (i : Int) else fnd key r (i + 1)
theorem fnd_cases (key : List UInt8) : ∀ (l : List (List UInt8)) (i : Nat), fnd key l i = -1 ∨ ∃ j, fnd key l i = ((i + j : Nat) : Int) ∧ j < l.length
  | [], _ => .inl rfl
  | k :: r, i => by
    unfold fnd
    split
    · exact .inr ⟨0, rfl, by simp⟩
    · rcases fnd_cases key r (i + 1) with h | ⟨j, h, hj⟩
      · exact .inl h
      · exact .inr ⟨j + 1, by rw [h]; congr 1; omega, by simp; omega⟩
/-- The keys of a map that have values. -/
def keysN (x : Nd) : List (List UInt8) := if x.kind = 6 then x.k.take x.l.length else []
def atN (x : Nd) (key : List UInt8) : Int := fnd key (keysN x) 0
def getN (x : Nd) (key : List UInt8) : Option Nd := if atN x key < 0 then none else x.l[(atN x key).toNat]?
def nd0 : Nd := .mk 0 0 [] [] []
theorem at_cases (x : Nd) (key : List UInt8) : atN x key = -1 ∨ ∃ j : Nat, atN x key = j ∧ j < x.l.length := by
  rcases fnd_cases key (keysN x) 0 with h | ⟨j, h, hj⟩
  · exact .inl h
  · refine .inr ⟨j, by rw [atN, h, Nat.zero_add], ?_⟩
    unfold keysN at hj
    split at hj
    · simp at hj; omega
    · simp at hj
/-- The text that stands under a key. -/
def txtN (x : Nd) (key : List UInt8) : Option (List UInt8) := match getN x key with | some y => if y.kind = 4 then some y.s else none | none => none
section
variable {c : Cx} {I : Im} {L : List Ent} {w : World}
set_option maxHeartbeats 2000000 in
theorem at_ok (x : Nd) (hm : nb x ≤ 100000000) (key : List UInt8) (cs : List Value) (K : Value → World → Prop) (hr : RdN I cs x) (hs : St c I L w)
    (k : ∀ w', St c I L w' → K (.int .i64 (atN x key)) w') : callW Tryd.prog 68 [.agg ⟨cs⟩, .string (bs key)] K w := by
  obtain ⟨ak, ck, al, cl, rfl, hk, hl⟩ := hr.open
  have hkb : x.k.length ≤ 100000000 := by have := ksum_len x.k; have := nb_eq x; omega
  refine fn_of good Tryd.func68 rfl rfl rfl ?_
  refine new hs ?_
  intro b w1 hs1
  have hs1 : St c I (.blk b (.cells ⟨[.int .i64 x.kind, .int .i64 x.n, .string (bs x.s), .slice ak x.k.length ck, .slice al x.l.length cl]⟩ 30) :: L) w1 := hs1
  refine loop [1, 2, 5] (fun (i : Nat) vs w' => vs = [.string (bs key), .pointer (some ⟨b, 0, none⟩), .int .i64 i] ∧
      St c I (.blk b (.cells ⟨[.int .i64 x.kind, .int .i64 x.n, .string (bs x.s), .slice ak x.k.length ck, .slice al x.l.length cl]⟩ 30) :: L) w' ∧ i ≤ x.k.length ∧ fnd key ((keysN x).drop i) i = atN x key)
      (fun i => x.k.length - i) 0 ⟨rfl, hs1, Nat.zero_le _, rfl⟩ ?_
  rintro Z i vs e w' hI hZ
  obtain ⟨rfl, hs2, hi, hf⟩ := hI
  have out : (keysN x).drop i = [] → atN x key = -1 := fun h => by rw [h] at hf; exact hf.symm
  refine ld 0 hs2 rfl rfl rfl ?_
  refine cd (fun h => ?_) (fun h => ?_)
  · have h : (i : Int) < x.k.length := h
    refine ld 0 hs2 rfl rfl rfl ?_
    refine cd (fun h2 => ?_) (fun h2 => ?_)
    · have h2 : (i : Int) < x.l.length := h2
      refine ld 0 hs2 rfl rfl rfl ?_
      refine cd (fun h6 => ?_) (fun h6 => ?_)
      · have h6 : x.kind = 6 := h6
        refine ld 0 hs2 rfl rfl rfl ?_
        refine idr hk hs2.im (by omega) h ?_
        rintro ad z r hz rfl - hcell
        rw [Int.toNat_natCast] at hz
        refine ldc1 (hcell 0 _ rfl) ?_
        have hkx : keysN x = x.k.take x.l.length := by rw [keysN, if_pos h6]
        have hd : (keysN x).drop i = z :: (keysN x).drop (i + 1) := by
          rw [hkx, List.drop_eq_getElem_cons (by rw [List.length_take]; omega)]
          congr 1
          rw [List.getElem_take]
          exact (List.getElem?_eq_some_iff.1 hz).2
        rw [hd, fnd] at hf
        refine cd (fun h3 => ?_) (fun h3 => ?_)
        · have h3 : z = key := h3
          rw [if_pos h3] at hf
          exact finI (k w' (hs2.drop 0)) hf
        · have h3 : ¬ z = key := h3
          rw [if_neg h3] at hf
          exact hZ (i + 1) _ _ ⟨ce rfl (ce rfl (ce (vI (wAdd (a := i) (b := 1) (by omega))) rfl)), hs2, by omega, hf⟩ (by omega)
      · have h6 : ¬ x.kind = 6 := h6
        refine finI (k w' (hs2.drop 0)) ?_
        exact (out (by rw [keysN, if_neg h6]; simp)).symm
    · have h2 : ¬ (i : Int) < x.l.length := h2
      refine finI (k w' (hs2.drop 0)) ?_
      refine (out ?_).symm
      unfold keysN
      split
      · exact List.drop_eq_nil_of_le (by rw [List.length_take]; omega)
      · simp
  · have h : ¬ (i : Int) < x.k.length := h
    refine finI (k w' (hs2.drop 0)) ?_
    refine (out ?_).symm
    unfold keysN
    split
    · exact List.drop_eq_nil_of_le (by rw [List.length_take]; omega)
    · simp
theorem rd0 : RdN I [.int .i64 0, .int .i64 0, .string (bs []), .slice none 0 0, .slice none 0 0] nd0 := RdN.in (RdL.nil 0 none) (RdL.nil 0 none)
set_option maxHeartbeats 2000000 in
theorem refGet_ok (x : Nd) (hm : nb x ≤ 100000000) (key : List UInt8) (cs : List Value) (K : Value → World → Prop) (hr : RdN I cs x) (hs : St c I L w)
    (k : ∀ ds w', St c I L w' → RdN I ds ((getN x key).getD nd0) → K (.tuple #[.agg ⟨ds⟩, .bool (getN x key).isSome]) w') : callW Tryd.prog 66 [.agg ⟨cs⟩, .string (bs key)] K w := by
  obtain ⟨ak, ck, al, cl, rfl, hk, hl⟩ := hr.open
  refine fn_of good Tryd.func66 rfl rfl rfl ?_
  refine new hs ?_
  intro b w1 hs1
  have hs1 : St c I (.blk b (.cells ⟨[.int .i64 x.kind, .int .i64 x.n, .string (bs x.s), .slice ak x.k.length ck, .slice al x.l.length cl]⟩ 30) :: L) w1 := hs1
  refine new hs1 ?_
  intro b4 w2 hs2
  refine ld 1 hs2 rfl rfl rfl ?_
  refine at_ok x hm key _ _ hr hs2 ?_
  intro w3 hs3
  rcases at_cases x key with ha | ⟨j, ha, hj⟩
  · have hg : getN x key = none := by rw [getN, ha]; rfl
    rw [hg] at k
    rw [ha]
    refine sto 0 hs3 rfl rfl rfl ?_
    intro w4 hs4
    refine ld 0 hs4 rfl rfl rfl ?_
    exact k _ w4 ((hs4.drop 0).drop 0) rd0
  · obtain ⟨y, hy⟩ : ∃ y, x.l[j]? = some y := ⟨_, List.getElem?_eq_getElem hj⟩
    have hg : getN x key = some y := by rw [getN, ha, if_neg (by omega), Int.toNat_natCast, hy]
    rw [hg] at k
    rw [ha]
    refine ld 1 hs3 rfl rfl rfl ?_
    refine idr hl hs3.im (by omega) (by omega) ?_
    rintro ad y' r hy' hyr hrl2 hcell
    rw [Int.toNat_natCast, hy] at hy'
    cases hy'
    refine ldc hcell hrl2 ?_
    obtain ⟨bk, dk, bl, dl, rfl, hyk, hyl⟩ := hyr.open
    refine sto 0 hs3 rfl rfl rfl ?_
    intro w4 hs4
    refine ld 0 hs4 rfl rfl rfl ?_
    exact k _ w4 ((hs4.drop 0).drop 0) hyr
end
end B
end Go.Proofs.YtdbihpobfcbmeaaDoor
