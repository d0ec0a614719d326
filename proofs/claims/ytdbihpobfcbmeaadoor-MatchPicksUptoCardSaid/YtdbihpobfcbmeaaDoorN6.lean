/- The walks of the program's own Get and Text. -/
import Derived.Test.YtdbihpobfcbmeaaDoorN5
set_option linter.unusedVariables false
set_option linter.unusedSimpArgs false
namespace Go.Proofs.YtdbihpobfcbmeaaDoor
namespace B
open Go Go.RowKit

section
variable {c : Cx} {I : Im} {L : List Ent} {w : World}
set_option maxHeartbeats 4000000 in
theorem get_ok (x : Nd) (hm : nb x ≤ 100000000) (hX : ∀ b, ¬ c.X b) (key : List UInt8) (cs : List Value) (K : Value → World → Prop) (hr : RdN I cs x) (hs : St c I L w)
    (k : ∀ ds J w', Le I J → St c J L w' → RdN J ds ((getN x key).getD nd0) → K (.tuple #[.agg ⟨ds⟩, .bool (getN x key).isSome]) w') : callW Tryd.prog 71 [.agg ⟨cs⟩, .string (bs key)] K w := by
  obtain ⟨ak, ck, al, cl, rfl, hk, hl⟩ := hr.open
  have hkb : x.k.length ≤ 100000000 := by have := ksum_len x.k; have := nb_eq x; omega
  refine fn_of good Tryd.func71 rfl rfl rfl ?_
  refine new hs ?_
  intro b w1 hs1
  have hs1 : St c I (.blk b (.cells ⟨[.int .i64 x.kind, .int .i64 x.n, .string (bs x.s), .slice ak x.k.length ck, .slice al x.l.length cl]⟩ 30) :: L) w1 := hs1
  refine new hs1 ?_
  intro b4 w2 hs2
  refine ld 1 hs2 rfl rfl rfl ?_
  refine cd (fun h6 => ?_) (fun h6 => ?_)
  · have h6 : x.kind = 6 := h6
    have hkx : keysN x = x.k.take x.l.length := by rw [keysN, if_pos h6]
    refine ld 1 hs2 rfl rfl rfl ?_
    refine entries_ok x hm hX _ _ hr hs2 ?_
    intro v J w3 hJ hs3 hre
    obtain ⟨ae, ce', rfl, _⟩ := hre.len
    have hzl : (x.k.zip x.l).length = min x.k.length x.l.length := List.length_zip
    have hs3 : St c J (.blk b4 (.cells ⟨[.int .i64 0, .int .i64 0, .string (bs []), .slice none 0 0, .slice none 0 0]⟩ 30) :: L) w3 := hs3.drop 1
    clear hs2 hs1 hs
    refine loop [1, 4, 12, 13, 14] (fun (i : Nat) vs w' => vs = [.string (bs key), .pointer (some ⟨b4, 0, none⟩), .slice ae (x.k.zip x.l).length ce', .int .i64 ((x.k.zip x.l).length : Nat), .int .i64 i] ∧
      St c J (.blk b4 (.cells ⟨[.int .i64 0, .int .i64 0, .string (bs []), .slice none 0 0, .slice none 0 0]⟩ 30) :: L) w' ∧ i ≤ (x.k.zip x.l).length ∧ fnd key ((keysN x).drop i) i = atN x key)
      (fun i => (x.k.zip x.l).length - i) 0 ⟨rfl, hs3, Nat.zero_le _, rfl⟩ ?_
    clear hs3
    rintro Z i vs e w' hI hZ
    obtain ⟨rfl, hs2, hi, hf⟩ := hI
    refine cd (fun h => ?_) (fun h => ?_)
    · have h : (i : Int) < ((x.k.zip x.l).length : Nat) := h
      refine idr hre hs2.im (by omega) h ?_
      rintro ad ⟨z, y⟩ r hzy ⟨r, rfl, hyr⟩ hrl hcell
      rw [Int.toNat_natCast] at hzy
      obtain ⟨hz, hy⟩ := List.getElem?_zip_eq_some.1 hzy
      dsimp only at hz hy hyr
      refine ldc hcell hrl ?_
      obtain ⟨bk, dk, bl, dl, rfl, hyk, hyl⟩ := hyr.open
      refine new hs2 ?_
      intro b7 w5 hs5
      refine sto 0 hs5 rfl rfl rfl ?_
      intro w6 hs6
      have hs6 : St c J (.blk b7 (.cells ⟨[.string (bs z), .int .i64 y.kind, .int .i64 y.n, .string (bs y.s), .slice bk y.k.length dk, .slice bl y.l.length dl]⟩ 154) :: .blk b4 (.cells ⟨[.int .i64 0, .int .i64 0, .string (bs []), .slice none 0 0, .slice none 0 0]⟩ 30) :: L) w6 := hs6
      clear hs5 hs2
      refine ld 0 hs6 rfl rfl rfl ?_
      have hd : (keysN x).drop i = z :: (keysN x).drop (i + 1) := by
        rw [hkx, List.drop_eq_getElem_cons (by rw [List.length_take]; omega)]
        congr 1
        rw [List.getElem_take]
        exact (List.getElem?_eq_some_iff.1 hz).2
      rw [hd, fnd] at hf
      refine cd (fun h3 => ?_) (fun h3 => ?_)
      · have h3 : z = key := h3
        rw [if_pos h3] at hf
        have hg : getN x key = some y := by rw [getN, ← hf, if_neg (by omega), Int.toNat_natCast, hy]
        rw [hg] at k
        refine ld 0 hs6 rfl rfl rfl ?_
        refine sto 1 hs6 rfl rfl rfl ?_
        intro w7 hs7
        refine ld 1 hs7 rfl rfl rfl ?_
        exact k _ J w7 hJ ((hs7.drop 0).drop 0) hyr
      · have h3 : ¬ z = key := h3
        rw [if_neg h3] at hf
        exact hZ (i + 1) _ _ ⟨ce rfl (ce rfl (ce rfl (ce rfl (ce (vI (wAdd (a := i) (b := 1) (by omega))) rfl)))), hs6.drop 0, by omega, hf⟩ (by omega)
    · have h : ¬ (i : Int) < ((x.k.zip x.l).length : Nat) := h
      have hde : (keysN x).drop i = [] := by rw [hkx]; exact List.drop_eq_nil_of_le (by rw [List.length_take]; omega)
      rw [hde] at hf
      have hg : getN x key = none := by rw [getN, ← hf]; rfl
      rw [hg] at k
      refine sto 0 hs2 rfl rfl rfl ?_
      intro w7 hs7
      refine ld 0 hs7 rfl rfl rfl ?_
      exact k _ J w7 hJ (hs7.drop 0) rd0
  · have h6 : ¬ x.kind = 6 := h6
    have hg : getN x key = none := by rw [getN, atN, keysN, if_neg h6]; rfl
    rw [hg] at k
    refine sto 0 hs2 rfl rfl rfl ?_
    intro w7 hs7
    refine ld 0 hs7 rfl rfl rfl ?_
    exact k _ I w7 (Le.refl I) ((hs7.drop 0).drop 0) rd0
set_option maxHeartbeats 2000000 in
theorem text_ok (x : Nd) (hm : nb x ≤ 100000000) (hX : ∀ b, ¬ c.X b) (key : List UInt8) (cs : List Value) (K : Value → World → Prop) (hr : RdN I cs x) (hs : St c I L w)
    (k : ∀ J w', Le I J → St c J L w' → K (.tuple #[.string (bs ((txtN x key).getD [])), .bool (txtN x key).isSome]) w') : callW Tryd.prog 70 [.agg ⟨cs⟩, .string (bs key)] K w := by
  obtain ⟨ak, ck, al, cl, rfl, hk, hl⟩ := hr.open
  refine fn_of good Tryd.func70 rfl rfl rfl ?_
  refine new hs ?_
  intro b w1 hs1
  have hs1 : St c I (.blk b (.cells ⟨[.int .i64 x.kind, .int .i64 x.n, .string (bs x.s), .slice ak x.k.length ck, .slice al x.l.length cl]⟩ 30) :: L) w1 := hs1
  refine ld 0 hs1 rfl rfl rfl ?_
  refine get_ok x hm hX key _ _ hr hs1 ?_
  intro ds J w2 hJ hs2 hds
  cases hg : getN x key with
  | none =>
    rw [hg] at hds
    rw [txt_none hg] at k
    obtain ⟨bk, dk, bl, dl, rfl, hyk, hyl⟩ := hds.open
    refine new hs2 ?_
    intro b6 w3 hs3
    refine sto 0 hs3 rfl rfl rfl ?_
    intro w4 hs4
    exact k J w4 hJ ((hs4.drop 0).drop 0)
  | some y =>
    rw [hg] at hds
    obtain ⟨bk, dk, bl, dl, rfl, hyk, hyl⟩ := hds.open
    refine new hs2 ?_
    intro b6 w3 hs3
    refine sto 0 hs3 rfl rfl rfl ?_
    intro w4 hs4
    refine ld 0 hs4 rfl rfl rfl ?_
    refine cn (fun h => ?_) (fun h => ?_)
    · have h : ¬ y.kind = 4 := h
      rw [txt_else hg h] at k
      exact k J w4 hJ ((hs4.drop 0).drop 0)
    · have h : y.kind = 4 := h
      rw [txt_some hg h] at k
      refine ld 0 hs4 rfl rfl rfl ?_
      exact k J w4 hJ ((hs4.drop 0).drop 0)
end
end B
end Go.Proofs.YtdbihpobfcbmeaaDoor
