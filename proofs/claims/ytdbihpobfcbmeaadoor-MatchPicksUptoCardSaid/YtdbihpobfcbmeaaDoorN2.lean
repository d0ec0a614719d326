/- The walks of the document's functions on trees: whether they are few; what a map holds of a key. -/
import Derived.Test.YtdbihpobfcbmeaaDoorN1
set_option linter.unusedVariables false
set_option linter.unusedSimpArgs false
namespace Go.Proofs.YtdbihpobfcbmeaaDoor
namespace B
open Go Go.RowKit

theorem fewS_take (l : List Nd) (i : Nat) (x : Nd) (h : l[i]? = some x) : fewS (l.take (i + 1)) = fewS (l.take i) + (x.s.length + ksum x.k) := by
  induction l generalizing i with
  | nil => simp at h
  | cons y r ih =>
    cases i with
    | zero => simp at h; subst h; simp [fewS]
    | succ i => simp at h; simp [fewS, ih i h]; omega
theorem ksum_take (l : List (List UInt8)) (i : Nat) (x : List UInt8) (h : l[i]? = some x) : ksum (l.take (i + 1)) = ksum (l.take i) + (x.length + 1) := by
  induction l generalizing i with
  | nil => simp at h
  | cons y r ih =>
    cases i with
    | zero => simp at h; subst h; simp [ksum]
    | succ i => simp at h; simp [ksum, ih i h]; omega
theorem fewS_append (a b : List Nd) : fewS (a ++ b) = fewS a + fewS b := by
  induction a with
  | nil => simp [fewS]
  | cons x r ih => simp [fewS, ih]; omega
mutual
theorem fewS_le : ∀ x : Nd, fewS (alln x) ≤ nb x
  | .mk a b s k l => by have := fewSs_le l; simp only [alln, nb, fewS, Nd.s, Nd.k]; omega
theorem fewSs_le : ∀ l : List Nd, fewS (allns l) ≤ nbs l
  | [] => by simp [allns, nbs, fewS]
  | x :: r => by have := fewS_le x; have := fewSs_le r; simp only [allns, nbs, fewS_append]; omega
end
theorem fewS_le_take (l : List Nd) (i : Nat) : fewS (l.take i) ≤ fewS l := by
  have := fewS_append (l.take i) (l.drop i)
  rw [List.take_append_drop] at this; omega
theorem ksum_append (a b : List (List UInt8)) : ksum (a ++ b) = ksum a + ksum b := by
  induction a with
  | nil => simp [ksum]
  | cons x r ih => simp [ksum, ih]; omega
theorem ksum_le_take (l : List (List UInt8)) (i : Nat) : ksum (l.take i) ≤ ksum l := by
  have := ksum_append (l.take i) (l.drop i)
  rw [List.take_append_drop] at this; omega
theorem ksum_len (l : List (List UInt8)) : l.length ≤ ksum l := by rw [ksum_sum]; exact sum_len (fun x => by omega) l
theorem few_mem {l : List Nd} {x : Nd} (h : x ∈ l) : x.s.length + ksum x.k ≤ fewS l := by
  induction l with
  | nil => simp at h
  | cons y r ih =>
    simp only [fewS]
    rcases List.mem_cons.1 h with rfl | h
    · omega
    · have := ih h; omega
section
set_option maxHeartbeats 2000000 in
theorem few_ok (x : Nd) (hm : nb x ≤ 100000000) (most : Int) (c : Cx) (hX : ∀ b, ¬ c.X b) (I : Im) (L : List Ent) (w : World) (cs : List Value) (K : Value → World → Prop) (hr : RdN I cs x) (hs : St c I L w)
    (k : ∀ J w', Le I J → St c J L w' → K (.bool (fewN x most)) w') : callW Tryd.prog 16 [.agg ⟨cs⟩, .int .i64 most] K w := by
  obtain ⟨ak, ck, al, cl, rfl, hk, hl⟩ := hr.open
  refine fn_of good Tryd.func16 rfl rfl rfl ?_
  refine new hs ?_
  intro b w1 hs1
  have hs1 : St c I (.blk b (.cells ⟨[.int .i64 x.kind, .int .i64 x.n, .string (bs x.s), .slice ak x.k.length ck, .slice al x.l.length cl]⟩ 30) :: L) w1 := hs1
  refine ld 0 hs1 rfl rfl rfl ?_
  refine depth_ok 100000000 x hm (Nat.le_refl _) c I _ w1 _ _ hr hs1 ?_
  intro w2 hs2
  refine cd (fun h => ?_) (fun h => ?_)
  · have h : (80 : Int) < dep x := h
    refine finB (k I w2 (Le.refl I) (hs2.drop 0)) ?_
    rw [fewN, if_pos (by omega)]
  · have h : ¬ (80 : Int) < dep x := h
    have hk : ∀ J w', Le I J → St c J L w' → K (.bool (decide (((alln x).length : Int) ≤ most) && decide ((fewS (alln x) : Int) ≤ 3000))) w' := by
      intro J w' h1 h2
      have := k J w' h1 h2
      rwa [fewN, if_neg (by omega)] at this
    clear k
    refine ld 0 hs2 rfl rfl rfl ?_
    refine all_ok 100000000 x hm (Nat.le_refl _) c hX I _ w2 _ _ hr hs2 ?_
    intro v J w3 hJ hs3 hrl
    obtain ⟨aa, ca, rfl, _⟩ := hrl.len
    have hs3 := hs3.drop 0
    have hs3 : St c J L w3 := hs3
    have hb1 := fewS_le x
    have hb2 := alln_le x
    generalize hL : alln x = l at *
    refine loop [1, 5, 6, 16, 17, 18] (fun (i : Nat) vs w' => vs = [.int .i64 most, .slice aa l.length ca, .int .i64 (fewS (l.take i)), .slice aa l.length ca, .int .i64 l.length, .int .i64 i] ∧ St c J L w' ∧ i ≤ l.length) (fun i => l.length - i) 0 ⟨rfl, hs3, Nat.zero_le _⟩ ?_
    clear hs3 hs2 hs1 hs
    rintro Z i vs e w' hI hZ
    obtain ⟨rfl, hs2, hi⟩ := hI
    refine cd (fun h => ?_) (fun h => ?_)
    · have h : (i : Int) < l.length := h
      refine idr hrl hs2.im (by omega) h ?_
      rintro ad y r hy hyr hrl2 hcell
      rw [Int.toNat_natCast] at hy
      refine ldc hcell hrl2 ?_
      obtain ⟨bk, dk, bl, dl, rfl, hyk, hyl⟩ := hyr.open
      refine new hs2 ?_
      intro b8 w4 hs4
      refine sto 0 hs4 rfl rfl rfl ?_
      intro w5 hs5
      have hs5 : St c J (.blk b8 (.cells ⟨[.int .i64 y.kind, .int .i64 y.n, .string (bs y.s), .slice bk y.k.length dk, .slice bl y.l.length dl]⟩ 30) :: L) w5 := hs5
      refine ld 0 hs5 rfl rfl rfl ?_
      refine ld 0 hs5 rfl rfl rfl ?_
      have hft := fewS_take l i y hy
      have hfm := few_mem (List.mem_of_getElem? hy)
      have hfl := fewS_le_take l (i + 1)
      have hs6 : St c J L w5 := hs5.drop 0
      refine loop [1, 5, 6, 16, 17, 18, 28, 29, 30] (fun (q : Nat) vs w' => vs = [.int .i64 most, .slice aa l.length ca, .int .i64 ((fewS (l.take i) + y.s.length + ksum (y.k.take q) : Nat) : Int), .slice aa l.length ca, .int .i64 l.length, .int .i64 i,
        .slice bk y.k.length dk, .int .i64 y.k.length, .int .i64 q] ∧ St c J L w' ∧ q ≤ y.k.length) (fun q => y.k.length - q) 0 ⟨?_, hs6, Nat.zero_le _⟩ ?_
      · exact ce rfl (ce rfl (ce (vI (wAdd (a := fewS (l.take i)) (b := y.s.length) (by omega))) rfl))
      clear hs6 hs5 hs4 hs2
      rintro Z2 q vs e w6 hI hZ2
      obtain ⟨rfl, hs2, hq⟩ := hI
      have hkt := ksum_le_take y.k q
      have hkl := ksum_len y.k
      refine cd (fun h2 => ?_) (fun h2 => ?_)
      · have h2 : (q : Int) < y.k.length := h2
        refine idr hyk hs2.im (by omega) h2 ?_
        rintro ad z r hz rfl - hcell
        rw [Int.toNat_natCast] at hz
        refine ldc1 (hcell 0 _ rfl) ?_
        have hk2 := ksum_take y.k q z hz
        have hk3 := ksum_le_take y.k (q + 1)
        refine hZ2 (q + 1) _ _ ⟨?_, hs2, by omega⟩ (by omega)
        refine ce rfl (ce rfl (ce (vI ?_) (ce rfl (ce rfl (ce rfl (ce rfl (ce rfl (ce (vI (wAdd (a := q) (b := 1) (by omega))) rfl))))))))
        show IntKind.i64.wrap (((fewS (l.take i) + y.s.length + ksum (y.k.take q) : Nat) : Int) + IntKind.i64.wrap ((z.length : Int) + 1)) = _
        rw [w64 (n := (z.length : Int) + 1) (by omega) (by omega), w64 (by omega) (by omega), hk2]
        omega
      · have h2 : ¬ (q : Int) < y.k.length := h2
        have hqe : q = y.k.length := by omega
        subst hqe
        refine hZ (i + 1) _ _ ⟨?_, hs2, by omega⟩ (by omega)
        refine ce rfl (ce rfl (ce (vI ?_) (ce rfl (ce rfl (ce (vI (wAdd (a := i) (b := 1) (by omega))) rfl)))))
        rw [hft, List.take_length]; omega
    · have h : ¬ (i : Int) < l.length := h
      have hie : i = l.length := by omega
      subst hie
      have hft : l.take l.length = l := List.take_length
      refine cd (fun h2 => ?_) (fun h2 => ?_)
      · refine finB (hk J w' hJ hs2) ?_
        have h2 : (l.length : Int) ≤ most := h2
        show decide ((fewS (l.take l.length) : Int) ≤ 3000) = _
        rw [hft, decide_eq_true h2, Bool.true_and]
      · refine finB (hk J w' hJ hs2) ?_
        have h2 : ¬ (l.length : Int) ≤ most := h2
        rw [decide_eq_false h2]; rfl
end
end B
end Go.Proofs.YtdbihpobfcbmeaaDoor
