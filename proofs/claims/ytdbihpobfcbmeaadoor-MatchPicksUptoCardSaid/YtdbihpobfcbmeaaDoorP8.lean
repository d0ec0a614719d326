/- The walk of whether a filter is small. -/
import Derived.Test.YtdbihpobfcbmeaaDoorP7
set_option linter.unusedVariables false
set_option linter.unusedSimpArgs false
namespace Go.Proofs.YtdbihpobfcbmeaaDoor
namespace B
open Go Go.RowKit

def Fl.all (f : Fl) : List (List (List UInt8)) := [f.types, f.ntypes, f.senders, f.nsenders, f.keys]
def kss : List (List (List UInt8)) → Nat
  | [] => 0
  | x :: r => ksum x + kss r
theorem kss_take (l : List (List (List UInt8))) (i : Nat) (x : List (List UInt8)) (h : l[i]? = some x) : kss (l.take (i + 1)) = kss (l.take i) + ksum x := by
  induction l generalizing i with
  | nil => simp at h
  | cons y r ih =>
    cases i with
    | zero => simp at h; subst h; simp [kss]
    | succ i => simp at h; simp [kss, ih i h]; omega
theorem kss_le_take (l : List (List (List UInt8))) : ∀ i : Nat, kss (l.take i) ≤ kss l := by
  induction l with
  | nil => intro i; simp [kss]
  | cons y r ih =>
    intro i
    cases i with
    | zero => simp [kss]
    | succ i => simp [kss]; exact ih i
def RdV (I : Im) (r : List Value) (x : List (List UInt8)) : Prop := ∃ a c, r = [.slice a x.length c] ∧ RdL I 1 RdS (.slice a x.length c) x
def fewF (f : Fl) : Bool := decide (kss f.all ≤ 500)
section
variable {c : Cx} {I : Im} {L : List Ent} {w : World}
set_option maxHeartbeats 4000000 in
theorem fewF_ok (f : Fl) (hfs : kss f.all ≤ 100000000) (hX : ∀ b, ¬ c.X b) (fs : List Value) {K : Value → World → Prop} (hrf : RdF I fs f) (hs : St c I L w)
    (k : ∀ J w', Le I J → St c J L w' → K (.bool (fewF f)) w') : callW Tryd.prog 15 [.agg ⟨fs⟩] K w := by
  obtain ⟨a0, c0, a1, c1, a2, c2, a3, c3, a4, c4, rfl, r0, r1, r2, r3, r4⟩ := hrf
  refine fn_of good Tryd.func15 rfl rfl rfl ?_
  refine new hs ?_
  intro b1 w1 hs1
  refine ld 0 hs1 rfl rfl rfl ?_
  refine ld 0 hs1 rfl rfl rfl ?_
  refine ld 0 hs1 rfl rfl rfl ?_
  refine ld 0 hs1 rfl rfl rfl ?_
  refine ld 0 hs1 rfl rfl rfl ?_
  refine new hs1 ?_
  intro b2 w2 hs2
  have hs2 : St c I (.blk b2 (.cells ⟨[.slice a0 f.types.length c0, .slice a1 f.ntypes.length c1, .slice a2 f.senders.length c2, .slice a3 f.nsenders.length c3, .slice a4 f.keys.length c4]⟩ 24) :: L) w2 := hs2.drop 1
  clear hs1 hs
  obtain ⟨J, hJ, hs3, hb⟩ := hs2.fixBlk (i := 0) rfl hX
  have hs3 : St c J L w2 := hs3
  clear hs2
  have hall : RdL J 1 (RdV J) (.slice (some ⟨b2, 0, none⟩) 5 5) f.all := by
    refine RdL.lit (xs := f.all) hb ⟨rfl, fun j x hj => ?_⟩ 5 (Nat.le_refl 5)
    match j, hj with
    | 0, hj => cases hj; exact ⟨_, _, rfl, r0.up hJ⟩
    | 1, hj => cases hj; exact ⟨_, _, rfl, r1.up hJ⟩
    | 2, hj => cases hj; exact ⟨_, _, rfl, r2.up hJ⟩
    | 3, hj => cases hj; exact ⟨_, _, rfl, r3.up hJ⟩
    | 4, hj => cases hj; exact ⟨_, _, rfl, r4.up hJ⟩
    | j + 5, hj => simp [Fl.all] at hj
  refine loop [3, 18, 19, 20] (fun (i : Nat) vs w' => vs = [.int .i64 (kss (f.all.take i)), .slice (some ⟨b2, 0, none⟩) 5 5, .int .i64 5, .int .i64 i] ∧ St c J L w' ∧ i ≤ 5) (fun i => 5 - i) 0 ⟨rfl, hs3, Nat.zero_le _⟩ ?_
  clear hs3
  rintro Z i vs e w' hI hZ
  obtain ⟨rfl, hs2, hi⟩ := hI
  refine cd (fun h => ?_) (fun h => ?_)
  · have h : (i : Int) < 5 := h
    refine idr hall hs2.im (by omega) h ?_
    rintro ad y r hy ⟨ay, cy, rfl, hyr⟩ - hcell
    rw [Int.toNat_natCast] at hy
    refine ldc1 (hcell 0 _ rfl) ?_
    have hkt := kss_take f.all i y hy
    have hkl := kss_le_take f.all (i + 1)
    have hyl := ksum_len y
    refine loop [3, 18, 19, 20, 24, 25, 26] (fun (q : Nat) vs w' => vs = [.int .i64 ((kss (f.all.take i) + ksum (y.take q) : Nat) : Int), .slice (some ⟨b2, 0, none⟩) 5 5, .int .i64 5, .int .i64 i,
      .slice ay y.length cy, .int .i64 y.length, .int .i64 q] ∧ St c J L w' ∧ q ≤ y.length) (fun q => y.length - q) 0 ⟨rfl, hs2, Nat.zero_le _⟩ ?_
    clear hs2
    rintro Z2 q vs e w6 hI hZ2
    obtain ⟨rfl, hs2, hq⟩ := hI
    refine cd (fun h2 => ?_) (fun h2 => ?_)
    · have h2 : (q : Int) < y.length := h2
      refine idr hyr hs2.im (by omega) h2 ?_
      rintro ad z r hz rfl - hcell
      rw [Int.toNat_natCast] at hz
      refine ldc1 (hcell 0 _ rfl) ?_
      have hk2 := ksum_take y q z hz
      have hk3 := ksum_le_take y (q + 1)
      refine hZ2 (q + 1) _ _ ⟨?_, hs2, by omega⟩ (by omega)
      refine ce (vI ?_) (ce rfl (ce rfl (ce rfl (ce rfl (ce rfl (ce (vI (wAdd (a := q) (b := 1) (by omega))) rfl))))))
      show IntKind.i64.wrap (((kss (f.all.take i) + ksum (y.take q) : Nat) : Int) + IntKind.i64.wrap (1 + (z.length : Int))) = _
      rw [w64 (n := 1 + (z.length : Int)) (by omega) (by omega), w64 (by omega) (by omega), hk2]
      omega
    · have h2 : ¬ (q : Int) < y.length := h2
      have hqe : q = y.length := by omega
      subst hqe
      refine hZ (i + 1) _ _ ⟨?_, hs2, by omega⟩ (by omega)
      refine ce (vI ?_) (ce rfl (ce rfl (ce (vI (wAdd (a := i) (b := 1) (by omega))) rfl)))
      rw [hkt, List.take_length]
  · have h : ¬ (i : Int) < 5 := h
    have hie : i = 5 := by omega
    subst hie
    refine finB (k J w' hJ hs2) ?_
    show decide ((kss f.all : Int) ≤ 500) = _
    exact decide_eq_decide.2 (by omega)
end
end B
end Go.Proofs.YtdbihpobfcbmeaaDoor
