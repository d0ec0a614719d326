/- The walks of what a filter asks. -/
import Derived.Test.YtdbihpobfcbmeaaDoorP3
set_option linter.unusedVariables false
set_option linter.unusedSimpArgs false
namespace Go.Proofs.YtdbihpobfcbmeaaDoor
namespace B
open Go Go.RowKit

def listsG (yes no : List (List UInt8)) (s : List UInt8) : Bool := (decide (yes.length = 0) || anyG yes s) && !anyG no s
structure Fl where
  types : List (List UInt8)
  ntypes : List (List UInt8)
  senders : List (List UInt8)
  nsenders : List (List UInt8)
  keys : List (List UInt8)
  limit : Int
def RdF (I : Im) (cs : List Value) (f : Fl) : Prop := ∃ a0 c0 a1 c1 a2 c2 a3 c3 a4 c4, cs = [.slice a0 f.types.length c0, .slice a1 f.ntypes.length c1, .slice a2 f.senders.length c2, .slice a3 f.nsenders.length c3, .slice a4 f.keys.length c4, .int .i64 f.limit] ∧
  RdL I 1 RdS (.slice a0 f.types.length c0) f.types ∧ RdL I 1 RdS (.slice a1 f.ntypes.length c1) f.ntypes ∧ RdL I 1 RdS (.slice a2 f.senders.length c2) f.senders ∧ RdL I 1 RdS (.slice a3 f.nsenders.length c3) f.nsenders ∧ RdL I 1 RdS (.slice a4 f.keys.length c4) f.keys
theorem RdF.up {I J : Im} (hl : Le I J) {cs : List Value} {f : Fl} (h : RdF I cs f) : RdF J cs f := by
  obtain ⟨a0, c0, a1, c1, a2, c2, a3, c3, a4, c4, h, h0, h1, h2, h3, h4⟩ := h
  exact ⟨a0, c0, a1, c1, a2, c2, a3, c3, a4, c4, h, h0.up hl, h1.up hl, h2.up hl, h3.up hl, h4.up hl⟩
def Fl.small (f : Fl) (m : Nat) : Prop := ksum f.types ≤ m ∧ ksum f.ntypes ≤ m ∧ ksum f.senders ≤ m ∧ ksum f.nsenders ≤ m ∧ ksum f.keys ≤ m
section
variable {c : Cx} {I : Im} {L : List Ent} {w : World}
set_option maxHeartbeats 2000000 in
theorem one_ok (l : List (List UInt8)) (s : List UInt8) (a : Option Addr) (cc : Nat) {K : Value → World → Prop} (hll : ksum l ≤ 100000000) (hsl : s.length ≤ 100000000) (hr : RdL I 1 RdS (.slice a l.length cc) l) (hs : St c I L w)
    (k : ∀ w', St c I L w' → K (.bool (anyG l s)) w') : callW Tryd.prog 67 [.slice a l.length cc, .string (bs s)] K w := by
  have hlen := ksum_len l
  refine fn_of good Tryd.func67 rfl rfl rfl ?_
  refine loop [0, 1, 5] (fun (i : Nat) vs w' => vs = [.slice a l.length cc, .string (bs s), .int .i64 i] ∧ St c I L w' ∧ i ≤ l.length ∧ anyG (l.drop i) s = anyG l s)
    (fun i => l.length - i) 0 ⟨rfl, hs, Nat.zero_le _, rfl⟩ ?_
  clear hs
  rintro Z i vs e w' hI hZ
  obtain ⟨rfl, hs2, hi, hf⟩ := hI
  refine cd (fun h => ?_) (fun h => ?_)
  · have h : (i : Int) < l.length := h
    refine idr hr hs2.im (by omega) h ?_
    rintro ad z r hz rfl - hcell
    rw [Int.toNat_natCast] at hz
    refine ldc1 (hcell 0 _ rfl) ?_
    have hd : l.drop i = z :: l.drop (i + 1) := by
      rw [List.drop_eq_getElem_cons (by omega)]
      congr 1
      exact (List.getElem?_eq_some_iff.1 hz).2
    rw [hd, anyG, List.any_cons] at hf
    have hzl : z.length ≤ 100000000 := by have := sum_mem (f := fun x => x.length + 1) (List.mem_of_getElem? hz); rw [← ksum_sum] at this; omega
    cases hb : globF z s with
    | true =>
      refine refGlob_is (c := c) z s true hb hs2 hzl hsl ?_
      intro w3 hs3
      refine finB (k w3 hs3) ?_
      rw [← hf, hb]; rfl
    | false =>
      refine refGlob_is (c := c) z s false hb hs2 hzl hsl ?_
      intro w3 hs3
      rw [hb, Bool.false_or] at hf
      exact hZ (i + 1) _ _ ⟨ce rfl (ce rfl (ce (vI (wAdd (a := i) (b := 1) (by omega))) rfl)), hs3, by omega, hf⟩ (by omega)
  · have h : ¬ (i : Int) < l.length := h
    rw [List.drop_eq_nil_of_le (by omega)] at hf
    exact finB (k w' hs2) hf
theorem one_is (l : List (List UInt8)) (s : List UInt8) (r : Bool) (hb : anyG l s = r) (a : Option Addr) (cc : Nat) {K : Value → World → Prop} (hll : ksum l ≤ 100000000) (hsl : s.length ≤ 100000000) (hr : RdL I 1 RdS (.slice a l.length cc) l) (hs : St c I L w)
    (k : ∀ w', St c I L w' → K (.bool r) w') : callW Tryd.prog 67 [.slice a l.length cc, .string (bs s)] K w :=
  one_ok l s a cc hll hsl hr hs fun w' h => by rw [hb]; exact k w' h
theorem anyOf_is (l : List (List UInt8)) (s : List UInt8) (r : Bool) (hb : anyG l s = r) (a : Option Addr) (cc : Nat) {K : Value → World → Prop} (hg : Glo I) (hX : ∀ b, ¬ c.X b) (hll : ksum l ≤ 100000000) (hsl : s.length ≤ 100000000) (hr : RdL I 1 RdS (.slice a l.length cc) l) (hs : St c I L w)
    (k : ∀ J w', Le I J → St c J L w' → K (.bool r) w') : callW Tryd.prog 123 [.slice a l.length cc, .string (bs s)] K w :=
  anyOf_ok l s a cc hg hX hll hsl hr hs fun J w' h1 h => by rw [hb]; exact k J w' h1 h
set_option maxHeartbeats 2000000 in
theorem lists_ok (yes no : List (List UInt8)) (s : List UInt8) (ay an : Option Addr) (cy cn' : Nat) {K : Value → World → Prop} (hy : ksum yes ≤ 100000000) (hn : ksum no ≤ 100000000) (hsl : s.length ≤ 100000000)
    (hry : RdL I 1 RdS (.slice ay yes.length cy) yes) (hrn : RdL I 1 RdS (.slice an no.length cn') no) (hs : St c I L w)
    (k : ∀ w', St c I L w' → K (.bool (listsG yes no s)) w') : callW Tryd.prog 18 [.slice ay yes.length cy, .slice an no.length cn', .string (bs s)] K w := by
  refine fn_of good Tryd.func18 rfl rfl rfl ?_
  refine cd (fun h => ?_) (fun h => ?_)
  · have h : (yes.length : Int) = 0 := h
    refine one_ok no s an cn' hn hsl hrn hs ?_
    intro w2 hs2
    refine finB (k w2 hs2) ?_
    rw [listsG, decide_eq_true (show yes.length = 0 by omega)]; rfl
  · have h : ¬ (yes.length : Int) = 0 := h
    have hl : listsG yes no s = (anyG yes s && !anyG no s) := by rw [listsG, decide_eq_false (show ¬ yes.length = 0 by omega), Bool.false_or]
    cases hb : anyG yes s with
    | true =>
      refine one_is yes s true hb ay cy hy hsl hry hs ?_
      intro w2 hs2
      refine one_ok no s an cn' hn hsl hrn hs2 ?_
      intro w3 hs3
      refine finB (k w3 hs3) ?_
      rw [hl, hb]; rfl
    | false =>
      refine one_is yes s false hb ay cy hy hsl hry hs ?_
      intro w2 hs2
      refine finB (k w2 hs2) ?_
      rw [hl, hb]; rfl
/-- The closure of one question. -/
def askV (b1 b2 : Nat) : Value := .func (.func 122) #[] #[.pointer (some ⟨b1, 0, none⟩), .pointer (some ⟨b2, 0, none⟩)]
set_option maxHeartbeats 2000000 in
theorem ask_ok (yes no : List (List UInt8)) (s : List UInt8) (ay an : Option Addr) (cy cn' b1 b2 : Nat) (t1 t2 : Nat) (fr1 fr2 : Nat × Nat) {K : Value → World → Prop} (hg : Glo I) (hX : ∀ b, ¬ c.X b) (hy : ksum yes ≤ 100000000) (hn : ksum no ≤ 100000000) (hsl : s.length ≤ 100000000)
    (hry : RdL I 1 RdS (.slice ay yes.length cy) yes) (hrn : RdL I 1 RdS (.slice an no.length cn') no) (hb1 : I b1 = some (.cells ⟨[.slice ay yes.length cy]⟩ t1 fr1)) (hb2 : I b2 = some (.cells ⟨[.slice an no.length cn']⟩ t2 fr2)) (hs : St c I L w)
    (k : ∀ J w', Le I J → St c J L w' → K (.bool (listsG yes no s)) w') : callW Tryd.prog 122 [.string (bs s), .pointer (some ⟨b1, 0, none⟩), .pointer (some ⟨b2, 0, none⟩)] K w := by
  have rd1 : ∀ {J w}, Le I J → St c J L w → w.cell? ⟨b1, 0, none⟩ = some (.slice ay yes.length cy) := fun hJ h => by simp [World.cell?, h.im _ _ (hJ _ _ hb1)]
  have rd2 : ∀ {J w}, Le I J → St c J L w → w.cell? ⟨b2, 0, none⟩ = some (.slice an no.length cn') := fun hJ h => by simp [World.cell?, h.im _ _ (hJ _ _ hb2)]
  refine fn_of good Tryd.func122 rfl rfl rfl ?_
  refine ldc1 (rd1 (Le.refl I) hs) ?_
  refine cd (fun h => ?_) (fun h => ?_)
  · have h : (yes.length : Int) = 0 := h
    refine ldc1 (rd2 (Le.refl I) hs) ?_
    refine anyOf_ok no s an cn' hg hX hn hsl hrn hs ?_
    intro J w2 hJ hs2
    refine finB (k J w2 hJ hs2) ?_
    rw [listsG, decide_eq_true (show yes.length = 0 by omega)]; rfl
  · have h : ¬ (yes.length : Int) = 0 := h
    have hl : listsG yes no s = (anyG yes s && !anyG no s) := by rw [listsG, decide_eq_false (show ¬ yes.length = 0 by omega), Bool.false_or]
    refine ldc1 (rd1 (Le.refl I) hs) ?_
    cases hb : anyG yes s with
    | true =>
      refine anyOf_is yes s true hb ay cy hg hX hy hsl hry hs ?_
      intro J w2 hJ hs2
      refine ldc1 (rd2 hJ hs2) ?_
      refine anyOf_ok no s an cn' (hg.le hJ) hX hn hsl (hrn.up hJ) hs2 ?_
      intro J3 w3 hJ3 hs3
      refine finB (k J3 w3 (hJ.trans hJ3) hs3) ?_
      rw [hl, hb]; rfl
    | false =>
      refine anyOf_is yes s false hb ay cy hg hX hy hsl hry hs ?_
      intro J w2 hJ hs2
      refine finB (k J w2 hJ hs2) ?_
      rw [hl, hb]; rfl
set_option maxHeartbeats 2000000 in
theorem mkAsk_ok (v1 v2 : Value) (t1 : True) {K : Value → World → Prop} (h1 : cellsL v1 = [v1]) (h2 : cellsL v2 = [v2])
    (k : ∀ b1 b2 w', Ch Non w w' → w'.heap[b1]? = some (.cells ⟨[v1]⟩ 24) → w'.heap[b2]? = some (.cells ⟨[v2]⟩ 24) → w.heap.size ≤ b1 → w.heap.size ≤ b2 → K (askV b1 b2) w') : callW Tryd.prog 121 [v1, v2] K w := by
  refine fn_of good Tryd.func121 rfl rfl rfl ?_
  refine newR ?_
  intro b1 w1 g1 c1 l1
  refine newR ?_
  intro b2 w2 g2 c2 l2
  have g1 : w1.heap[b1]? = some (.cells ⟨cellsL v1⟩ 24) := g1
  have g2 : w2.heap[b2]? = some (.cells ⟨cellsL v2⟩ 24) := g2
  rw [h1] at g1
  rw [h2] at g2
  exact k b1 b2 w2 (c1.trans0 c2) ((c2.block b1 (Array.getElem?_eq_some_iff.1 g1).1 (fun h => h)).trans g1) g2 l1 (Nat.le_trans c1.size l2)
end
end B
end Go.Proofs.YtdbihpobfcbmeaaDoor
