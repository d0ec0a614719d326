/- The walks of whether a filter lets an event pass. -/
import Derived.Test.YtdbihpobfcbmeaaDoorP5
set_option linter.unusedVariables false
set_option linter.unusedSimpArgs false
namespace Go.Proofs.YtdbihpobfcbmeaaDoor
namespace B
open Go Go.RowKit

def contN (x : Nd) : Nd := (getN x [99, 111, 110, 116, 101, 110, 116]).getD nd0
def txt (x : Nd) (key : List UInt8) : List UInt8 := (txtN x key).getD []
def hasG (x : Nd) (keys : List (List UInt8)) : Bool := keys.all fun k => (getN (contN x) k).isSome
def askG (x : Nd) (a : List UInt8 × List (List UInt8) × List (List UInt8)) : Bool := listsG a.2.1 a.2.2 (txt x a.1)
def passG (f : Fl) (x : Nd) : Bool := (asksF f).all (askG x) && hasG x f.keys
theorem get_isSome (x : Nd) (key : List UInt8) : (getN x key).isSome = !decide (atN x key < 0) := by
  rcases at_cases x key with h | ⟨j, h, hj⟩
  · rw [getN, h]; rfl
  · rw [getN, h, if_neg (by omega), Int.toNat_natCast, List.getElem?_eq_getElem hj, decide_eq_false (by omega)]; rfl
theorem get_le (x : Nd) (key : List UInt8) : nb ((getN x key).getD nd0) ≤ nb x := by
  have h0 : nb nd0 = 1 := rfl
  have hp := nb_pos x
  rcases at_cases x key with h | ⟨j, h, hj⟩
  · rw [getN, h]; show nb nd0 ≤ _; omega
  · rw [getN, h, if_neg (by omega), Int.toNat_natCast, List.getElem?_eq_getElem hj]
    have := nb_mem (x := x) (List.getElem_mem hj)
    show nb x.l[j] ≤ _; omega
theorem txt_len (x : Nd) (key : List UInt8) : (txt x key).length ≤ nb x := by
  have h := get_le x key
  unfold txt txtN
  cases hg : getN x key with
  | none => simp
  | some y =>
    rw [hg] at h
    have := nb_eq y
    simp only [Option.getD_some] at h
    by_cases h4 : y.kind = 4
    · simp [h4]; omega
    · simp [h4]
section
variable {c : Cx} {I : Im} {L : List Ent} {w : World}
set_option maxRecDepth 10000 in
set_option maxHeartbeats 4000000 in
theorem has_ok (x : Nd) (hm : nb x ≤ 100000000) (keys : List (List UInt8)) (hkl : keys.length ≤ 100000000) (a : Option Addr) (cc : Nat) (cs : List Value) {K : Value → World → Prop} (hr : RdN I cs x) (hrk : RdL I 1 RdS (.slice a keys.length cc) keys) (hs : St c I L w)
    (k : ∀ w', St c I L w' → K (.bool (hasG x keys)) w') : callW Tryd.prog 19 [.agg ⟨cs⟩, .slice a keys.length cc] K w := by
  obtain ⟨ak, ck, al, cl, rfl, hk, hl⟩ := hr.open
  refine fn_of good Tryd.func19 rfl rfl rfl ?_
  refine new hs ?_
  intro b3 w1 hs1
  have hs1 : St c I (.blk b3 (.cells ⟨[.int .i64 x.kind, .int .i64 x.n, .string (bs x.s), .slice ak x.k.length ck, .slice al x.l.length cl]⟩ 30) :: L) w1 := hs1
  refine ld 0 hs1 rfl rfl rfl ?_
  refine refGet_ok x hm [99, 111, 110, 116, 101, 110, 116] _ _ hr hs1 ?_
  intro ds w2 hs2 hds
  have hcn := get_le x [99, 111, 110, 116, 101, 110, 116]
  have hds : RdN I ds (contN x) := hds
  generalize hy : contN x = y at hds
  obtain ⟨ek, fk, el, fl, rfl, _, _⟩ := hds.open
  have hyn : nb y ≤ 100000000 := by rw [← hy]; unfold contN; omega
  refine new hs2 ?_
  intro b9 w3 hs3
  refine sto 0 hs3 rfl rfl rfl ?_
  intro w4 hs4
  have hs4 : St c I (.blk b9 (.cells ⟨[.int .i64 y.kind, .int .i64 y.n, .string (bs y.s), .slice ek y.k.length fk, .slice el y.l.length fl]⟩ 30) :: L) w4 := hs4.drop 1
  clear hs3 hs2 hs1 hs
  have hhas : hasG x keys = keys.all fun k => (getN y k).isSome := by rw [hasG, hy]
  refine loop [1, 5, 7] (fun (i : Nat) vs w' => vs = [.slice a keys.length cc, .pointer (some ⟨b9, 0, none⟩), .int .i64 i] ∧ St c I (.blk b9 (.cells ⟨[.int .i64 y.kind, .int .i64 y.n, .string (bs y.s), .slice ek y.k.length fk, .slice el y.l.length fl]⟩ 30) :: L) w' ∧ i ≤ keys.length ∧ ((keys.drop i).all fun k => (getN y k).isSome) = hasG x keys)
    (fun i => keys.length - i) 0 ⟨rfl, hs4, Nat.zero_le _, hhas.symm⟩ ?_
  clear hs4
  rintro Z i vs e w' hI hZ
  obtain ⟨rfl, hs2, hi, hf⟩ := hI
  refine cd (fun h => ?_) (fun h => ?_)
  · have h : (i : Int) < keys.length := h
    obtain ⟨ada, z, r, hada, hz, rfl, _, hca⟩ := hrk.at' i (by omega) h
    rw [Int.toNat_natCast] at hz
    have hd : keys.drop i = z :: keys.drop (i + 1) := by
      rw [List.drop_eq_getElem_cons (by omega)]
      congr 1
      exact (List.getElem?_eq_some_iff.1 hz).2
    rw [hd, List.all_cons] at hf
    refine draw good [.v (.agg ⟨[.int .i64 y.kind, .int .i64 y.n, .string (bs y.s), .slice ek y.k.length fk, .slice el y.l.length fl]⟩), .v (.slice a keys.length cc), .v (.int .i64 i), .v (.pointer (some (ada.add ((i : Int).toNat * 1)))), .v (.string (bs z)),
        .v (.int .i64 (atN y z)), .v (.bool (decide (atN y z < 0)))] no rfl (fun i j f hij hf => (allV rfl hf).elim)
      ⟨fun e w hc => ld 0 (hs2.nn hc) rfl rfl rfl ⟨Ch.refl _ _, rfl⟩, fun e w hc => ⟨Ch.refl _ _, rfl⟩, fun e w hc => ⟨Ch.refl _ _, rfl⟩, fun e w hc => idx hada (by omega) h ⟨Ch.refl _ _, rfl⟩, fun e w hc => ldc1 (hca w (hs2.nn hc).im 0 _ rfl) ⟨Ch.refl _ _, rfl⟩,
       fun e w hc => at_ok (c := ⟨Non, w, I⟩) (L := []) y hyn z _ _ hds (St.start (hs2.nn hc).im) (fun w' hs' => ⟨hs'.ch, rfl⟩), fun e w hc => ⟨Ch.refl _ _, rfl⟩, trivial⟩ ?_
    intro e w4 hc4
    have hs4 := hs2.ne hc4
    clear hs2
    refine cd (fun h2 => ?_) (fun h2 => ?_)
    · have h2 : atN y z < 0 := h2
      refine finB (k w4 (hs4.drop 0)) ?_
      rw [← hf, get_isSome, decide_eq_true h2]; rfl
    · have h2 : ¬ atN y z < 0 := h2
      refine hZ (i + 1) _ _ ⟨ce rfl (ce rfl (ce (vI (wAdd (a := i) (b := 1) (by omega))) rfl)), hs4, by omega, ?_⟩ (by omega)
      rw [← hf, get_isSome, decide_eq_false h2]; rfl
  · have h : ¬ (i : Int) < keys.length := h
    rw [List.drop_eq_nil_of_le (by omega)] at hf
    exact finB (k w' (hs2.drop 0)) hf
set_option maxHeartbeats 4000000 in
theorem passes_ok (f : Fl) (hfs : f.small 100000000) (x : Nd) (hm : nb x ≤ 100000000) (hg : Glo I) (hX : ∀ b, ¬ c.X b) (fs cs : List Value) {K : Value → World → Prop} (hrf : RdF I fs f) (hr : RdN I cs x) (hs : St c I L w)
    (k : ∀ J w', Le I J → St c J L w' → K (.bool (passG f x)) w') : callW Tryd.prog 20 [.agg ⟨fs⟩, .agg ⟨cs⟩] K w := by
  obtain ⟨ak, ck, al, cl, rfl, hk, hl⟩ := hr.open
  have hrf0 := hrf
  obtain ⟨a0, c0, a1, c1, a2, c2, a3, c3, a4, c4, rfl, r0, r1, r2, r3, r4⟩ := hrf
  refine fn_of good Tryd.func20 rfl rfl rfl ?_
  refine new hs ?_
  intro b1 w1 hs1
  refine new hs1 ?_
  intro b3 w2 hs2
  have hs2 : St c I (.blk b3 (.cells ⟨[.int .i64 x.kind, .int .i64 x.n, .string (bs x.s), .slice ak x.k.length ck, .slice al x.l.length cl]⟩ 30) :: .blk b1 (.cells ⟨[.slice a0 f.types.length c0, .slice a1 f.ntypes.length c1, .slice a2 f.senders.length c2, .slice a3 f.nsenders.length c3, .slice a4 f.keys.length c4, .int .i64 f.limit]⟩ 26) :: L) w2 := hs2
  refine ld 1 hs2 rfl rfl rfl ?_
  refine asks_ok f _ hrf0 hs2 ?_
  intro v J w3 hJ hs3 hra
  obtain ⟨aq, cq, rfl, _⟩ := hra.len
  clear hs2 hs1 hs
  refine loop [2, 3, 16, 17, 18] (fun (i : Nat) vs w' => ∃ J2, vs = [.pointer (some ⟨b1, 0, none⟩), .pointer (some ⟨b3, 0, none⟩), .slice aq 2 cq, .int .i64 2, .int .i64 i] ∧ Le J J2 ∧
      St c J2 (.blk b3 (.cells ⟨[.int .i64 x.kind, .int .i64 x.n, .string (bs x.s), .slice ak x.k.length ck, .slice al x.l.length cl]⟩ 30) :: .blk b1 (.cells ⟨[.slice a0 f.types.length c0, .slice a1 f.ntypes.length c1, .slice a2 f.senders.length c2, .slice a3 f.nsenders.length c3, .slice a4 f.keys.length c4, .int .i64 f.limit]⟩ 26) :: L) w' ∧ i ≤ 2 ∧ ((asksF f).drop i).all (askG x) = (asksF f).all (askG x)) (fun i => 2 - i) 0 ⟨J, rfl, Le.refl J, hs3, Nat.zero_le _, rfl⟩ ?_
  clear hs3
  rintro Z i vs e w' hI hZ
  obtain ⟨J2, rfl, hJ2, hs2, hi, hf⟩ := hI
  refine cd (fun h => ?_) (fun h => ?_)
  · have h : (i : Int) < 2 := h
    refine idr (hra.mono hJ2 fun _ _ _ h => h.up hJ2) hs2.im (by omega) h ?_
    rintro ad q r hq ⟨p1, p2, t1, f1, t2, f2, ay, cy, an, cn', rfl, hp1, hp2, ry, rn⟩ hrl hcell
    rw [Int.toNat_natCast] at hq
    have hd : (asksF f).drop i = q :: (asksF f).drop (i + 1) := by
      rw [List.drop_eq_getElem_cons (by show i < 2; omega)]
      congr 1
      exact (List.getElem?_eq_some_iff.1 hq).2
    rw [hd, List.all_cons] at hf
    have hqs : ksum q.2.1 ≤ 100000000 ∧ ksum q.2.2 ≤ 100000000 := by
      have := List.mem_of_getElem? hq
      simp only [asksF, List.mem_cons, List.mem_nil_iff, or_false] at this
      rcases this with rfl | rfl
      · exact ⟨hfs.1, hfs.2.1⟩
      · exact ⟨hfs.2.2.1, hfs.2.2.2.1⟩
    refine ldc hcell hrl ?_
    refine new hs2 ?_
    intro b6 w4 hs4
    refine sto 0 hs4 rfl rfl rfl ?_
    intro w5 hs5
    have hs5 : St c J2 (.blk b6 (.cells ⟨[.string (bs q.1), askV p1 p2]⟩ 101) :: .blk b3 (.cells ⟨[.int .i64 x.kind, .int .i64 x.n, .string (bs x.s), .slice ak x.k.length ck, .slice al x.l.length cl]⟩ 30) :: .blk b1 (.cells ⟨[.slice a0 f.types.length c0, .slice a1 f.ntypes.length c1, .slice a2 f.senders.length c2, .slice a3 f.nsenders.length c3, .slice a4 f.keys.length c4, .int .i64 f.limit]⟩ 26) :: L) w5 := hs5
    clear hs4 hs2
    refine ld 1 hs5 rfl rfl rfl ?_
    refine ld 0 hs5 rfl rfl rfl ?_
    refine text_ok x hm hX q.1 _ _ (hr.up (hJ.trans hJ2)) hs5 ?_
    intro J3 w6 hJ3 hs6
    refine ld 0 hs6 rfl rfl rfl ?_
    have htl := txt_len x q.1
    refine ask_ok q.2.1 q.2.2 (txt x q.1) ay an cy cn' p1 p2 t1 t2 f1 f2 (hg.le (hJ.trans (hJ2.trans hJ3))) hX hqs.1 hqs.2 (by omega) (ry.up hJ3) (rn.up hJ3) (hJ3 _ _ hp1) (hJ3 _ _ hp2) hs6 ?_
    intro J4 w7 hJ4 hs7
    cases hb : listsG q.2.1 q.2.2 (txt x q.1) with
    | false =>
      refine finB (k J4 w7 (hJ.trans (hJ2.trans (hJ3.trans hJ4))) (((hs7.drop 0).drop 0).drop 0)) ?_
      rw [passG, ← hf, askG, hb]; rfl
    | true =>
      refine hZ (i + 1) _ _ ⟨J4, ce rfl (ce rfl (ce rfl (ce rfl (ce (vI (wAdd (a := i) (b := 1) (by omega))) rfl)))), hJ2.trans (hJ3.trans hJ4), hs7.drop 0, by omega, ?_⟩ (by omega)
      rw [← hf, askG, hb]; rfl
  · have h : ¬ (i : Int) < 2 := h
    have hie : i = 2 := by omega
    subst hie
    have hf : true = (asksF f).all (askG x) := hf
    have hpass : passG f x = hasG x f.keys := by rw [passG, ← hf]; rfl
    rw [hpass] at k
    have hIJ := hJ.trans hJ2
    clear hZ
    refine ld 0 hs2 rfl rfl rfl ?_
    refine get_ok x hm hX [99, 111, 110, 116, 101, 110, 116] _ _ (hr.up hIJ) hs2 ?_
    intro ds J3 w3 hJ3 hs3 hds
    have hcn := get_le x [99, 111, 110, 116, 101, 110, 116]
    have hds : RdN J3 ds (contN x) := hds
    generalize hy : contN x = y at hds
    obtain ⟨ek, fk, el, fl, rfl, _, _⟩ := hds.open
    have hyn : nb y ≤ 100000000 := by rw [← hy]; unfold contN; omega
    refine new hs3 ?_
    intro b9 w4 hs4
    refine sto 0 hs4 rfl rfl rfl ?_
    intro w5 hs5
    refine ld 2 hs5 rfl rfl rfl ?_
    have hs5 : St c J3 (.blk b9 (.cells ⟨[.int .i64 y.kind, .int .i64 y.n, .string (bs y.s), .slice ek y.k.length fk, .slice el y.l.length fl]⟩ 30) :: L) w5 := (hs5.drop 1).drop 1
    clear hs4 hs3 hs2
    have hhas : hasG x f.keys = f.keys.all fun k => (getN y k).isSome := by rw [hasG, hy]
    have hkl : f.keys.length ≤ 100000000 := by have := ksum_len f.keys; have := hfs.2.2.2.2; omega
    have hIJ3 := hIJ.trans hJ3
    refine loop [9, 41, 42, 43] (fun (i : Nat) vs w' => ∃ J4, vs = [.pointer (some ⟨b9, 0, none⟩), .slice a4 f.keys.length c4, .int .i64 f.keys.length, .int .i64 i] ∧ Le J3 J4 ∧ St c J4 (.blk b9 (.cells ⟨[.int .i64 y.kind, .int .i64 y.n, .string (bs y.s), .slice ek y.k.length fk, .slice el y.l.length fl]⟩ 30) :: L) w' ∧ i ≤ f.keys.length ∧ ((f.keys.drop i).all fun k => (getN y k).isSome) = hasG x f.keys)
      (fun i => f.keys.length - i) 0 ⟨J3, rfl, Le.refl J3, hs5, Nat.zero_le _, hhas.symm⟩ ?_
    clear hs5
    rintro Z2 j vs e w' hI hZ
    obtain ⟨J4, rfl, hJ4, hs2, hi, hf⟩ := hI
    refine cd (fun h => ?_) (fun h => ?_)
    · have h : (j : Int) < f.keys.length := h
      refine idr (r4.up (hIJ3.trans hJ4)) hs2.im (by omega) h ?_
      rintro ad z r hz rfl - hcell
      rw [Int.toNat_natCast] at hz
      have hd : f.keys.drop j = z :: f.keys.drop (j + 1) := by
        rw [List.drop_eq_getElem_cons (by omega)]
        congr 1
        exact (List.getElem?_eq_some_iff.1 hz).2
      rw [hd, List.all_cons] at hf
      refine ldc1 (hcell 0 _ rfl) ?_
      refine ld 0 hs2 rfl rfl rfl ?_
      refine get_ok y hyn hX z _ _ (hds.up hJ4) hs2 ?_
      intro ds J5 w6 hJ5 hs6 hds6
      obtain ⟨gk, hk', gl, hl', rfl, _, _⟩ := hds6.open
      refine new hs6 ?_
      intro b13 w7 hs7
      refine sto 0 hs7 rfl rfl rfl ?_
      intro w8 hs8
      have hs8 : St c J5 (.blk b9 (.cells ⟨[.int .i64 y.kind, .int .i64 y.n, .string (bs y.s), .slice ek y.k.length fk, .slice el y.l.length fl]⟩ 30) :: L) w8 := hs8.drop 0
      cases hb : (getN y z).isSome with
      | false =>
        refine finB (k J5 w8 (hIJ3.trans (hJ4.trans hJ5)) (hs8.drop 0)) ?_
        rw [← hf, hb]; rfl
      | true =>
        refine hZ (j + 1) _ _ ⟨J5, ce rfl (ce rfl (ce rfl (ce (vI (wAdd (a := j) (b := 1) (by omega))) rfl))), hJ4.trans hJ5, hs8, by omega, ?_⟩ (by omega)
        rw [← hf, hb]; rfl
    · have h : ¬ (j : Int) < f.keys.length := h
      rw [List.drop_eq_nil_of_le (by omega)] at hf
      exact finB (k J4 w' (hIJ3.trans hJ4) (hs2.drop 0)) hf
end
end B
end Go.Proofs.YtdbihpobfcbmeaaDoor
