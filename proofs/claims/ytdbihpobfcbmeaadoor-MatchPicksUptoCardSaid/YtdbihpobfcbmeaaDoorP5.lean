/- The walks of the program's filter. -/
import Derived.Test.YtdbihpobfcbmeaaDoorP4
set_option linter.unusedVariables false
set_option linter.unusedSimpArgs false
namespace Go.Proofs.YtdbihpobfcbmeaaDoor
namespace B
open Go Go.RowKit

/-- One question: a field's name, what may be there, what may not. -/
def RdAsk (J : Im) (r : List Value) (x : List UInt8 × List (List UInt8) × List (List UInt8)) : Prop := ∃ b1 b2 t1 f1 t2 f2 ay cy an cn, r = [.string (bs x.1), askV b1 b2] ∧
  J b1 = some (.cells ⟨[.slice ay x.2.1.length cy]⟩ t1 f1) ∧ J b2 = some (.cells ⟨[.slice an x.2.2.length cn]⟩ t2 f2) ∧ RdL J 1 RdS (.slice ay x.2.1.length cy) x.2.1 ∧ RdL J 1 RdS (.slice an x.2.2.length cn) x.2.2
theorem RdAsk.up {I J : Im} (hl : Le I J) {r : List Value} {x : List UInt8 × List (List UInt8) × List (List UInt8)} (h : RdAsk I r x) : RdAsk J r x := by
  obtain ⟨b1, b2, t1, f1, t2, f2, ay, cy, an, cn, h1, h2, h3, h4, h5⟩ := h
  exact ⟨b1, b2, t1, f1, t2, f2, ay, cy, an, cn, h1, hl _ _ h2, hl _ _ h3, h4.up hl, h5.up hl⟩
def asksF (f : Fl) : List (List UInt8 × List (List UInt8) × List (List UInt8)) := [([116, 121, 112, 101], f.types, f.ntypes), ([115, 101, 110, 100, 101, 114], f.senders, f.nsenders)]
theorem keep {w w' : World} {b : Nat} {o : Obj} (hc : Ch Non w w') (h : w.heap[b]? = some o) : w'.heap[b]? = some o := (hc.block _ (Array.getElem?_eq_some_iff.1 h).1 (fun h => h)).trans h
section
variable {c : Cx} {I : Im} {L : List Ent} {w : World}
theorem St.addAt {w0 : World} (h0 : St c I L w0) {J : Im} (hs : St c J L w) {b : Nat} {o : Obj} (hb : w.heap[b]? = some o) (hge : w0.heap.size ≤ b) : ∃ J' : Im, Le J J' ∧ St c J' L w ∧ J' b = some o :=
  hs.addIm hb (Nat.le_trans h0.ch.size hge) fun x hx hf => by have := Ent.foot_lt (h0.own x hx) hf; omega
set_option maxRecDepth 10000 in
set_option maxHeartbeats 4000000 in
theorem asks_ok (f : Fl) (cs : List Value) {K : Value → World → Prop} (hf : RdF I cs f) (hs : St c I L w)
    (k : ∀ v J w', Le I J → St c J L w' → RdL J 2 (RdAsk J) v (asksF f) → K v w') : callW Tryd.prog 69 [.agg ⟨cs⟩] K w := by
  obtain ⟨a0, c0, a1, c1, a2, c2, a3, c3, a4, c4, rfl, r0, r1, r2, r3, r4⟩ := hf
  refine fn_of good Tryd.func69 rfl rfl rfl ?_
  refine new hs ?_
  intro b1 w1 hs1
  have hs1 : St c I (.blk b1 (.cells ⟨[.slice a0 f.types.length c0, .slice a1 f.ntypes.length c1, .slice a2 f.senders.length c2, .slice a3 f.nsenders.length c3, .slice a4 f.keys.length c4, .int .i64 f.limit]⟩ 26) :: L) w1 := hs1
  refine draw good [.v (.func (.func 121) #[] #[]),
      .v (.pointer (some ⟨b1, 0, none⟩)),
      .v (.slice a0 f.types.length c0),
      .v (.pointer (some ⟨b1, 1, none⟩)),
      .v (.slice a1 f.ntypes.length c1),
      .s (fun u w => ∃ p q, u = askV p q ∧ w.heap[p]? = some (.cells ⟨[.slice a0 f.types.length c0]⟩ 24 (0, 0)) ∧ w.heap[q]? = some (.cells ⟨[.slice a1 f.ntypes.length c1]⟩ 24 (0, 0)) ∧ w1.heap.size ≤ p ∧ w1.heap.size ≤ q),
      .s (fun u w => ∃ p q, u = .agg ⟨[.string (bs [116, 121, 112, 101]), askV p q]⟩ ∧ w.heap[p]? = some (.cells ⟨[.slice a0 f.types.length c0]⟩ 24 (0, 0)) ∧ w.heap[q]? = some (.cells ⟨[.slice a1 f.ntypes.length c1]⟩ 24 (0, 0)) ∧ w1.heap.size ≤ p ∧ w1.heap.size ≤ q),
      .v (.func (.func 121) #[] #[]),
      .v (.pointer (some ⟨b1, 2, none⟩)),
      .v (.slice a2 f.senders.length c2),
      .v (.pointer (some ⟨b1, 3, none⟩)),
      .v (.slice a3 f.nsenders.length c3),
      .s (fun u w => ∃ p q, u = askV p q ∧ w.heap[p]? = some (.cells ⟨[.slice a2 f.senders.length c2]⟩ 24 (0, 0)) ∧ w.heap[q]? = some (.cells ⟨[.slice a3 f.nsenders.length c3]⟩ 24 (0, 0)) ∧ w1.heap.size ≤ p ∧ w1.heap.size ≤ q),
      .s (fun u w => ∃ p q, u = .agg ⟨[.string (bs [115, 101, 110, 100, 101, 114]), askV p q]⟩ ∧ w.heap[p]? = some (.cells ⟨[.slice a2 f.senders.length c2]⟩ 24 (0, 0)) ∧ w.heap[q]? = some (.cells ⟨[.slice a3 f.nsenders.length c3]⟩ 24 (0, 0)) ∧ w1.heap.size ≤ p ∧ w1.heap.size ≤ q),
      .s (fun u w => ∃ bb p q p2 q2, u = .slice (some ⟨bb, 0, none⟩) 2 2 ∧ w.heap[bb]? = some (.cells ⟨[.string (bs [116, 121, 112, 101]), askV p q, .string (bs [115, 101, 110, 100, 101, 114]), askV p2 q2]⟩ 101 (0, 0)) ∧ w1.heap.size ≤ bb ∧ (w.heap[p]? = some (.cells ⟨[.slice a0 f.types.length c0]⟩ 24 (0, 0)) ∧ w.heap[q]? = some (.cells ⟨[.slice a1 f.ntypes.length c1]⟩ 24 (0, 0)) ∧ w1.heap.size ≤ p ∧ w1.heap.size ≤ q) ∧ w.heap[p2]? = some (.cells ⟨[.slice a2 f.senders.length c2]⟩ 24 (0, 0)) ∧ w.heap[q2]? = some (.cells ⟨[.slice a3 f.nsenders.length c3]⟩ 24 (0, 0)) ∧ w1.heap.size ≤ p2 ∧ w1.heap.size ≤ q2),
      .s (fun u w => ∃ bb p q p2 q2, u = .slice (some ⟨bb, 0, none⟩) 2 2 ∧ w.heap[bb]? = some (.cells ⟨[.string (bs [116, 121, 112, 101]), askV p q, .string (bs [115, 101, 110, 100, 101, 114]), askV p2 q2]⟩ 101 (0, 0)) ∧ w1.heap.size ≤ bb ∧ (w.heap[p]? = some (.cells ⟨[.slice a0 f.types.length c0]⟩ 24 (0, 0)) ∧ w.heap[q]? = some (.cells ⟨[.slice a1 f.ntypes.length c1]⟩ 24 (0, 0)) ∧ w1.heap.size ≤ p ∧ w1.heap.size ≤ q) ∧ w.heap[p2]? = some (.cells ⟨[.slice a2 f.senders.length c2]⟩ 24 (0, 0)) ∧ w.heap[q2]? = some (.cells ⟨[.slice a3 f.nsenders.length c3]⟩ 24 (0, 0)) ∧ w1.heap.size ≤ p2 ∧ w1.heap.size ≤ q2)]
      no rfl (stabN ⟨fun u w w2 ⟨p, q, e, h1, h2, l⟩ hc => ⟨p, q, e, keep hc h1, keep hc h2, l⟩, fun u w w2 ⟨p, q, e, h1, h2, l⟩ hc => ⟨p, q, e, keep hc h1, keep hc h2, l⟩, fun u w w2 ⟨p, q, e, h1, h2, l⟩ hc => ⟨p, q, e, keep hc h1, keep hc h2, l⟩, fun u w w2 ⟨p, q, e, h1, h2, l⟩ hc => ⟨p, q, e, keep hc h1, keep hc h2, l⟩, fun u w w2 ⟨bb, p, q, p2, q2, e, h, l, ⟨h1, h2, m⟩, g1, g2, n⟩ hc => ⟨bb, p, q, p2, q2, e, keep hc h, l, ⟨keep hc h1, keep hc h2, m⟩, keep hc g1, keep hc g2, n⟩, fun u w w2 ⟨bb, p, q, p2, q2, e, h, l, ⟨h1, h2, m⟩, g1, g2, n⟩ hc => ⟨bb, p, q, p2, q2, e, keep hc h, l, ⟨keep hc h1, keep hc h2, m⟩, keep hc g1, keep hc g2, n⟩, trivial⟩) ⟨fun e w hc => ⟨Ch.refl _ _, rfl⟩,
        fun e w hc => ⟨Ch.refl _ _, rfl⟩,
        fun e w hc => ld 0 (hs1.nn hc) rfl rfl rfl ⟨Ch.refl _ _, rfl⟩,
        fun e w hc => ⟨Ch.refl _ _, rfl⟩,
        fun e w hc => ld 0 (hs1.nn hc) rfl rfl rfl ⟨Ch.refl _ _, rfl⟩,
        fun e w hc => mkAsk_ok _ _ trivial rfl rfl (fun p q w2 hc2 h1 h2 l1 l2 => ⟨hc2.non, p, q, rfl, h1, h2, Nat.le_trans hc.size l1, Nat.le_trans hc.size l2⟩),
        (by rintro e w hc u ⟨p, q, rfl, h⟩; exact ⟨Ch.refl _ _, p, q, rfl, h⟩),
        fun e w hc => ⟨Ch.refl _ _, rfl⟩,
        fun e w hc => ⟨Ch.refl _ _, rfl⟩,
        fun e w hc => ld 0 (hs1.nn hc) rfl rfl rfl ⟨Ch.refl _ _, rfl⟩,
        fun e w hc => ⟨Ch.refl _ _, rfl⟩,
        fun e w hc => ld 0 (hs1.nn hc) rfl rfl rfl ⟨Ch.refl _ _, rfl⟩,
        fun e w hc u _ => mkAsk_ok _ _ trivial rfl rfl (fun p q w2 hc2 h1 h2 l1 l2 => ⟨hc2.non, p, q, rfl, h1, h2, Nat.le_trans hc.size l1, Nat.le_trans hc.size l2⟩),
        (by rintro e w hc u ⟨p, q, rfl, h⟩ u5 -; exact ⟨Ch.refl _ _, p, q, rfl, h⟩),
        (by
          rintro e w hc u ⟨p2, q2, rfl, g1, g2, l1, l2⟩ u12 - u6 ⟨p, q, rfl, h1, h2, k1, k2⟩ u5 -
          refine newR ?_
          intro bb w2 gb cb lb
          have up : ∀ {b : Nat} {o : Obj}, w.heap[b]? = some o → w2.heap[b]? = some o := fun h => (cb.block _ (Array.getElem?_eq_some_iff.1 h).1 (fun h => h)).trans h
          exact ⟨cb.non, bb, p, q, p2, q2, rfl, gb, Nat.le_trans hc.size lb, ⟨up h1, up h2, k1, k2⟩, up g1, up g2, l1, l2⟩),
        (by rintro e w hc u ⟨bb, p, q, p2, q2, rfl, h⟩ u13 - u12 - u6 - u5 -; exact ⟨Ch.refl _ _, bb, p, q, p2, q2, rfl, h⟩),
        trivial⟩ ?_
  rintro e w4 hc4 u ⟨bb, p, q, p2, q2, rfl, hb, lb, ⟨h1, h2, l1, l2⟩, g1, g2, m1, m2⟩ u14 - u13 - u12 - u6 - u5 -
  have hs4 := hs1.ne hc4
  obtain ⟨J1, e1, s1, i1⟩ := St.addAt hs1 hs4 h1 l1
  obtain ⟨J2, e2, s2, i2⟩ := St.addAt hs1 s1 h2 l2
  obtain ⟨J3, e3, s3, i3⟩ := St.addAt hs1 s2 g1 m1
  obtain ⟨J4, e4, s4, i4⟩ := St.addAt hs1 s3 g2 m2
  obtain ⟨J5, e5, s5, i5⟩ := St.addAt hs1 s4 hb lb
  have hI : Le I J5 := e1.trans (e2.trans (e3.trans (e4.trans e5)))
  refine k _ J5 w4 hI (s5.drop 0) ?_
  refine RdL.lit (xs := asksF f) i5 ⟨rfl, fun j x hj => ?_⟩ 2 (Nat.le_refl 2)
  match j, hj with
  | 0, hj =>
    cases hj
    exact ⟨p, q, _, _, _, _, a0, c0, a1, c1, rfl, e5 _ _ (e4 _ _ (e3 _ _ (e2 _ _ i1))), e5 _ _ (e4 _ _ (e3 _ _ i2)), r0.up hI, r1.up hI⟩
  | 1, hj =>
    cases hj
    exact ⟨p2, q2, _, _, _, _, a2, c2, a3, c3, rfl, e5 _ _ (e4 _ _ i3), e5 _ _ i4, r2.up hI, r3.up hI⟩
  | j + 2, hj => simp [asksF] at hj
end
end B
end Go.Proofs.YtdbihpobfcbmeaaDoor
