/- The walks of the program's own way to a map's entries. -/
import Derived.Test.YtdbihpobfcbmeaaDoorN4
set_option linter.unusedVariables false
set_option linter.unusedSimpArgs false
namespace Go.Proofs.YtdbihpobfcbmeaaDoor
namespace B
open Go Go.RowKit

theorem ownsRow_ch {w w' : World} {v : Value} {e sz n : Nat} {cs : List Value} {X : Nat → Prop} (h : w.ownsRow 0 e sz v n cs) (hc : Ch X w w') (hX : ∀ b, some b = v.ownBlock → ¬ X b) : w'.ownsRow 0 e sz v n cs :=
  Ent.holds_ch (x := .row v e sz n cs) h hc hX
theorem ownBlock_lt {w : World} {v : Value} {e sz n : Nat} {cs : List Value} (h : w.ownsRow 0 e sz v n cs) {b : Nat} (hb : some b = v.ownBlock) : b < w.heap.size := Ent.foot_lt (x := .row v e sz n cs) h hb
theorem ones6 {k s : ByteArray} {a b : Int} {v w : Value} {h1 : v.oneCell' = true} {h2 : w.oneCell' = true} {u : Value} (hu : u ∈ [.string k, .int .i64 a, .int .i64 b, .string s, v, w]) : u.oneCell' = true := by
  simp only [List.mem_cons, List.mem_nil_iff, or_false] at hu
  rcases hu with rfl | rfl | rfl | rfl | rfl | rfl <;> first | rfl | assumption
theorem zip_take {α β : Type} {l : List α} {m : List β} {i : Nat} {x : α} {y : β} (hl : l[i]? = some x) (hm : m[i]? = some y) : (l.zip m).take (i + 1) = (l.zip m).take i ++ [(x, y)] := by
  rw [List.take_add_one]
  congr 1
  rw [(List.getElem?_zip_eq_some (z := (x, y))).2 ⟨hl, hm⟩]; rfl
section
variable {c : Cx} {I : Im} {L : List Ent} {w : World}
set_option maxRecDepth 10000 in
set_option maxHeartbeats 4000000 in
theorem entries_ok (x : Nd) (hm : nb x ≤ 100000000) (hX : ∀ b, ¬ c.X b) (cs : List Value) (K : Value → World → Prop) (hr : RdN I cs x) (hs : St c I L w)
    (k : ∀ v J w', Le I J → St c J L w' → RdL J 6 (RdE J) v (x.k.zip x.l) → K v w') : callW Tryd.prog 124 [.agg ⟨cs⟩] K w := by
  obtain ⟨ak, ck, al, cl, rfl, hak, hal⟩ := hr.open
  have hkb : x.k.length ≤ 100000000 := by have := ksum_len x.k; have := nb_eq x; omega
  have hlb : x.l.length ≤ 100000000 := by have := len_nbs x.l; have := nb_eq x; omega
  refine fn_of good Tryd.func124 rfl rfl rfl ?_
  refine new hs ?_
  intro b w1 hs1
  have hs1 : St c I (.blk b (.cells ⟨[.int .i64 x.kind, .int .i64 x.n, .string (bs x.s), .slice ak x.k.length ck, .slice al x.l.length cl]⟩ 30) :: L) w1 := hs1
  refine ld 0 hs1 rfl rfl rfl ?_
  refine ld 0 hs1 rfl rfl rfl ?_
  have hzl : (x.k.zip x.l).length = min x.k.length x.l.length := List.length_zip
  have hN : (if (x.l.length : Int) < (x.k.length : Int) then (x.l.length : Int) else x.k.length) = ((x.k.zip x.l).length : Nat) := by rw [hzl]; split <;> omega
  refine loop [1, 3, 11, 12] (fun (i : Nat) vs w' => ∃ v cs, vs = [.pointer (some ⟨b, 0, none⟩), v, .int .i64 ((x.k.zip x.l).length : Nat), .int .i64 i] ∧ i ≤ (x.k.zip x.l).length ∧
    St c I (.row v 154 6 i cs :: .blk b (.cells ⟨[.int .i64 x.kind, .int .i64 x.n, .string (bs x.s), .slice ak x.k.length ck, .slice al x.l.length cl]⟩ 30) :: L) w' ∧ RdC 6 (RdE I) cs ((x.k.zip x.l).take i)) (fun i => (x.k.zip x.l).length - i) 0 ⟨_, _, ce rfl (ce rfl (ce (vI hN) rfl)), Nat.zero_le _, hs1.nil _ _, RdC.nil⟩ ?_
  clear hs1 hs
  rintro Z i vs e w' hI hZ
  obtain ⟨v, cs, rfl, hi, hs2, hc⟩ := hI
  refine cd (fun h => ?_) (fun h => ?_)
  · have h : (i : Int) < ((x.k.zip x.l).length : Nat) := h
    obtain ⟨ada, key, r, hada, hxa, rfl, _, hca⟩ := hak.at' i (by omega) (by omega)
    obtain ⟨adb, y, r, hadb, hyb, hyr, hyrl, hcb⟩ := hal.at' i (by omega) (by omega)
    obtain ⟨bk, dk, bl, dl, rfl, _, _⟩ := hyr.open
    rw [Int.toNat_natCast] at hxa hyb
    have hown : w'.ownsRow 0 154 6 v i cs := hs2.own (.row v 154 6 i cs) (by simp)
    have hcl := hc.1
    have hvl : ∀ b, some b = v.ownBlock → b < w'.heap.size := fun b hb => ownBlock_lt hown hb
    have nn : ∀ w {k : Nat}, Ch (fun b => ∃ j, j ≠ k ∧ (j = 13 ∧ some b = v.ownBlock)) w' w → St c I (.blk b (.cells ⟨[.int .i64 x.kind, .int .i64 x.n, .string (bs x.s), .slice ak x.k.length ck, .slice al x.l.length cl]⟩ 30) :: L) w := fun w k hc2 => by
      exact hs2.loose (hc2.mono fun b _ ⟨j, _, _, h⟩ => h)
    refine drawP good [.v v,
        .v (.pointer (some ⟨b, 3, none⟩)),
        .v (.slice ak x.k.length ck),
        .v (.int .i64 i),
        .v (.pointer (some (ada.add ((i : Int).toNat * 1)))),
        .v (.string (bs key)),
        .v (.pointer (some ⟨b, 4, none⟩)),
        .v (.slice al x.l.length cl),
        .v (.int .i64 i),
        .v (.pointer (some (adb.add ((i : Int).toNat * 5)))),
        .v (.agg ⟨[.int .i64 y.kind, .int .i64 y.n, .string (bs y.s), .slice bk y.k.length dk, .slice bl y.l.length dl]⟩),
        .v (.agg ⟨[.string (bs key), .int .i64 y.kind, .int .i64 y.n, .string (bs y.s), .slice bk y.k.length dk, .slice bl y.l.length dl]⟩),
        .s (fun u w => ∃ bb, u = .slice (some ⟨bb, 0, none⟩) 1 1 ∧ w.heap[bb]? = some (.cells ⟨[.string (bs key), .int .i64 y.kind, .int .i64 y.n, .string (bs y.s), .slice bk y.k.length dk, .slice bl y.l.length dl]⟩ 154 (0, 0)) ∧ w'.heap.size ≤ bb),
        .s (fun u w => w.ownsRow 0 154 6 u (i + 1) (cs ++ [.string (bs key), .int .i64 y.kind, .int .i64 y.n, .string (bs y.s), .slice bk y.k.length dk, .slice bl y.l.length dl]) ∧ ∀ b, some b = u.ownBlock → some b = v.ownBlock ∨ w'.heap.size ≤ b),
        .s (fun u w => w.ownsRow 0 154 6 u (i + 1) (cs ++ [.string (bs key), .int .i64 y.kind, .int .i64 y.n, .string (bs y.s), .slice bk y.k.length dk, .slice bl y.l.length dl]) ∧ ∀ b, some b = u.ownBlock → some b = v.ownBlock ∨ w'.heap.size ≤ b)]
      (fun j b => j = 13 ∧ some b = v.ownBlock) rfl (fun i' j f hij hp hf u w w2 hu hc2 => ?_) ⟨fun e w hc => ⟨Ch.refl _ _, rfl⟩,
        fun e w hc => ⟨Ch.refl _ _, rfl⟩,
        fun e w hc => ld 0 (nn w hc) rfl rfl rfl ⟨Ch.refl _ _, rfl⟩,
        fun e w hc => ⟨Ch.refl _ _, rfl⟩,
        fun e w hc => idx hada (by omega) (by omega) ⟨Ch.refl _ _, rfl⟩,
        fun e w hc => ldc1 (hca w (nn w hc).im 0 _ rfl) ⟨Ch.refl _ _, rfl⟩,
        fun e w hc => ⟨Ch.refl _ _, rfl⟩,
        fun e w hc => ld 0 (nn w hc) rfl rfl rfl ⟨Ch.refl _ _, rfl⟩,
        fun e w hc => ⟨Ch.refl _ _, rfl⟩,
        fun e w hc => idx hadb (by omega) (by omega) ⟨Ch.refl _ _, rfl⟩,
        fun e w hc => ldc (hcb w (nn w hc).im) rfl ⟨Ch.refl _ _, rfl⟩,
        fun e w hc => ⟨Ch.refl _ _, rfl⟩,
        fun e w hc => newR fun b3 w3 hb3 hc3 hl3 => ⟨hc3.non, b3, rfl, hb3, Nat.le_trans hc.size (by omega)⟩,
        (by
          rintro e w hc u ⟨bb, rfl, hbb, hlt⟩
          have ho2 := ownsRow_ch hown hc (fun b hb ⟨j, hj, hj2, _⟩ => hj hj2)
          refine appw good (m := 1) ho2 (cells_of (off := 0) (n := 6) hbb rfl) rfl rfl rfl rfl rfl rfl (by intro u hu; exact ones6 (h1 := rfl) (h2 := rfl) hu) (by omega) ?_
          intro v2 w2 h2 h3 h4
          exact ⟨h2.mono fun _ _ h => ⟨rfl, h⟩, h3, fun b hb => (h4 b hb).imp id fun h => Nat.le_trans hc.size h⟩),
        (by rintro e w hc u ⟨h2, h3⟩ u12 -; exact ⟨Ch.refl _ _, h2, h3⟩),
        trivial⟩ ?_
    · have nn2 : i' ≠ 13 → Ch Non w w2 := fun h => hc2.mono fun _ _ hx => absurd hx.1 h
      have hm : (0 + j, f) ∈ factsS 0 _ := memS hf
      simp only [factsS, List.mem_cons, List.mem_nil_iff, or_false, Prod.mk.injEq] at hm
      rcases hm with ⟨hj, rfl⟩ | ⟨hj, rfl⟩ | ⟨hj, rfl⟩
      · obtain ⟨bb, h1, h2, h3⟩ := hu
        refine ⟨bb, h1, (hc2.block bb (Array.getElem?_eq_some_iff.1 h2).1 fun hx => ?_).trans h2, h3⟩
        have := hvl bb hx.2; omega
      · exact ⟨ownsRow_ch hu.1 (nn2 (by omega)) (fun _ _ h => h), hu.2⟩
      · by_cases h13 : i' = 13
        · exfalso
          obtain rfl : j = 14 := by omega
          subst h13
          exact absurd (show true = false from hp) Bool.noConfusion
        · exact ⟨ownsRow_ch hu.1 (nn2 h13) (fun _ _ h => h), hu.2⟩
    · rintro e w4 hc4 u ⟨ho4, hf4⟩ u13 - u12 -
      have hs4 := hs2.upd (i := 0) rfl (hc4.mono fun b _ ⟨_, _, h⟩ => h) (x' := .row u 154 6 (i + 1) (cs ++ [.string (bs key), .int .i64 y.kind, .int .i64 y.n, .string (bs y.s), .slice bk y.k.length dk, .slice bl y.l.length dl])) ho4 (fun b hb => hf4 b hb)
      refine hZ (i + 1) _ _ ⟨u, _, ce rfl (ce rfl (ce rfl (ce (vI (wAdd (a := i) (b := 1) (by omega))) rfl))), by omega, hs4, ?_⟩ (by omega)
      rw [zip_take hxa hyb]
      exact hc.snoc rfl ⟨_, rfl, hyr⟩
  · have h : ¬ (i : Int) < ((x.k.zip x.l).length : Nat) := h
    have hie : i = (x.k.zip x.l).length := by omega
    rw [hie, List.take_length] at hc
    obtain ⟨J2, hJ2, hs3, hr3⟩ := hs2.fixRow (i := 0) (xs := x.k.zip x.l) rfl hX hc hie
    refine k v J2 w' hJ2 (hs3.drop 0) ?_
    exact hr3.mono (Le.refl _) fun _ _ _ h => h.up hJ2
end
end B
end Go.Proofs.YtdbihpobfcbmeaaDoor
