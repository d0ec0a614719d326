/- The walks of what finds a text under a key, and of whether two trees are the same. -/
import Derived.Test.YtdbihpobfcbmeaaDoorN3
set_option linter.unusedVariables false
set_option linter.unusedSimpArgs false
namespace Go.Proofs.YtdbihpobfcbmeaaDoor
namespace B
open Go Go.RowKit

/-- One entry of a map: a key and the value's cells. -/
def RdE (I : Im) (cs : List Value) (e : List UInt8 × Nd) : Prop := ∃ r, cs = .string (bs e.1) :: r ∧ RdN I r e.2
theorem RdE.up {I J : Im} (hl : Le I J) {cs : List Value} {e : List UInt8 × Nd} (h : RdE I cs e) : RdE J cs e := by
  obtain ⟨r, h1, h2⟩ := h
  exact ⟨r, h1, h2.up hl⟩
section
variable {c : Cx} {I : Im} {L : List Ent} {w : World}
theorem txt_none {x : Nd} {key : List UInt8} (h : getN x key = none) : txtN x key = none := by rw [txtN, h]
theorem txt_some {x y : Nd} {key : List UInt8} (h : getN x key = some y) (h4 : y.kind = 4) : txtN x key = some y.s := by rw [txtN, h]; simp [h4]
theorem txt_else {x y : Nd} {key : List UInt8} (h : getN x key = some y) (h4 : ¬ y.kind = 4) : txtN x key = none := by rw [txtN, h]; simp [h4]
set_option maxHeartbeats 2000000 in
theorem refText_ok (x : Nd) (hm : nb x ≤ 100000000) (key : List UInt8) (cs : List Value) (K : Value → World → Prop) (hr : RdN I cs x) (hs : St c I L w)
    (k : ∀ w', St c I L w' → K (.tuple #[.string (bs ((txtN x key).getD [])), .bool (txtN x key).isSome]) w') : callW Tryd.prog 17 [.agg ⟨cs⟩, .string (bs key)] K w := by
  obtain ⟨ak, ck, al, cl, rfl, hk, hl⟩ := hr.open
  refine fn_of good Tryd.func17 rfl rfl rfl ?_
  refine new hs ?_
  intro b w1 hs1
  have hs1 : St c I (.blk b (.cells ⟨[.int .i64 x.kind, .int .i64 x.n, .string (bs x.s), .slice ak x.k.length ck, .slice al x.l.length cl]⟩ 30) :: L) w1 := hs1
  refine ld 0 hs1 rfl rfl rfl ?_
  refine refGet_ok x hm key _ _ hr hs1 ?_
  intro ds w2 hs2 hds
  cases hg : getN x key with
  | none =>
    rw [hg] at hds
    rw [txt_none hg] at k
    obtain ⟨bk, dk, bl, dl, rfl, hyk, hyl⟩ := hds.open
    refine new hs2 ?_
    intro b6 w3 hs3
    refine sto 0 hs3 rfl rfl rfl ?_
    intro w4 hs4
    exact k w4 ((hs4.drop 0).drop 0)
  | some y =>
    rw [hg] at hds
    obtain ⟨bk, dk, bl, dl, rfl, hyk, hyl⟩ := hds.open
    refine new hs2 ?_
    intro b6 w3 hs3
    refine sto 0 hs3 rfl rfl rfl ?_
    intro w4 hs4
    refine ld 0 hs4 rfl rfl rfl ?_
    refine cn (fun h => ?_) (fun h => ?_)
    · have h : ¬ y.kind = 4 := h
      rw [txt_else hg h] at k
      exact k w4 ((hs4.drop 0).drop 0)
    · have h : y.kind = 4 := h
      rw [txt_some hg h] at k
      refine ld 0 hs4 rfl rfl rfl ?_
      exact k w4 ((hs4.drop 0).drop 0)
end
section
theorem nd_ext {a b : Nd} (h1 : a.kind = b.kind) (h2 : a.n = b.n) (h3 : a.s = b.s) (h4 : a.k = b.k) (h5 : a.l = b.l) : a = b := by
  cases a; cases b; simp_all [Nd.kind, Nd.n, Nd.s, Nd.k, Nd.l]
theorem take_ext {α : Type} {l m : List α} {i : Nat} {x : α} (h : l.take i = m.take i) (hl : l[i]? = some x) (hm : m[i]? = some x) : l.take (i + 1) = m.take (i + 1) := by
  rw [List.take_add_one, List.take_add_one, h, hl, hm]
set_option maxRecDepth 10000 in
set_option maxHeartbeats 4000000 in
theorem exact_ok : ∀ (m : Nat) (a b : Nd), nb a ≤ m → m ≤ 100000000 → ∀ (c : Cx) (I : Im) (L : List Ent) (w : World) (cs ds : List Value) (K : Value → World → Prop), RdN I cs a → RdN I ds b → St c I L w →
    (∀ r w', (r = true ↔ a = b) → St c I L w' → K (.bool r) w') → callW Tryd.prog 22 [.agg ⟨cs⟩, .agg ⟨ds⟩] K w := by
  intro m
  induction m with
  | zero => intro x y hx; have := nb_pos x; omega
  | succ m ih =>
    intro a b hx hm c I L w cs ds K hra hrb hs k
    obtain ⟨ak, ck, al, cl, rfl, hak, hal⟩ := hra.open
    obtain ⟨bk, dk, bl, dl, rfl, hbk, hbl⟩ := hrb.open
    have hkb : a.k.length ≤ 100000000 := by have := ksum_len a.k; have := nb_eq a; omega
    have hlb : a.l.length ≤ 100000000 := by have := len_nbs a.l; have := nb_eq a; omega
    have no_ : ∀ {w}, St c I L w → ¬ a = b → K (.bool false) w := fun {w} hs h => k false w (by simp [h]) hs
    refine fn_of good Tryd.func22 rfl rfl rfl ?_
    refine new hs ?_
    intro b2 w1 hs1
    refine new hs1 ?_
    intro b3 w2 hs2
    have hs2 : St c I (.blk b3 (.cells ⟨[.int .i64 b.kind, .int .i64 b.n, .string (bs b.s), .slice bk b.k.length dk, .slice bl b.l.length dl]⟩ 30) :: .blk b2 (.cells ⟨[.int .i64 a.kind, .int .i64 a.n, .string (bs a.s), .slice ak a.k.length ck, .slice al a.l.length cl]⟩ 30) :: L) w2 := hs2
    have out : ∀ {w}, St c I (.blk b3 (.cells ⟨[.int .i64 b.kind, .int .i64 b.n, .string (bs b.s), .slice bk b.k.length dk, .slice bl b.l.length dl]⟩ 30) :: .blk b2 (.cells ⟨[.int .i64 a.kind, .int .i64 a.n, .string (bs a.s), .slice ak a.k.length ck, .slice al a.l.length cl]⟩ 30) :: L) w → St c I L w := fun h => (h.drop 0).drop 0
    refine ld 1 hs2 rfl rfl rfl ?_
    refine ld 0 hs2 rfl rfl rfl ?_
    refine cn (fun h1 => no_ (out hs2) fun e => h1 (by rw [e])) (fun h1 => ?_)
    refine ld 1 hs2 rfl rfl rfl ?_
    refine ld 0 hs2 rfl rfl rfl ?_
    refine cn (fun h2 => no_ (out hs2) fun e => h2 (by rw [e])) (fun h2 => ?_)
    refine ld 1 hs2 rfl rfl rfl ?_
    refine ld 0 hs2 rfl rfl rfl ?_
    refine cn (fun h3 => no_ (out hs2) fun e => h3 (by rw [e])) (fun h3 => ?_)
    refine ld 1 hs2 rfl rfl rfl ?_
    refine ld 0 hs2 rfl rfl rfl ?_
    refine cn (fun h4 => no_ (out hs2) fun e => h4 (by rw [e])) (fun h4 => ?_)
    refine ld 1 hs2 rfl rfl rfl ?_
    refine ld 0 hs2 rfl rfl rfl ?_
    refine cn (fun h5 => no_ (out hs2) fun e => h5 (by rw [e])) (fun h5 => ?_)
    have h4 : (a.k.length : Int) = b.k.length := h4
    have h5 : (a.l.length : Int) = b.l.length := h5
    refine loop [2, 3, 5] (fun (i : Nat) vs w' => vs = [.pointer (some ⟨b2, 0, none⟩), .pointer (some ⟨b3, 0, none⟩), .int .i64 i] ∧ St c I (.blk b3 (.cells ⟨[.int .i64 b.kind, .int .i64 b.n, .string (bs b.s), .slice bk b.k.length dk, .slice bl b.l.length dl]⟩ 30) :: .blk b2 (.cells ⟨[.int .i64 a.kind, .int .i64 a.n, .string (bs a.s), .slice ak a.k.length ck, .slice al a.l.length cl]⟩ 30) :: L) w' ∧ i ≤ a.k.length ∧ a.k.take i = b.k.take i)
      (fun i => a.k.length - i) 0 ⟨rfl, hs2, Nat.zero_le _, rfl⟩ ?_
    clear hs2 hs1 hs
    rintro Z i vs e w' hI hZ
    obtain ⟨rfl, hs2, hi, ht⟩ := hI
    refine ld 1 hs2 rfl rfl rfl ?_
    refine cd (fun h => ?_) (fun h => ?_)
    · have h : (i : Int) < a.k.length := h
      obtain ⟨ada, x, r, rfl, hxa, rfl, _, hca⟩ := hak.at' i (by omega) h
      obtain ⟨adb, y, r, rfl, hyb, rfl, _, hcb⟩ := hbk.at' i (by omega) (by omega)
      rw [Int.toNat_natCast] at hxa hyb
      refine draw good [.v (.pointer (some ⟨b2, 3, none⟩)), .v (.slice (some ada) a.k.length ck), .v (.int .i64 i), .v (.pointer (some (ada.add ((i : Int).toNat * 1)))), .v (.string (bs x)),
          .v (.pointer (some ⟨b3, 3, none⟩)), .v (.slice (some adb) b.k.length dk), .v (.int .i64 i), .v (.pointer (some (adb.add ((i : Int).toNat * 1)))), .v (.string (bs y)), .v (.bool (!decide (x = y)))]
        no rfl (fun i j f hij hf => (allV rfl hf).elim)
        ⟨fun e w hc => ⟨Ch.refl _ _, rfl⟩, fun e w hc => ld 1 (hs2.nn hc) rfl rfl rfl ⟨Ch.refl _ _, rfl⟩, fun e w hc => ⟨Ch.refl _ _, rfl⟩, fun e w hc => idx rfl (by omega) h ⟨Ch.refl _ _, rfl⟩, fun e w hc => ldc1 (hca w (hs2.nn hc).im 0 _ rfl) ⟨Ch.refl _ _, rfl⟩,
         fun e w hc => ⟨Ch.refl _ _, rfl⟩, fun e w hc => ld 0 (hs2.nn hc) rfl rfl rfl ⟨Ch.refl _ _, rfl⟩, fun e w hc => ⟨Ch.refl _ _, rfl⟩, fun e w hc => idx rfl (by omega) (by omega) ⟨Ch.refl _ _, rfl⟩, fun e w hc => ldc1 (hcb w (hs2.nn hc).im 0 _ rfl) ⟨Ch.refl _ _, rfl⟩, fun e w hc => ⟨Ch.refl _ _, rfl⟩, trivial⟩ ?_
      intro e w4 hc4
      have hs4 := hs2.ne hc4
      clear hs2
      refine cn (fun h6 => ?_) (fun h6 => ?_)
      · refine no_ (out hs4) fun e => h6 ?_
        rw [e] at hxa
        exact Option.some.inj (hxa.symm.trans hyb)
      · refine hZ (i + 1) _ _ ⟨ce rfl (ce rfl (ce (vI (wAdd (a := i) (b := 1) (by omega))) rfl)), hs4, by omega, take_ext ht hxa (by rw [hyb, h6])⟩ (by omega)
    · have h : ¬ (i : Int) < a.k.length := h
      have hke : a.k = b.k := by
        rw [List.take_of_length_le (by omega), List.take_of_length_le (by omega)] at ht
        exact ht
      clear ht hZ
      refine loop [2, 3, 6] (fun (i : Nat) vs w' => vs = [.pointer (some ⟨b2, 0, none⟩), .pointer (some ⟨b3, 0, none⟩), .int .i64 i] ∧ St c I (.blk b3 (.cells ⟨[.int .i64 b.kind, .int .i64 b.n, .string (bs b.s), .slice bk b.k.length dk, .slice bl b.l.length dl]⟩ 30) :: .blk b2 (.cells ⟨[.int .i64 a.kind, .int .i64 a.n, .string (bs a.s), .slice ak a.k.length ck, .slice al a.l.length cl]⟩ 30) :: L) w' ∧ i ≤ a.l.length ∧ a.l.take i = b.l.take i)
        (fun i => a.l.length - i) 0 ⟨rfl, hs2, Nat.zero_le _, rfl⟩ ?_
      clear hs2 h hi
      rintro Z2 j vs e w' hI hZ
      obtain ⟨rfl, hs2, hi, ht⟩ := hI
      refine ld 1 hs2 rfl rfl rfl ?_
      refine cd (fun h => ?_) (fun h => ?_)
      · have h : (j : Int) < a.l.length := h
        obtain ⟨ada, x, r, rfl, hxa, hrx, hrxl, hca⟩ := hal.at' j (by omega) h
        obtain ⟨adb, y, r2, rfl, hyb, hry, hryl, hcb⟩ := hbl.at' j (by omega) (by omega)
        rw [Int.toNat_natCast] at hxa hyb
        have hxm : nb x < nb a := nb_mem (List.mem_of_getElem? hxa)
        refine draw good [.v (.pointer (some ⟨b2, 4, none⟩)), .v (.slice (some ada) a.l.length cl), .v (.int .i64 j), .v (.pointer (some (ada.add ((j : Int).toNat * 5)))), .v (.agg ⟨r⟩),
            .v (.pointer (some ⟨b3, 4, none⟩)), .v (.slice (some adb) b.l.length dl), .v (.int .i64 j), .v (.pointer (some (adb.add ((j : Int).toNat * 5)))), .v (.agg ⟨r2⟩),
            .s (fun u _ => ∃ t : Bool, u = .bool t ∧ (t = true ↔ x = y)), .s (fun u _ => ∃ t : Bool, u = .bool (!t) ∧ (t = true ↔ x = y))]
          no rfl (stabN ⟨fun _ _ _ h _ => h, fun _ _ _ h _ => h, trivial⟩)
          ⟨fun e w hc => ⟨Ch.refl _ _, rfl⟩, fun e w hc => ld 1 (hs2.nn hc) rfl rfl rfl ⟨Ch.refl _ _, rfl⟩, fun e w hc => ⟨Ch.refl _ _, rfl⟩, fun e w hc => idx rfl (by omega) h ⟨Ch.refl _ _, rfl⟩, fun e w hc => ldc (hca w (hs2.nn hc).im) hrxl ⟨Ch.refl _ _, rfl⟩,
           fun e w hc => ⟨Ch.refl _ _, rfl⟩, fun e w hc => ld 0 (hs2.nn hc) rfl rfl rfl ⟨Ch.refl _ _, rfl⟩, fun e w hc => ⟨Ch.refl _ _, rfl⟩, fun e w hc => idx rfl (by omega) (by omega) ⟨Ch.refl _ _, rfl⟩, fun e w hc => ldc (hcb w (hs2.nn hc).im) hryl ⟨Ch.refl _ _, rfl⟩,
           fun e w hc => ih x y (by omega) (by omega) ⟨Non, w, I⟩ I [] w r r2 _ hrx hry (St.start (hs2.nn hc).im) (fun t w' ht hs' => ⟨hs'.ch, t, rfl, ht⟩),
           (by rintro e w hc u ⟨t, rfl, ht⟩; exact ⟨Ch.refl _ _, t, rfl, ht⟩), trivial⟩ ?_
        rintro e w4 hc4 u ⟨t, rfl, hte⟩ u10 -
        have hs4 := hs2.ne hc4
        clear hs2
        cases t with
        | false =>
          refine no_ (out hs4) fun e => ?_
          rw [e] at hxa
          have : x = y := Option.some.inj (hxa.symm.trans hyb)
          have := hte.2 this
          cases this
        | true =>
          have hxy : x = y := hte.1 rfl
          exact hZ (j + 1) _ _ ⟨ce rfl (ce rfl (ce (vI (wAdd (a := j) (b := 1) (by omega))) rfl)), hs4, by omega, take_ext ht hxa (by rw [hyb, hxy])⟩ (by omega)
      · have h : ¬ (j : Int) < a.l.length := h
        have hle : a.l = b.l := by
          rw [List.take_of_length_le (by omega), List.take_of_length_le (by omega)] at ht
          exact ht
        exact k true w' (by simp; exact nd_ext h1 h2 h3 hke hle) (out hs2)
end
end B
end Go.Proofs.YtdbihpobfcbmeaaDoor
