/- The statement's own function. -/
import Derived.Test.YtdbihpobfcbmeaaDoorP8
set_option linter.unusedVariables false
set_option linter.unusedSimpArgs false
namespace Go.Proofs.YtdbihpobfcbmeaaDoor
namespace B
open Go Go.RowKit

section
variable {c : Cx} {I : Im} {L : List Ent} {w : World}
theorem passes_is (f : Fl) (hfs : f.small 100000000) (x : Nd) (hm : nb x ≤ 100000000) (r : Bool) (hb : passG f x = r) (hg : Glo I) (hX : ∀ b, ¬ c.X b) (fs cs : List Value) {K : Value → World → Prop} (hrf : RdF I fs f) (hr : RdN I cs x) (hs : St c I L w)
    (k : ∀ J w', Le I J → St c J L w' → K (.bool r) w') : callW Tryd.prog 20 [.agg ⟨fs⟩, .agg ⟨cs⟩] K w :=
  passes_ok f hfs x hm hg hX fs cs hrf hr hs fun J w' h1 h2 => by rw [hb]; exact k J w' h1 h2
theorem lists_is (yes no : List (List UInt8)) (s : List UInt8) (r : Bool) (hb : listsG yes no s = r) (ay an : Option Addr) (cy cn' : Nat) {K : Value → World → Prop} (hy : ksum yes ≤ 100000000) (hn : ksum no ≤ 100000000) (hsl : s.length ≤ 100000000)
    (hry : RdL I 1 RdS (.slice ay yes.length cy) yes) (hrn : RdL I 1 RdS (.slice an no.length cn') no) (hs : St c I L w)
    (k : ∀ w', St c I L w' → K (.bool r) w') : callW Tryd.prog 18 [.slice ay yes.length cy, .slice an no.length cn', .string (bs s)] K w :=
  lists_ok yes no s ay an cy cn' hy hn hsl hry hrn hs fun w' h => by rw [hb]; exact k w' h
theorem has_is (x : Nd) (hm : nb x ≤ 100000000) (keys : List (List UInt8)) (r : Bool) (hb : hasG x keys = r) (hkl : keys.length ≤ 100000000) (a : Option Addr) (cc : Nat) (cs : List Value) {K : Value → World → Prop} (hr : RdN I cs x) (hrk : RdL I 1 RdS (.slice a keys.length cc) keys) (hs : St c I L w)
    (k : ∀ w', St c I L w' → K (.bool r) w') : callW Tryd.prog 19 [.agg ⟨cs⟩, .slice a keys.length cc] K w :=
  has_ok x hm keys hkl a cc cs hr hrk hs fun w' h => by rw [hb]; exact k w' h
theorem exact_same (x : Nd) (hm : nb x ≤ 100000000) (cs ds : List Value) {K : Value → World → Prop} (h1 : RdN I cs x) (h2 : RdN I ds x) (hs : St c I L w) (k : ∀ w', St c I L w' → K (.bool true) w') : callW Tryd.prog 22 [.agg ⟨cs⟩, .agg ⟨ds⟩] K w :=
  exact_ok 100000000 x x hm (Nat.le_refl _) c I L w cs ds K h1 h2 hs fun r w' h hs' => by rw [h.2 rfl]; exact k w' hs'
theorem small_of {f : Fl} (h : kss f.all ≤ 100000000) : f.small 100000000 := by
  simp only [Fl.all, kss] at h
  exact ⟨by omega, by omega, by omega, by omega, by omega⟩
set_option maxRecDepth 10000 in
set_option maxHeartbeats 8000000 in
theorem matchPicks_ok (f : Fl) (hf0 : kss f.all ≤ 10000000) (l : List Nd) (hll : l.length ≤ 10000000) (hlm : ∀ x ∈ l, nb x ≤ 10000000) (hg : Glo I) (hX : ∀ b, ¬ c.X b) (fs : List Value) (a : Option Addr) (cc : Nat) {K : Value → World → Prop} (hrf : RdF I fs f) (hr : RdL I 5 (RdN I) (.slice a l.length cc) l) (hs : St c I L w)
    (k : ∀ J w', Le I J → St c J L w' → K (.bool true) w') : callW Tryd.prog 4 [.agg ⟨fs⟩, .slice a l.length cc] K w := by
  have hfs := small_of (f := f) (by omega)
  have hrf0 := hrf
  obtain ⟨a0, c0, a1, c1, a2, c2, a3, c3, a4, c4, rfl, r0, r1, r2, r3, r4⟩ := hrf
  refine fn_of good Tryd.func4 rfl rfl rfl ?_
  refine new hs ?_
  intro b1 w1 hs1
  have hs1 : St c I (.blk b1 (.cells ⟨[.slice a0 f.types.length c0, .slice a1 f.ntypes.length c1, .slice a2 f.senders.length c2, .slice a3 f.nsenders.length c3, .slice a4 f.keys.length c4, .int .i64 f.limit]⟩ 26) :: L) w1 := hs1
  have live : ∀ {J : Im} {M : List Ent} {w : World} {K' : Value → World → Prop}, Le I J → St c J M w → (∀ J w', Le I J → St c J M w' → K' (.bool true) w') → callW Tryd.prog 12 [] K' w := by
    intro J M w K' hJ h k'
    exact lives52_ok (hg.le hJ) h hX fun J2 w2 h2 hs2 => k' J2 w2 (hJ.trans h2) hs2
  refine ld 0 hs1 rfl rfl rfl ?_
  refine fewF_ok f (by omega) hX _ hrf0 hs1 ?_
  intro J0 w2 hJ0 hs2
  clear hs1 hs
  cases hfew : fewF f with
  | false =>
    refine live hJ0 hs2 fun J w' hJ h => ?_
    exact k J w' hJ (h.drop 0)
  | true =>
  refine cd (fun h10 => ?_) (fun h10 => ?_)
  · refine live hJ0 hs2 fun J w' hJ h => ?_
    exact k J w' hJ (h.drop 0)
  have h10 : ¬ (10 : Int) < l.length := h10
  refine loop [1, 2, 5, 26, 27, 28] (fun (i : Nat) vs w' => ∃ J v cs out, vs = [.slice a l.length cc, .pointer (some ⟨b1, 0, none⟩), v, .slice a l.length cc, .int .i64 l.length, .int .i64 i] ∧ Le I J ∧
      St c J (.row v 30 5 out.length cs :: .blk b1 (.cells ⟨[.slice a0 f.types.length c0, .slice a1 f.ntypes.length c1, .slice a2 f.senders.length c2, .slice a3 f.nsenders.length c3, .slice a4 f.keys.length c4, .int .i64 f.limit]⟩ 26) :: L) w' ∧ RdC 5 (RdN J) cs out ∧ i ≤ l.length ∧ out.length ≤ i ∧ wn f (l.drop i) out = wn f l []) (fun i => l.length - i) 0 ⟨J0, _, _, [], rfl, hJ0, hs2.nil _ _, RdC.nil, Nat.zero_le _, Nat.zero_le _, rfl⟩ ?_
  clear hs2
  rintro Z i vs e w' hI hZ
  obtain ⟨J, v, cs, out, rfl, hJ, hs2, hc, hi, hol, hf⟩ := hI
  have hIJ := hJ
  have hown : ∃ av cv, v = .slice av out.length cv := by
    have : w'.ownsRow 0 30 5 v out.length cs := hs2.own (.row v 30 5 out.length cs) (by simp)
    rcases this.2 with ⟨h1, h2⟩ | ⟨g, cap, cur, h1, _⟩
    · exact ⟨none, 0, by rw [h1, h2]⟩
    · exact ⟨_, _, h1⟩
  obtain ⟨av, cv, rfl⟩ := hown
  refine cd (fun h => ?_) (fun h => ?_)
  · have h : (i : Int) < l.length := h
    refine idr (hr.mono hJ fun _ _ _ h => h.up hJ) hs2.im (by omega) h ?_
    rintro ad y r hy hyr hrl hcell
    rw [Int.toNat_natCast] at hy
    refine ldc hcell hrl ?_
    have hyr0 := hyr
    obtain ⟨ek, fk, el, fl, rfl, _, _⟩ := hyr.open
    have hd : l.drop i = y :: l.drop (i + 1) := by
      rw [List.drop_eq_getElem_cons (by omega)]
      congr 1
      exact (List.getElem?_eq_some_iff.1 hy).2
    rw [hd, wn] at hf
    have hym : nb y ≤ 100000000 := by have := hlm y (List.mem_of_getElem? hy); omega
    have hym' : nb y ≤ 10000000 := hlm y (List.mem_of_getElem? hy)
    refine new hs2 ?_
    intro b7 w4 hs4
    refine sto 0 hs4 rfl rfl rfl ?_
    intro w5 hs5
    have hs5 : St c J (.blk b7 (.cells ⟨[.int .i64 y.kind, .int .i64 y.n, .string (bs y.s), .slice ek y.k.length fk, .slice el y.l.length fl]⟩ 30) :: .row (.slice av out.length cv) 30 5 out.length cs :: .blk b1 (.cells ⟨[.slice a0 f.types.length c0, .slice a1 f.ntypes.length c1, .slice a2 f.senders.length c2, .slice a3 f.nsenders.length c3, .slice a4 f.keys.length c4, .int .i64 f.limit]⟩ 26) :: L) w5 := hs5
    clear hs4 hs2
    refine ld 0 hs5 rfl rfl rfl ?_
    refine few_ok y hym 100 c hX J _ w5 _ _ hyr0 hs5 ?_
    clear hs5
    intro J2 w6 hJ2 hs5
    cases hfn : fewN y 100 with
    | false =>
      refine live (hJ.trans hJ2) hs5 fun J w' hJ h => ?_
      exact k J w' hJ (((h.drop 0).drop 0).drop 0)
    | true =>
    have hc := hc.mono (fun r x _ (h : RdN J r x) => h.up hJ2)
    have hyr0 := hyr0.up hJ2
    have hJ := hJ.trans hJ2
    clear hyr
    refine ld 0 hs5 rfl rfl rfl ?_
    refine refText_ok y hym [116, 121, 112, 101] _ _ hyr0 hs5 ?_
    intro w6 hs6
    refine ld 0 hs6 rfl rfl rfl ?_
    refine refText_ok y hym [115, 101, 110, 100, 101, 114] _ _ hyr0 hs6 ?_
    intro w7 hs7
    refine cd (fun h300 => ?_) (fun h300 => ?_)
    · refine live hJ hs7 fun J w' hJ h => ?_
      exact k J w' hJ (((h.drop 0).drop 0).drop 0)
    have hIJ := hJ
    clear h300 hs6 hs5
    have ht1 := txt_len y [116, 121, 112, 101]
    have ht2 := txt_len y [115, 101, 110, 100, 101, 114]
    have hpg : passG f y = ((listsG f.types f.ntypes (txt y [116, 121, 112, 101]) && (listsG f.senders f.nsenders (txt y [115, 101, 110, 100, 101, 114]) && true)) && hasG y f.keys) := rfl
    refine ld 2 hs7 rfl rfl rfl ?_
    refine ld 2 hs7 rfl rfl rfl ?_
    cases h1 : listsG f.types f.ntypes (txt y [116, 121, 112, 101]) with
    | false =>
      have hp : passG f y = false := by rw [hpg, h1]; rfl
      refine lists_is f.types f.ntypes (txt y [116, 121, 112, 101]) false h1 a0 a1 c0 c1 hfs.1 hfs.2.1 (by omega) (r0.up hIJ) (r1.up hIJ) hs7 ?_
      intro w6 hs6
      refine ld 2 hs6 rfl rfl rfl ?_
      refine ld 0 hs6 rfl rfl rfl ?_
      refine passes_is f hfs y hym false hp (hg.le hIJ) hX _ _ (hrf0.up hIJ) (hyr0) hs6 ?_
      intro J3 w9 hJ3 hs9
      rw [if_neg (by rw [hp]; simp)] at hf
      exact hZ (i + 1) _ _ ⟨J3, _, cs, out, ce rfl (ce rfl (ce rfl (ce rfl (ce rfl (ce (vI (wAdd (a := i) (b := 1) (by omega))) rfl))))), hJ.trans hJ3, hs9.drop 0, hc.mono (fun _ _ _ h => h.up hJ3), by omega, by omega, hf⟩ (by omega)
    | true =>
      refine lists_is f.types f.ntypes (txt y [116, 121, 112, 101]) true h1 a0 a1 c0 c1 hfs.1 hfs.2.1 (by omega) (r0.up hIJ) (r1.up hIJ) hs7 ?_
      intro w8 hs8
      refine ld 2 hs8 rfl rfl rfl ?_
      refine ld 2 hs8 rfl rfl rfl ?_
      cases h2 : listsG f.senders f.nsenders (txt y [115, 101, 110, 100, 101, 114]) with
      | false =>
        have hp : passG f y = false := by rw [hpg, h1, h2]; rfl
        refine lists_is f.senders f.nsenders (txt y [115, 101, 110, 100, 101, 114]) false h2 a2 a3 c2 c3 hfs.2.2.1 hfs.2.2.2.1 (by omega) (r2.up hIJ) (r3.up hIJ) hs8 ?_
        intro w6 hs6
        refine ld 2 hs6 rfl rfl rfl ?_
        refine ld 0 hs6 rfl rfl rfl ?_
        refine passes_is f hfs y hym false hp (hg.le hIJ) hX _ _ (hrf0.up hIJ) (hyr0) hs6 ?_
        intro J3 w9 hJ3 hs9
        rw [if_neg (by rw [hp]; simp)] at hf
        exact hZ (i + 1) _ _ ⟨J3, _, cs, out, ce rfl (ce rfl (ce rfl (ce rfl (ce rfl (ce (vI (wAdd (a := i) (b := 1) (by omega))) rfl))))), hJ.trans hJ3, hs9.drop 0, hc.mono (fun _ _ _ h => h.up hJ3), by omega, by omega, hf⟩ (by omega)
      | true =>
        refine lists_is f.senders f.nsenders (txt y [115, 101, 110, 100, 101, 114]) true h2 a2 a3 c2 c3 hfs.2.2.1 hfs.2.2.2.1 (by omega) (r2.up hIJ) (r3.up hIJ) hs8 ?_
        intro w8b hs8b
        refine ld 0 hs8b rfl rfl rfl ?_
        refine ld 2 hs8b rfl rfl rfl ?_
        have hkl : f.keys.length ≤ 100000000 := by have := ksum_len f.keys; have := hfs.2.2.2.2; omega
        cases h3 : hasG y f.keys with
        | false =>
          have hp : passG f y = false := by rw [hpg, h1, h2, h3]; rfl
          refine has_is y hym f.keys false h3 hkl a4 c4 _ hyr0 (r4.up hIJ) hs8b ?_
          intro w6 hs6
          refine ld 2 hs6 rfl rfl rfl ?_
          refine ld 0 hs6 rfl rfl rfl ?_
          refine passes_is f hfs y hym false hp (hg.le hIJ) hX _ _ (hrf0.up hIJ) (hyr0) hs6 ?_
          intro J3 w9 hJ3 hs9
          rw [if_neg (by rw [hp]; simp)] at hf
          exact hZ (i + 1) _ _ ⟨J3, _, cs, out, ce rfl (ce rfl (ce rfl (ce rfl (ce rfl (ce (vI (wAdd (a := i) (b := 1) (by omega))) rfl))))), hJ.trans hJ3, hs9.drop 0, hc.mono (fun _ _ _ h => h.up hJ3), by omega, by omega, hf⟩ (by omega)
        | true =>
          have hp : passG f y = true := by rw [hpg, h1, h2, h3]; rfl
          refine has_is y hym f.keys true h3 hkl a4 c4 _ hyr0 (r4.up hIJ) hs8b ?_
          intro w6 hs6
          refine ld 2 hs6 rfl rfl rfl ?_
          refine ld 0 hs6 rfl rfl rfl ?_
          refine passes_is f hfs y hym true hp (hg.le hIJ) hX _ _ (hrf0.up hIJ) (hyr0) hs6 ?_
          intro J3 w9 hJ3 hs9
          refine ld 2 hs9 rfl rfl rfl ?_
          refine cd (fun g1 => ?_) (fun g1 => ?_)
          · have g1 : f.limit ≤ 0 := g1
            rw [if_pos ⟨hp, .inl g1⟩] at hf
            refine ld 0 hs9 rfl rfl rfl ?_
            refine new hs9 ?_
            intro b8 w10 hs10
            refine appb good 2 0 hs10 rfl rfl rfl rfl rfl rfl rfl rfl rfl (by omega) ?_
            intro v8 w11 hs11
            refine hZ (i + 1) _ _ ⟨J3, v8, _, out ++ [y], ce rfl (ce rfl (ce rfl (ce rfl (ce rfl (ce (vI (wAdd (a := i) (b := 1) (by omega))) rfl))))), hJ.trans hJ3, ?_, (hc.mono (fun _ _ _ h => h.up hJ3)).snoc rfl (hyr0.up hJ3), by omega, by simp only [List.length_append, List.length_singleton]; omega, hf⟩ (by omega)
            rw [List.length_append, List.length_singleton]
            exact (hs11.drop 0).drop 0
          · have g1 : ¬ f.limit ≤ 0 := g1
            refine ld 2 hs9 rfl rfl rfl ?_
            refine cd (fun g2 => ?_) (fun g2 => ?_)
            · have g2 : (out.length : Int) < f.limit := g2
              rw [if_pos ⟨hp, .inr g2⟩] at hf
              refine ld 0 hs9 rfl rfl rfl ?_
              refine new hs9 ?_
              intro b8 w10 hs10
              refine appb good 2 0 hs10 rfl rfl rfl rfl rfl rfl rfl rfl rfl (by omega) ?_
              intro v8 w11 hs11
              refine hZ (i + 1) _ _ ⟨J3, v8, _, out ++ [y], ce rfl (ce rfl (ce rfl (ce rfl (ce rfl (ce (vI (wAdd (a := i) (b := 1) (by omega))) rfl))))), hJ.trans hJ3, ?_, (hc.mono (fun _ _ _ h => h.up hJ3)).snoc rfl (hyr0.up hJ3), by omega, by simp only [List.length_append, List.length_singleton]; omega, hf⟩ (by omega)
              rw [List.length_append, List.length_singleton]
              exact (hs11.drop 0).drop 0
            · have g2 : ¬ (out.length : Int) < f.limit := g2
              rw [if_neg (by rintro ⟨_, h | h⟩; exact g1 h; exact g2 h)] at hf
              exact hZ (i + 1) _ _ ⟨J3, _, cs, out, ce rfl (ce rfl (ce rfl (ce rfl (ce rfl (ce (vI (wAdd (a := i) (b := 1) (by omega))) rfl))))), hJ.trans hJ3, hs9.drop 0, hc.mono (fun _ _ _ h => h.up hJ3), by omega, by omega, hf⟩ (by omega)
  · have h : ¬ (i : Int) < l.length := h
    rw [List.drop_eq_nil_of_le (by omega), wn] at hf
    have hpk : pk f l [] = out := by rw [hf, pk_wn f l [] (by simp; omega)]
    have hwn := wn_ok f l [] (by simp) (by simp; omega)
    rw [← hf] at hwn
    refine ld 1 hs2 rfl rfl rfl ?_
    refine pick_ok f hfs l (by omega) (fun x hx => by have := hlm x hx; omega) (hg.le hJ) hX _ a cc (hrf0.up hJ) (hr.mono hJ fun _ _ _ h => h.up hJ) hs2 ?_
    intro v2 J2 w3 hJ2 hs3 hgot
    rw [hpk] at hgot
    obtain ⟨ag, cg, rfl, _⟩ := hgot.len
    have hpk2 : pk f out [] = out := by rw [pk_same f out [] hwn.1 (by simpa using hwn.2.1)]; rfl
    refine ld 1 hs3 rfl rfl rfl ?_
    refine pick_ok f hfs out (by omega) (fun x hx => by rcases hwn.2.2 x hx with h | h; (· simp at h); (· have := hlm x h; omega)) (hg.le (hJ.trans hJ2)) hX _ ag cg (hrf0.up (hJ.trans hJ2)) hgot hs3 ?_
    intro v3 J3 w4 hJ3 hs4 hag
    rw [hpk2] at hag
    obtain ⟨aa, ca, rfl, _⟩ := hag.len
    obtain ⟨J4, hJ4, hs5, hwant⟩ := hs4.fixRow (i := 0) (xs := out) rfl hX (hc.mono fun _ _ _ h => h.up (hJ2.trans hJ3)) rfl
    have hs5 : St c J4 (.blk b1 (.cells ⟨[.slice a0 f.types.length c0, .slice a1 f.ntypes.length c1, .slice a2 f.senders.length c2, .slice a3 f.nsenders.length c3, .slice a4 f.keys.length c4, .int .i64 f.limit]⟩ 26) :: L) w4 := hs5
    have hwant := hwant.mono (Le.refl J4) fun r x _ h => RdN.up hJ4 h
    have hgot := hgot.mono (hJ3.trans hJ4) fun r x _ h => RdN.up (hJ3.trans hJ4) h
    have hag := hag.mono hJ4 fun r x _ h => RdN.up hJ4 h
    have hI4 := hJ.trans (hJ2.trans (hJ3.trans hJ4))
    clear hs4 hs3 hs2 hZ
    refine cn (fun h => absurd rfl h) (fun _ => ?_)
    refine cn (fun h => absurd rfl h) (fun _ => ?_)
    refine loop [13, 14, 114, 115, 116] (fun (q : Nat) vs w' => vs = [.slice ag out.length cg, .slice aa out.length ca, .slice av out.length cv, .int .i64 out.length, .int .i64 q] ∧ St c J4 (.blk b1 (.cells ⟨[.slice a0 f.types.length c0, .slice a1 f.ntypes.length c1, .slice a2 f.senders.length c2, .slice a3 f.nsenders.length c3, .slice a4 f.keys.length c4, .int .i64 f.limit]⟩ 26) :: L) w' ∧ q ≤ out.length) (fun q => out.length - q) 0 ⟨rfl, hs5, Nat.zero_le _⟩ ?_
    clear hs5
    rintro Z2 q vs e w' hI hZ
    obtain ⟨rfl, hs2, hq⟩ := hI
    refine cd (fun h => ?_) (fun h => ?_)
    · have h : (q : Int) < out.length := h
      refine idr hwant hs2.im (by omega) h ?_
      rintro ad y r hy hyr hrl hcell
      rw [Int.toNat_natCast] at hy
      refine ldc hcell hrl ?_
      have hyr0 := hyr
      obtain ⟨ek, fk, el, fl, rfl, _, _⟩ := hyr.open
      refine new hs2 ?_
      intro b7 w5 hs5
      refine sto 0 hs5 rfl rfl rfl ?_
      intro w6 hs6
      have hs6 : St c J4 (.blk b7 (.cells ⟨[.int .i64 y.kind, .int .i64 y.n, .string (bs y.s), .slice ek y.k.length fk, .slice el y.l.length fl]⟩ 30) :: .blk b1 (.cells ⟨[.slice a0 f.types.length c0, .slice a1 f.ntypes.length c1, .slice a2 f.senders.length c2, .slice a3 f.nsenders.length c3, .slice a4 f.keys.length c4, .int .i64 f.limit]⟩ 26) :: L) w6 := hs6
      clear hs5 hs2
      have hym : nb y ≤ 100000000 := by
        rcases hwn.2.2 y (List.mem_of_getElem? hy) with h | h
        · simp at h
        · have := hlm y h; omega
      obtain ⟨ad1, y1, r1', had1, hy1, hyr1, hrl1, hc1⟩ := hgot.at' q (by omega) h
      obtain ⟨ad2, y2, r2', had2, hy2, hyr2, hrl2, hc2⟩ := hag.at' q (by omega) h
      rw [Int.toNat_natCast, hy] at hy1 hy2
      cases hy1; cases hy2
      refine draw good [.v (.slice ag out.length cg), .v (.int .i64 q), .v (.pointer (some (ad1.add ((q : Int).toNat * 5)))), .v (.agg ⟨r1'⟩), .v (.agg ⟨[.int .i64 y.kind, .int .i64 y.n, .string (bs y.s), .slice ek y.k.length fk, .slice el y.l.length fl]⟩), .v (.bool true), .v (.bool false), .v (.bool false),
          .v (.slice aa out.length ca), .v (.int .i64 q), .v (.pointer (some (ad2.add ((q : Int).toNat * 5)))), .v (.agg ⟨r2'⟩), .v (.agg ⟨[.int .i64 y.kind, .int .i64 y.n, .string (bs y.s), .slice ek y.k.length fk, .slice el y.l.length fl]⟩), .v (.bool true), .v (.bool false), .v (.bool false)] no rfl (fun i j f hij hf => (allV rfl hf).elim)
        ⟨fun e w hc => ⟨Ch.refl _ _, rfl⟩, fun e w hc => ⟨Ch.refl _ _, rfl⟩, fun e w hc => idx had1 (by omega) h ⟨Ch.refl _ _, rfl⟩, fun e w hc => ldc (hc1 w (hs6.nn hc).im) hrl1 ⟨Ch.refl _ _, rfl⟩, fun e w hc => ld 0 (hs6.nn hc) rfl rfl rfl ⟨Ch.refl _ _, rfl⟩,
         fun e w hc => exact_same (c := ⟨Non, w, J4⟩) (L := []) y hym _ _ hyr1 hyr0 (St.start (hs6.nn hc).im) (fun w' hs' => ⟨hs'.ch, rfl⟩), fun e w hc => ⟨Ch.refl _ _, rfl⟩, fun e w hc => ⟨Ch.refl _ _, rfl⟩,
         fun e w hc => ⟨Ch.refl _ _, rfl⟩, fun e w hc => ⟨Ch.refl _ _, rfl⟩, fun e w hc => idx had2 (by omega) h ⟨Ch.refl _ _, rfl⟩, fun e w hc => ldc (hc2 w (hs6.nn hc).im) hrl2 ⟨Ch.refl _ _, rfl⟩, fun e w hc => ld 0 (hs6.nn hc) rfl rfl rfl ⟨Ch.refl _ _, rfl⟩,
         fun e w hc => exact_same (c := ⟨Non, w, J4⟩) (L := []) y hym _ _ hyr2 hyr0 (St.start (hs6.nn hc).im) (fun w' hs' => ⟨hs'.ch, rfl⟩), fun e w hc => ⟨Ch.refl _ _, rfl⟩, fun e w hc => ⟨Ch.refl _ _, rfl⟩, trivial⟩ ?_
      intro e w7 hc7
      exact hZ (q + 1) _ _ ⟨ce rfl (ce rfl (ce rfl (ce rfl (ce (vI (wAdd (a := q) (b := 1) (by omega))) rfl)))), (hs6.ne hc7).drop 0, by omega⟩ (by omega)
    · refine live hI4 hs2 fun J w' hJ h => ?_
      exact k J w' hJ (h.drop 0)
end
end B
end Go.Proofs.YtdbihpobfcbmeaaDoor
