/- The walks of what a filter picks, and of whether it is small. -/
import Derived.Test.YtdbihpobfcbmeaaDoorP6
set_option linter.unusedVariables false
set_option linter.unusedSimpArgs false
namespace Go.Proofs.YtdbihpobfcbmeaaDoor
namespace B
open Go Go.RowKit

/-- What is picked: behind what is picked already. -/
def pk (f : Fl) : List Nd → List Nd → List Nd
  | [], out => out
  | e :: r, out => if 0 < f.limit ∧ (out.length : Int) = f.limit then out else if passG f e = true then pk f r (out ++ [e]) else pk f r out
/-- What the statement wants. -/
def wn (f : Fl) : List Nd → List Nd → List Nd
  | [], out => out
  | e :: r, out => if passG f e = true ∧ (f.limit ≤ 0 ∨ (out.length : Int) < f.limit) then wn f r (out ++ [e]) else wn f r out
theorem wn_full (f : Fl) : ∀ (l out : List Nd), 0 < f.limit → (out.length : Int) = f.limit → wn f l out = out
  | [], _, _, _ => rfl
  | e :: r, out, h1, h2 => by
    rw [wn, if_neg (by rintro ⟨_, h | h⟩ <;> omega)]
    exact wn_full f r out h1 h2
theorem pk_wn (f : Fl) : ∀ (l out : List Nd), (0 < f.limit → (out.length : Int) ≤ f.limit) → pk f l out = wn f l out
  | [], _, _ => rfl
  | e :: r, out, h => by
    rw [pk]
    split
    · rename_i h2; exact (wn_full f (e :: r) out h2.1 h2.2).symm
    · rename_i h2
      rw [wn]
      by_cases hp : passG f e = true
      · rw [if_pos hp, if_pos ⟨hp, by by_cases h0 : 0 < f.limit; (· have := h h0; exact .inr (by have : ¬ (out.length : Int) = f.limit := fun e => h2 ⟨h0, e⟩; omega)); (· exact .inl (by omega))⟩]
        exact pk_wn f r (out ++ [e]) (fun h0 => by have := h h0; have : ¬ (out.length : Int) = f.limit := fun e => h2 ⟨h0, e⟩; simp only [List.length_append, List.length_singleton]; omega)
      · rw [if_neg hp, if_neg (fun h => hp h.1)]
        exact pk_wn f r out h
theorem wn_ok (f : Fl) : ∀ (l out : List Nd), (∀ x ∈ out, passG f x = true) → (0 < f.limit → (out.length : Int) ≤ f.limit) → (∀ x ∈ wn f l out, passG f x = true) ∧ (0 < f.limit → ((wn f l out).length : Int) ≤ f.limit) ∧ (∀ x ∈ wn f l out, x ∈ out ∨ x ∈ l)
  | [], out, h1, h2 => ⟨h1, h2, fun x h => .inl h⟩
  | e :: r, out, h1, h2 => by
    rw [wn]
    split
    · rename_i h
      obtain ⟨g1, g2, g3⟩ := wn_ok f r (out ++ [e]) (by intro x hx; rcases List.mem_append.1 hx with hx | hx; (· exact h1 x hx); (· simp at hx; subst hx; exact h.1)) (fun h0 => by
        have := h2 h0
        rcases h.2 with h | h
        · omega
        · simp only [List.length_append, List.length_singleton]; omega)
      refine ⟨g1, g2, fun x hx => ?_⟩
      rcases g3 x hx with hx | hx
      · rcases List.mem_append.1 hx with hx | hx
        · exact .inl hx
        · simp at hx; subst hx; exact .inr (by simp)
      · exact .inr (by simp [hx])
    · obtain ⟨g1, g2, g3⟩ := wn_ok f r out h1 h2
      exact ⟨g1, g2, fun x hx => (g3 x hx).imp id fun h => by simp [h]⟩
theorem pk_same (f : Fl) : ∀ (l out : List Nd), (∀ x ∈ l, passG f x = true) → (0 < f.limit → ((out ++ l).length : Int) ≤ f.limit) → pk f l out = out ++ l
  | [], out, _, _ => by simp [pk]
  | e :: r, out, h1, h2 => by
    rw [pk, if_neg (by
      rintro ⟨h3, h4⟩
      have := h2 h3
      simp only [List.length_append, List.length_cons] at this; omega), if_pos (h1 e (by simp)), pk_same f r (out ++ [e]) (fun x hx => h1 x (by simp [hx])) (fun h0 => by have := h2 h0; simpa using this)]
    simp
theorem pk_len (f : Fl) : ∀ (l out : List Nd), (pk f l out).length ≤ out.length + l.length
  | [], out => by simp [pk]
  | e :: r, out => by
    rw [pk]
    split
    · omega
    · split
      · have := pk_len f r (out ++ [e]); simp only [List.length_append, List.length_nil, List.length_cons] at this ⊢; omega
      · have := pk_len f r out; simp only [List.length_cons]; omega
section
variable {c : Cx} {I : Im} {L : List Ent} {w : World}
set_option maxHeartbeats 4000000 in
theorem pick_ok (f : Fl) (hfs : f.small 100000000) (l : List Nd) (hll : l.length ≤ 100000000) (hlm : ∀ x ∈ l, nb x ≤ 100000000) (hg : Glo I) (hX : ∀ b, ¬ c.X b) (fs : List Value) (a : Option Addr) (cc : Nat) {K : Value → World → Prop} (hrf : RdF I fs f) (hr : RdL I 5 (RdN I) (.slice a l.length cc) l) (hs : St c I L w)
    (k : ∀ v J w', Le I J → St c J L w' → RdL J 5 (RdN J) v (pk f l []) → K v w') : callW Tryd.prog 21 [.agg ⟨fs⟩, .slice a l.length cc] K w := by
  have hrf0 := hrf
  obtain ⟨a0, c0, a1, c1, a2, c2, a3, c3, a4, c4, rfl, r0, r1, r2, r3, r4⟩ := hrf
  refine fn_of good Tryd.func21 rfl rfl rfl ?_
  refine new hs ?_
  intro b1 w1 hs1
  have hs1 : St c I (.blk b1 (.cells ⟨[.slice a0 f.types.length c0, .slice a1 f.ntypes.length c1, .slice a2 f.senders.length c2, .slice a3 f.nsenders.length c3, .slice a4 f.keys.length c4, .int .i64 f.limit]⟩ 26) :: L) w1 := hs1
  refine loop [2, 5, 8, 9, 10] (fun (i : Nat) vs w' => ∃ J v cs out, vs = [.pointer (some ⟨b1, 0, none⟩), v, .slice a l.length cc, .int .i64 l.length, .int .i64 i] ∧ Le I J ∧
      St c J (.row v 30 5 out.length cs :: .blk b1 (.cells ⟨[.slice a0 f.types.length c0, .slice a1 f.ntypes.length c1, .slice a2 f.senders.length c2, .slice a3 f.nsenders.length c3, .slice a4 f.keys.length c4, .int .i64 f.limit]⟩ 26) :: L) w' ∧ RdC 5 (RdN J) cs out ∧ i ≤ l.length ∧ out.length ≤ i ∧ pk f (l.drop i) out = pk f l []) (fun i => l.length - i) 0 ⟨I, _, _, [], rfl, Le.refl I, hs1.nil _ _, RdC.nil, Nat.zero_le _, Nat.zero_le _, rfl⟩ ?_
  clear hs1 hs
  rintro Z i vs e w' hI hZ
  obtain ⟨J, v, cs, out, rfl, hJ, hs2, hc, hi, hol, hf⟩ := hI
  have stop : ∀ {w' : World}, St c J (.row v 30 5 out.length cs :: .blk b1 (.cells ⟨[.slice a0 f.types.length c0, .slice a1 f.ntypes.length c1, .slice a2 f.senders.length c2, .slice a3 f.nsenders.length c3, .slice a4 f.keys.length c4, .int .i64 f.limit]⟩ 26) :: L) w' → out = pk f l [] → K v w' := fun {w'} hs2 ho => by
    obtain ⟨J2, hJ2, hs3, hr3⟩ := hs2.fixRow (i := 0) (xs := out) rfl hX hc rfl
    refine k v J2 w' (hJ.trans hJ2) (hs3.drop 0) ?_
    rw [← ho]
    exact hr3.mono (Le.refl _) fun _ _ _ h => h.up hJ2
  have hown : ∃ av cv, v = .slice av out.length cv := by
    have : w'.ownsRow 0 30 5 v out.length cs := hs2.own (.row v 30 5 out.length cs) (by simp)
    rcases this.2 with ⟨h1, h2⟩ | ⟨g, cap, cur, h1, _⟩
    · exact ⟨none, 0, by rw [h1, h2]⟩
    · exact ⟨_, _, h1⟩
  obtain ⟨av, cv, rfl⟩ := hown
  refine cd (fun h => ?_) (fun h => ?_)
  · have h : (i : Int) < l.length := h
    refine idr (hr.mono hJ fun _ _ _ h => h.up hJ) hs2.im (by omega) h ?_
    rintro ad y r hy hyr hrl hcell
    rw [Int.toNat_natCast] at hy
    refine ldc hcell hrl ?_
    have hyr0 := hyr
    obtain ⟨ek, fk, el, fl, rfl, _, _⟩ := hyr.open
    have hd : l.drop i = y :: l.drop (i + 1) := by
      rw [List.drop_eq_getElem_cons (by omega)]
      congr 1
      exact (List.getElem?_eq_some_iff.1 hy).2
    rw [hd, pk] at hf
    have hym := hlm y (List.mem_of_getElem? hy)
    refine new hs2 ?_
    intro b7 w4 hs4
    refine sto 0 hs4 rfl rfl rfl ?_
    intro w5 hs5
    have hs5 : St c J (.blk b7 (.cells ⟨[.int .i64 y.kind, .int .i64 y.n, .string (bs y.s), .slice ek y.k.length fk, .slice el y.l.length fl]⟩ 30) :: .row (.slice av out.length cv) 30 5 out.length cs :: .blk b1 (.cells ⟨[.slice a0 f.types.length c0, .slice a1 f.ntypes.length c1, .slice a2 f.senders.length c2, .slice a3 f.nsenders.length c3, .slice a4 f.keys.length c4, .int .i64 f.limit]⟩ 26) :: L) w5 := hs5
    clear hs4 hs2
    refine ld 2 hs5 rfl rfl rfl ?_
    refine cd (fun h1 => ?_) (fun h1 => ?_)
    · have h1 : 0 < f.limit := h1
      refine ld 2 hs5 rfl rfl rfl ?_
      refine cd (fun h2 => ?_) (fun h2 => ?_)
      · have h2 : (out.length : Int) = f.limit := h2
        rw [if_pos ⟨h1, h2⟩] at hf
        exact stop (hs5.drop 0) hf
      · have h2 : ¬ (out.length : Int) = f.limit := h2
        rw [if_neg (fun h => h2 h.2)] at hf
        refine ld 2 hs5 rfl rfl rfl ?_
        refine ld 0 hs5 rfl rfl rfl ?_
        refine passes_ok f hfs y hym (hg.le hJ) hX _ _ (hrf0.up hJ) hyr0 hs5 ?_
        intro J2 w6 hJ2 hs6
        cases hb : passG f y with
        | false =>
          rw [hb, if_neg (by decide)] at hf
          exact hZ (i + 1) _ _ ⟨J2, _, cs, out, ce rfl (ce rfl (ce rfl (ce rfl (ce (vI (wAdd (a := i) (b := 1) (by omega))) rfl)))), hJ.trans hJ2, hs6.drop 0, hc.mono (fun _ _ _ h => h.up hJ2), by omega, by omega, hf⟩ (by omega)
        | true =>
          rw [hb, if_pos rfl] at hf
          refine ld 0 hs6 rfl rfl rfl ?_
          refine new hs6 ?_
          intro b8 w7 hs7
          refine appb good 2 0 hs7 rfl rfl rfl rfl rfl rfl rfl rfl rfl (by omega) ?_
          intro v8 w8 hs8
          refine hZ (i + 1) _ _ ⟨J2, v8, _, out ++ [y], ce rfl (ce rfl (ce rfl (ce rfl (ce (vI (wAdd (a := i) (b := 1) (by omega))) rfl)))), hJ.trans hJ2, ?_, (hc.mono (fun _ _ _ h => h.up hJ2)).snoc rfl (hyr0.up hJ2), by omega, by simp only [List.length_append, List.length_singleton]; omega, hf⟩ (by omega)
          rw [List.length_append, List.length_singleton]
          exact (hs8.drop 0).drop 0
    · have h1 : ¬ 0 < f.limit := h1
      rw [if_neg (fun h => h1 h.1)] at hf
      refine ld 2 hs5 rfl rfl rfl ?_
      refine ld 0 hs5 rfl rfl rfl ?_
      refine passes_ok f hfs y hym (hg.le hJ) hX _ _ (hrf0.up hJ) hyr0 hs5 ?_
      intro J2 w6 hJ2 hs6
      cases hb : passG f y with
      | false =>
        rw [hb, if_neg (by decide)] at hf
        exact hZ (i + 1) _ _ ⟨J2, _, cs, out, ce rfl (ce rfl (ce rfl (ce rfl (ce (vI (wAdd (a := i) (b := 1) (by omega))) rfl)))), hJ.trans hJ2, hs6.drop 0, hc.mono (fun _ _ _ h => h.up hJ2), by omega, by omega, hf⟩ (by omega)
      | true =>
        rw [hb, if_pos rfl] at hf
        refine ld 0 hs6 rfl rfl rfl ?_
        refine new hs6 ?_
        intro b8 w7 hs7
        refine appb good 2 0 hs7 rfl rfl rfl rfl rfl rfl rfl rfl rfl (by omega) ?_
        intro v8 w8 hs8
        refine hZ (i + 1) _ _ ⟨J2, v8, _, out ++ [y], ce rfl (ce rfl (ce rfl (ce rfl (ce (vI (wAdd (a := i) (b := 1) (by omega))) rfl)))), hJ.trans hJ2, ?_, (hc.mono (fun _ _ _ h => h.up hJ2)).snoc rfl (hyr0.up hJ2), by omega, by simp only [List.length_append, List.length_singleton]; omega, hf⟩ (by omega)
        rw [List.length_append, List.length_singleton]
        exact (hs8.drop 0).drop 0
  · have h : ¬ (i : Int) < l.length := h
    rw [List.drop_eq_nil_of_le (by omega)] at hf
    exact stop hs2 hf
end
end B
end Go.Proofs.YtdbihpobfcbmeaaDoor
