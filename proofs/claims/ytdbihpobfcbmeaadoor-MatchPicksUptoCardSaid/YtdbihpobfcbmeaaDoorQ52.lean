/- The walk of the program's own pattern. -/
import Derived.Test.YtdbihpobfcbmeaaDoorP52
set_option linter.unusedVariables false
set_option linter.unusedSimpArgs false
namespace Go.Proofs.YtdbihpobfcbmeaaDoor
namespace B
open Go Go.RowKit

section
variable {c : Cx} {I : Im} {L : List Ent} {w : World}
set_option maxHeartbeats 2000000 in
theorem glob_ok (p s : List UInt8) {K : Value → World → Prop} (hg : Glo I) (hs : St c I L w) (hX : ∀ b, ¬ c.X b) (hp : p.length ≤ 100000000) (hl : s.length ≤ 100000000)
    (k : ∀ J w', Le I J → St c J L w' → K (.bool (globF p s)) w') : callW Tryd.prog 13 [.string (bs p), .string (bs s)] K w := by
  refine fn_of good Tryd.func13 rfl rfl rfl ?_
  refine split_ok (c := c) (I := I) (L := L) p 42 hg hs hX (by omega) ?_
  intro v J w1 hJ hs1 hr
  obtain ⟨a, cc, rfl, hcc⟩ := hr.len
  have hn0 : 1 ≤ (sp 42 p).length := by rw [sp_len]; omega
  have hn1 : (sp 42 p).length ≤ 100000001 := by rw [sp_len]; have := List.count_le_length (a := (42 : UInt8)) (l := p); omega
  refine cd (fun h => ?_) (fun h => ?_)
  · have h1 : (sp 42 p).length = 1 := by have h : ((sp 42 p).length : Int) = 1 := h; omega
    refine finB (k J w1 hJ hs1) ?_
    rw [globF_one p s h1]
    rfl
  · have h1 : (sp 42 p).length ≠ 1 := by have h : ¬ ((sp 42 p).length : Int) = 1 := h; omega
    have hgl := hg.le hJ
    refine idr hr hs1.im (by decide) (by show (0 : Int) < ((sp 42 p).length : Int); omega) ?_
    rintro ad x r hx rfl - hcell
    refine ldc1 (hcell 0 _ rfl) ?_
    have hx0 : (sp 42 p)[0]? = some x := hx
    have hd : IntKind.i64.wrap (((sp 42 p).length : Int) - 1) = (((sp 42 p).length - 1 : Nat) : Int) := wSub (a := (sp 42 p).length) (b := 1) (by omega) (by omega)
    refine cutPrefix_ok s x _ _ ?_
    have hF := globF_more p s x hx0 h1
    have hcut := hr.cut (l := 1) (u := (sp 42 p).length - 1) (m := cc) (by omega) (by omega) (by omega) (Nat.le_refl _)
    generalize hs0 : (if x.isPrefixOf s = true then s.drop x.length else s) = s0
    generalize hb : x.isPrefixOf s = b at hF ⊢
    have hs0l : s0.length ≤ 100000000 := by rw [← hs0]; split <;> first | exact hl | (simp only [List.length_drop]; omega)
    have hF : globF p s = (b && gr ((sp 42 p).drop 1) s0) := by
      rw [hF]; subst hs0; rw [hb]; cases b <;> rfl
    generalize hN : (sp 42 p).length = N at *
    refine req ⟨by decide, by show (1:Int) ≤ IntKind.i64.wrap ((N : Int) - 1); omega, by show IntKind.i64.wrap ((N : Int) - 1) ≤ (cc : Int); omega, Int.le_refl _, fun h => by cases h⟩ ?_
    refine loop [1, 5, 6, 7, 32, 33, 34] (fun (st : Nat × List UInt8) vs w' => vs = [.string (bs st.2), .slice a N cc, .int .i64 (IntKind.i64.wrap ((N : Int) - 1)), .bool b,
      .slice (cutA a 1 cc 1) ((IntKind.i64.wrap ((N : Int) - 1)).toNat - 1) (cc - 1), .int .i64 (((IntKind.i64.wrap ((N : Int) - 1)).toNat - 1 : Nat) : Int), .int .i64 st.1] ∧ w' = w1 ∧ st.1 + 1 < N ∧ st.2.length ≤ 100000000 ∧
      (b = true → gr ((sp 42 p).drop (st.1 + 1)) st.2 = gr ((sp 42 p).drop 1) s0)) (fun st => N - st.1) (0, s0) ⟨rfl, rfl, by show 0 + 1 < N; omega, hs0l, fun _ => rfl⟩ ?_
    rintro Z ⟨j, r⟩ vs e w' hI hZ
    dsimp only at hI hZ
    obtain ⟨rfl, rfl, hj, hrl, hinv⟩ := hI
    rw [hd] at *
    refine cd (fun h2 => ?_) (fun h2 => ?_)
    · have h2 : (j : Int) < ((N - 1 - 1 : Nat) : Int) := h2
      refine idr hcut hs1.im (by omega) h2 ?_
      rintro ad2 y r2 hy rfl - hcell2
      refine ldc1 (hcell2 0 _ rfl) ?_
      have hy : (sp 42 p)[j + 1]? = some y := by
        rw [Int.toNat_natCast, List.getElem?_drop, List.getElem?_take] at hy
        split at hy
        · rw [Nat.add_comm]; exact hy
        · cases hy
      refine index_ok r y hgl hs1 (by omega) ?_
      refine cs (fun h3 => ?_) (fun h3 => ?_)
      · refine finB (k J _ hJ hs1) ?_
        have : b = false := by cases b with | false => rfl | true => cases h3
        rw [hF, this]; rfl
      · have hbt : b = true := by cases b with | false => cases h3 | true => rfl
        subst hbt
        have hst := gr_step (sp 42 p) (j + 1) y hy (by omega) r
        refine cd (fun h4 => ?_) (fun h4 => ?_)
        · refine finB (k J _ hJ hs1) ?_
          rw [hF, ← hinv rfl, hst, if_pos h4]; rfl
        · rcases index_spec r y with ⟨h5, _⟩ | ⟨i, h5, h6, _, _⟩
          · exact absurd (by rw [h5]; decide) h4
          · have hi : IntKind.i64.wrap (Lib.index r y + (y.length : Int)) = ((i + y.length : Nat) : Int) := by rw [h5]; exact wAdd (by omega)
            rw [if_neg h4, h5, Int.toNat_natCast] at hst
            refine req ⟨by show (0 : Int) ≤ IntKind.i64.wrap (Lib.index r y + (y.length : Int)); omega, by show IntKind.i64.wrap (Lib.index r y + (y.length : Int)) ≤ (r.length : Int); omega, Int.le_refl _⟩ ?_
            refine hZ (j + 1, r.drop (i + y.length)) _ _ ⟨?_, rfl, by omega, by simp; omega, fun _ => ?_⟩ (by omega)
            · refine ce ?_ (ce rfl (ce rfl (ce rfl (ce rfl (ce rfl (ce ?_ rfl))))))
              · show Value.string (bs ((r.take (r.length : Int).toNat).drop (IntKind.i64.wrap (Lib.index r y + (y.length : Int))).toNat)) = _
                rw [hi, Int.toNat_natCast, Int.toNat_natCast, List.take_length]
              · exact vI (wAdd (a := j) (b := 1) (by omega))
            · rw [← hinv rfl, hst]
    · have h2 : ¬ (j : Int) < ((N - 1 - 1 : Nat) : Int) := h2
      refine cs (fun h3 => ?_) (fun h3 => ?_)
      · subst h3
        refine idr hr hs1.im (by show (0 : Int) ≤ ((N - 1 : Nat) : Int); omega) (by show ((N - 1 : Nat) : Int) < (N : Int); omega) ?_
        rintro ad2 y r2 hy rfl - hcell2
        refine ldc1 (hcell2 0 _ rfl) ?_
        refine hasSuffix_ok r y _ _ (by omega) ?_
        refine finB (k J _ hJ hs1) ?_
        rw [hF, ← hinv rfl, gr_last (sp 42 p) (j + 1) y (by rw [← hy]; congr 1; show j + 1 = N - 1; omega) (by omega) r]; rfl
      · subst h3
        refine finB (k J _ hJ hs1) ?_
        rw [hF]; rfl
end
end B
end Go.Proofs.YtdbihpobfcbmeaaDoor
