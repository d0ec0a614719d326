/- 'MatchPicks' returns true, whatever filter and events it is given, and its arguments read as before: the tied card of its second row: where what it reads is of bulk at most 1048576. The row's own conditions hold: the tables that it lists lie as their initialisers lay them. -/
import Derived.Test.YtdbihpobfcbmeaaDoorBG
import Derived.Test.YtdbihpobfcbmeaaDoorP9
set_option linter.unusedVariables false
set_option linter.unusedSimpArgs false
namespace Go.Proofs.YtdbihpobfcbmeaaDoor
namespace B
open Go Go.RowKit
theorem rd_filter {H : Type} {enc : TypeId × Value → H} {W : World} {sp : Nat → Bool} {held : Bool} {fuel : Nat} {cs : List Value} {y : DataW H × List MemPlace}
    (h : DataW.trod enc Tryd.prog W 0 sp held fuel 26 cs = some y) : ∃ f, RdF (ofW W) cs f ∧ kss f.all ≤ Rows.uptoBulk y.1 := by
  obtain ⟨fs, hu, hfs, _⟩ := good.struct (t := 26) rfl
  obtain ⟨n, v0, v1, v2, v3, v4, v5, y0, y1, y2, y3, y4, y5, hn, rfl, hy, g0, g1, g2, g3, g4, g5⟩ := rd_struct6 hu hfs (by kernel_rfl) (by kernel_rfl) (by kernel_rfl) (by kernel_rfl) (by kernel_rfl) (by kernel_rfl) (by kernel_rfl) h
  have one : ∀ {v : Value} {y : DataW H × List MemPlace}, DataW.trod enc Tryd.prog W 0 sp held n 24 [v] = some y → ∃ xs a c, v = .slice a xs.length c ∧ RdL (ofW W) 1 RdS (.slice a xs.length c) xs ∧ ksum xs ≤ Rows.uptoBulk y.1 := by
    intro v y h
    obtain ⟨v', xs, e, r, b⟩ := rd_strs (good.slice (t := 24) rfl) (good.str (t := 9) rfl) (by kernel_rfl) h
    cases e
    obtain ⟨a, c, rfl, _⟩ := r.len
    exact ⟨xs, a, c, rfl, r, by rw [ksum_sum]; exact b⟩
  obtain ⟨k0, a0, c0, rfl, r0, b0⟩ := one g0
  obtain ⟨k1, a1, c1, rfl, r1, b1⟩ := one g1
  obtain ⟨k2, a2, c2, rfl, r2, b2⟩ := one g2
  obtain ⟨k3, a3, c3, rfl, r3, b3⟩ := one g3
  obtain ⟨k4, a4, c4, rfl, r4, b4⟩ := one g4
  obtain ⟨n5, e5, _⟩ := rd_int (good.int (t := 3) rfl) g5
  cases e5
  refine ⟨⟨k0, k1, k2, k3, k4, n5⟩, ⟨a0, c0, a1, c1, a2, c2, a3, c3, a4, c4, rfl, r0, r1, r2, r3, r4⟩, ?_⟩
  rw [hy]
  simp only [Fl.all, kss, Rows.uptoBulk, Rows.uptoBulkAll]
  omega
end B
namespace fnMatchPicks
open Go Go.RowKit Go.ChangeShapes Go.WideShapes Go.ChangeAt B
set_option maxRecDepth 100000 in
theorem contract (H : Type) (enc : TypeId × Value → H) (W : World) (base : Nat) (args : Array Value) (ds gs : List (DataW H)) (before : List MemPlace)
    (hval : ∀ (j : Nat) t v, Tryd.f4.params[j]? = some t → args[j]? = some v → Value.okWide Tryd.prog W .any base t v)
    (hW : DataW.Whole enc Tryd.prog Tryd.f4.params.toList Rows.matchPicksSpec.vars false W args.toList ds gs before) (hcond : Rows.uptoSmall H (ds ++ gs) = true) (hL : laidMetH Tryd.prog Rows.matchPicksUptoRow.laid W) (hS : W.ShapedOpen Tryd.prog) :
    Calls Tryd.prog 4 args W fun e W' => ∃ v, e = .returned v ∧ Rows.matchPicksSpec.post enc Tryd.prog Tryd.f4 false true false false W args v W' := by
  have hW' := hW
  obtain ⟨p, q, hA0, hV, rfl, hfz, hnd⟩ := hW
  have hA : DataW.TrodAll enc Tryd.prog W 0 (fun _ => true) true Tryd.f4.params.toList args.toList ds p := hA0
  rw [Tryd.params4] at hA hval
  obtain ⟨v0, vs0, d0, ds0, p0, q0, hargs, rfl, rfl, h0, r0⟩ := trodAll_cons hA
  obtain ⟨v1, vs1, d1, ds1, p1, q1, rfl, rfl, rfl, h1, r1⟩ := trodAll_cons r0
  obtain ⟨rfl, rfl, rfl⟩ := trodAll_nil r1
  obtain rfl : args = #[v0, v1] := by cases args; simp_all
  have hgs : gs = [] := (trodVars_none hV).1
  subst hgs
  have hsm : Rows.uptoBulk d0 + (Rows.uptoBulk d1 + 0) ≤ 1048576 := of_decide_eq_true hcond
  obtain ⟨fs, hu, _, _⟩ := good.struct (t := 26) rfl
  obtain ⟨cs0, rfl, _⟩ := okWide_struct hu (hval 0 26 v0 rfl rfl)
  obtain ⟨a, n, cc, rfl⟩ := okWide_slice (good.slice (t := 27) rfl) (hval 1 27 v1 rfl rfl)
  obtain ⟨fu0, h0⟩ := h0
  obtain ⟨fu1, h1⟩ := h1
  obtain ⟨f, hf, hfb⟩ := rd_filter (cs := cs0.toList) h0
  obtain ⟨v, xs, hv, hx, hxb⟩ := rd_slice (μ := nb) (good.slice (t := 27) rfl) (show Tryd.prog.cellsOf 30 = 5 by kernel_rfl) (fun m _ cs y hy _ => rd_node m cs y hy) h1
  have hv : [Value.slice a n cc] = [v] := hv
  cases hv
  obtain ⟨a', cc', e, _⟩ := hx.len
  cases e
  have hxl := sum_len nb_pos xs
  dsimp only at hxb hfb
  have walk := matchPicks_ok (c := ⟨Non, W, ofW W⟩) (I := ofW W) (L := []) (w := W) (K := fun v w' => v = .bool true ∧ Ch Non W w') f (by omega) xs (by omega) (fun x hx => by have := sum_mem (f := nb) hx; omega) (glo_of hS) (fun _ h => h) cs0.toList a cc hf hx (St.ofW W) (fun J w' hJ hs => ⟨rfl, hs.ch⟩)
  refine (callW_out walk).2.mono ?_
  rintro e W' ⟨v, rfl, rfl, hc⟩
  exact ⟨_, rfl, post_true (tb := 4) laidOut (by kernel_rfl) Tryd.underlying4 (by kernel_rfl) rfl hW' rfl hc⟩

theorem reads (os : Os) {H : Type} (enc : TypeId × Value → H) : ∃ places, DataW.whole enc Tryd.prog ((layW os utf8Laid).forCall (fun _ _ => 0) ⟨#[], #[.agg #[.slice none 0 0, .slice none 0 0, .slice none 0 0, .slice none 0 0, .slice none 0 0, .int .i64 0], .slice none 0 0], []⟩).memory Tryd.f4.params.toList Rows.matchPicksSpec.vars false
    (#[.agg #[.slice none 0 0, .slice none 0 0, .slice none 0 0, .slice none 0 0, .slice none 0 0, .int .i64 0], .slice none 0 0] : Array Value).toList 8 = some ([.agg [.nil, .nil, .nil, .nil, .nil, .lit (.int .i64 0)], .nil], [], places) :=
  ⟨[], by kernel_rfl⟩
set_option maxRecDepth 100000 in
theorem lifted (os : Os) (started : os.Started) (H : Type) (enc : TypeId × Value → H) (F : Stop.Interp) :
    ReturnsInHanded {} Tryd.checked os 4 .any ((Rows.OpenSpec.upto Rows.matchPicksSpec).preRow enc Tryd.prog Tryd.f4 Rows.matchPicksUptoRow.domain false Rows.matchPicksUptoRow.laid) (((Rows.OpenSpec.upto Rows.matchPicksSpec).at F).post enc Tryd.prog Tryd.f4 false true false false) := by
  obtain ⟨places, hx⟩ := reads os enc
  refine returnsInHanded_of_row (C := Tryd.checked) (s := (Rows.OpenSpec.upto Rows.matchPicksSpec)) B.own started (by kernel_rfl) Tryd.func4
    (witness_row_at (enc := enc) (C := Tryd.checked) false (layW os utf8Laid) #[.agg #[.slice none 0 0, .slice none 0 0, .slice none 0 0, .slice none 0 0, .slice none 0 0, .int .i64 0], .slice none 0 0] rfl (by kernel_rfl) (by kernel_rfl) (by kernel_rfl)
      (OpenSpec.preRow_of_cond 8 hx (by kernel_rfl) (fun k hk => by cases hk; kernel_rfl) (by kernel_rfl) (laidMet.of_heap (w := layW os utf8Laid) (by rfl) (laid_utf8 os)))) ?_
  intro W base args ds gs before hval hW _ hcond _ hL hS _
  exact contract H enc W base args ds gs before hval hW (hcond _ rfl) hL hS
theorem said : Rows.MatchPicksUptoSaid :=
  OpenClaim.holds_of_cond 4 Tryd.f4 rfl rfl rfl rfl rfl rfl rfl ⟨rfl, rfl, rfl, rfl, rfl⟩ rfl rfl rfl rfl rfl (by kernel_rfl) Tryd.func4 (by kernel_rfl)
    (of_decide_eq_true (by kernel_rfl)) (by unfold Func.isWrapper; first | (rw [if_pos (by decide +kernel)]; kernel_rfl) | (rw [if_neg (by decide +kernel)]; exact ⟨rfl, rfl⟩))
    (fun os started H enc _ F => by rw [OpenClaim.pre_eq_preRow]; exact lifted os started H enc F)
theorem plain (f : FuncId) (fn : Func) (hf : Tryd.pinned.checked.prog.funcNamed "sealring/sealringlaw52.MatchPicks" = some f) (hfn : Tryd.pinned.checked.prog.funcs[f]? = some fn) :
    false = Tryd.pinned.checked.prog.looks [] ∧ ∀ (j : Nat) t, fn.params[j]? = some t → Tryd.pinned.checked.prog.wantsStandIn t = false := by
  obtain rfl : f = 4 := Option.some.inj ((show Tryd.prog.funcNamed "sealring/sealringlaw52.MatchPicks" = some 4 by kernel_rfl).symm.trans hf) |>.symm
  obtain rfl : fn = Tryd.f4 := (Option.some.inj (Tryd.func4.symm.trans hfn)).symm
  refine ⟨by kernel_rfl, fun j t ht => ?_⟩
  have h : Tryd.f4.params.toList.all (fun t => !Tryd.prog.wantsStandIn t) = true := by kernel_rfl
  have := List.all_eq_true.1 h t (by simpa using Array.mem_of_getElem? ht)
  show Tryd.prog.wantsStandIn t = false
  simpa using this
theorem card : Rows.MatchPicksUptoCardSaid :=
  Claim7.holds_tied_plain_at .later [] _ _ _ _ said (fun _ h => by cases h) (by kernel_rfl) (fun _ h => by cases h) matchPicksUpto_row_tie rfl ⟨rfl, rfl⟩ (by kernel_rfl) rfl plain (by kernel_rfl)
end fnMatchPicks
end Go.Proofs.YtdbihpobfcbmeaaDoor
