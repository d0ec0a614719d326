/- The tied card of 'TrailTexts' where what it reads is of bulk at most 1048576: printed by cardgen.py. -/
import Derived.Test.YtdbihpobfcbmeaaDoorBG
import Derived.Test.YtdbihpobfcbmeaaDoorBK
import Derived.Test.YtdbihpobfcbmeaaDoorGTT
import Derived.Test.YtdbihpobfcbmeaaDoorETTtq
set_option linter.unusedVariables false
set_option linter.unusedSimpArgs false
namespace Go.Proofs.YtdbihpobfcbmeaaDoor
namespace B
open Go Go.RowKit Go.ChangeShapes Go.WideShapes Go.ChangeAt
theorem laid_TrailTexts (os : Os) : laidMet Tryd.prog Rows.trailTextsUptoRow.laid (layW os Rows.trailTextsUptoRow.laid) := laidMet_of_run' 8 (by kernel_rfl) (by kernel_rfl)
end B
namespace fnTrailTexts
open Go Go.RowKit Go.ChangeShapes Go.WideShapes Go.ChangeAt B
set_option maxRecDepth 100000 in
set_option maxHeartbeats 4000000 in
theorem contract (H : Type) (enc : TypeId × Value → H) (W : World) (base : Nat) (args : Array Value) (ds gs : List (DataW H)) (before : List MemPlace)
    (hval : ∀ (j : Nat) t v, Tryd.f7.params[j]? = some t → args[j]? = some v → Value.okWide Tryd.prog W .any base t v)
    (hW : DataW.Whole enc Tryd.prog Tryd.f7.params.toList Rows.trailTextsSpec.vars false W args.toList ds gs before) (hcond : Rows.uptoSmall H (ds ++ gs) = true) (hL : laidMetH Tryd.prog Rows.trailTextsUptoRow.laid W) (hS : W.ShapedOpen Tryd.prog) :
    Calls Tryd.prog 7 args W fun e W' => ∃ v, e = .returned v ∧ Rows.trailTextsSpec.post enc Tryd.prog Tryd.f7 false true false false W args v W' := by
  have hW' := hW
  obtain ⟨p, q, hA0, hV, rfl, hfz, hnd⟩ := hW
  have hA : DataW.TrodAll enc Tryd.prog W 0 (fun _ => true) true Tryd.f7.params.toList args.toList ds p := hA0
  rw [Tryd.params7] at hA hval
  obtain ⟨v0, vs0, d0, ds0, p0, q0, hargs, rfl, rfl, h0, r0⟩ := trodAll_cons hA
  obtain ⟨v1, vs1, d1, ds1, p1, q1, rfl, rfl, rfl, h1, r1⟩ := trodAll_cons r0
  obtain ⟨rfl, rfl, rfl⟩ := trodAll_nil r1
  obtain rfl : args = #[v0, v1] := by cases args; simp_all
  have hgs : gs = [] := (trodVars_none hV).1
  subst hgs
  have hsm : Rows.uptoBulk d0 + (Rows.uptoBulk d1 + (0)) ≤ 1048576 := of_decide_eq_true hcond
  obtain ⟨a0, n0, c0, rfl⟩ := okWide_slice (good.slice (t := 24) rfl) (hval 0 24 v0 rfl rfl)
  obtain ⟨fu0, h0⟩ := h0
  obtain ⟨x0, e0, b0, k0⟩ := (rdT_slice (good.slice (t := 24) rfl) (by kernel_rfl) (rdT_str (good.str (t := 9) rfl))) _ _ _ h0
  obtain ⟨a'0, c'0, e0, f0⟩ := e0.out
  have e0 : [Value.slice a0 n0 c0] = [.slice a'0 x0.length c'0] := e0
  cases e0
  obtain ⟨a1, rfl⟩ := okWide_string (good.str (t := 9) rfl) (hval 1 9 v1 rfl rfl)
  obtain ⟨fu1, h1⟩ := h1
  obtain ⟨x1, e1, b1, k1⟩ := (rdT_str (good.str (t := 9) rfl)) _ _ _ h1
  have e1 : [Value.string a1] = [.string (bs x1)] := e1
  cases e1
  have ht : p_law08_TrailTexts x0 x1 = some true := by
    have h := tot_le x0
    have b0 : (x0.map fun s => s.length + 1).sum ≤ Rows.uptoBulk d0 := b0
    exact trailTexts_p x0 x1 (by omega)
  have walk := w_law08_TrailTexts (c := ⟨Non, W, ofW W⟩) (I := ofW W) (L := []) (w := W) (K := fun v w' => v = .bool true ∧ Ch Non W w') x0 x1 true ht (glo_of hS) (fun _ h => h)  (St.ofW W) f0 (fun J w' hJ hs => ⟨rfl, hs.ch⟩)
  refine (callW_out (by kernel_rfl) walk).mono ?_
  rintro e W' ⟨v, rfl, rfl, hc⟩
  exact ⟨_, rfl, post_true (tb := 4) laidOut (by kernel_rfl) Tryd.underlying4 (by kernel_rfl) rfl hW' rfl hc⟩
theorem reads (os : Os) {H : Type} (enc : TypeId × Value → H) : ∃ places, DataW.whole enc Tryd.prog ((layW os Rows.trailTextsUptoRow.laid).forCall (fun _ _ => 0) ⟨#[], #[.slice none 0 0, .string (bs [])], []⟩).memory Tryd.f7.params.toList Rows.trailTextsSpec.vars false
    (#[.slice none 0 0, .string (bs [])] : Array Value).toList 8 = some ([.nil, .lit (.string [])], [], places) :=
  ⟨[], by kernel_rfl⟩
set_option maxRecDepth 100000 in
theorem lifted (os : Os) (started : os.Started) (H : Type) (enc : TypeId × Value → H) (F : Stop.Interp) :
    ReturnsInHanded {} Tryd.checked os 7 .any ((Rows.OpenSpec.upto Rows.trailTextsSpec).preRow enc Tryd.prog Tryd.f7 Rows.trailTextsUptoRow.domain false Rows.trailTextsUptoRow.laid) (((Rows.OpenSpec.upto Rows.trailTextsSpec).at F).post enc Tryd.prog Tryd.f7 false true false false) := by
  obtain ⟨places, hx⟩ := reads os enc
  refine returnsInHanded_of_row (C := Tryd.checked) (s := (Rows.OpenSpec.upto Rows.trailTextsSpec)) B.own started (by kernel_rfl) Tryd.func7
    (witness_row_at (enc := enc) (C := Tryd.checked) false (layW os Rows.trailTextsUptoRow.laid) #[.slice none 0 0, .string (bs [])] rfl (by kernel_rfl) (by kernel_rfl) (by kernel_rfl)
      (OpenSpec.preRow_of_cond 8 hx (by kernel_rfl) (fun k hk => by cases hk; kernel_rfl) (by kernel_rfl) (laidMet.of_heap (w := layW os Rows.trailTextsUptoRow.laid) (by rfl) (laid_TrailTexts os)))) ?_
  intro W base args ds gs before hval hW _ hcond _ hL hS _
  exact contract H enc W base args ds gs before hval hW (hcond _ rfl) hL hS
theorem said : Rows.TrailTextsUptoSaid :=
  OpenClaim.holds_of_cond 7 Tryd.f7 rfl rfl rfl rfl rfl rfl rfl ⟨rfl, rfl, rfl, rfl, rfl⟩ rfl rfl rfl rfl rfl (by kernel_rfl) Tryd.func7 (by kernel_rfl)
    (of_decide_eq_true (by kernel_rfl)) (by unfold Func.isWrapper; first | (rw [if_pos (by decide +kernel)]; kernel_rfl) | (rw [if_neg (by decide +kernel)]; exact ⟨rfl, rfl⟩))
    (fun os started H enc _ F => by rw [OpenClaim.pre_eq_preRow]; exact lifted os started H enc F)
theorem plain (f : FuncId) (fn : Func) (hf : Tryd.pinned.checked.prog.funcNamed "sealring/sealringlaw08.TrailTexts" = some f) (hfn : Tryd.pinned.checked.prog.funcs[f]? = some fn) :
    false = Tryd.pinned.checked.prog.looks [] ∧ ∀ (j : Nat) t, fn.params[j]? = some t → Tryd.pinned.checked.prog.wantsStandIn t = false := by
  obtain rfl : f = 7 := Option.some.inj ((show Tryd.prog.funcNamed "sealring/sealringlaw08.TrailTexts" = some 7 by kernel_rfl).symm.trans hf) |>.symm
  obtain rfl : fn = Tryd.f7 := (Option.some.inj (Tryd.func7.symm.trans hfn)).symm
  refine ⟨by kernel_rfl, fun j t ht => ?_⟩
  have h : Tryd.f7.params.toList.all (fun t => !Tryd.prog.wantsStandIn t) = true := by kernel_rfl
  have := List.all_eq_true.1 h t (by simpa using Array.mem_of_getElem? ht)
  show Tryd.prog.wantsStandIn t = false
  simpa using this
theorem card : Rows.TrailTextsUptoCardSaid :=
  Claim7.holds_tied_plain_at .later [] _ _ _ _ said (fun _ h => by cases h) (by kernel_rfl) (fun _ h => by cases h) trailTextsUpto_row_tie rfl ⟨rfl, rfl⟩ (by kernel_rfl) rfl plain (by kernel_rfl)
end fnTrailTexts
end Go.Proofs.YtdbihpobfcbmeaaDoor
