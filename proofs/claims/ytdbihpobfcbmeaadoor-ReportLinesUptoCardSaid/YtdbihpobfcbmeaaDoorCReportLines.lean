/- The tied card of 'ReportLines' where what it reads is of bulk at most 1048576: printed by cardgen.py. -/
import Derived.Test.YtdbihpobfcbmeaaDoorBG
import Derived.Test.YtdbihpobfcbmeaaDoorBK
import Derived.Test.YtdbihpobfcbmeaaDoorGR
import Derived.Test.YtdbihpobfcbmeaaDoorERrl
import Derived.LaidSub
import Derived.Test.YtdbihpobfcbmeaaDoorM2
set_option linter.unusedVariables false
set_option linter.unusedSimpArgs false
namespace Go.Proofs.YtdbihpobfcbmeaaDoor
namespace B
open Go Go.RowKit Go.ChangeShapes Go.WideShapes Go.ChangeAt
def m_api_Verdict (x : S_api_Verdict) : Nat := mS x.ID + (fun _ => 0) x.Redacted + (fun _ => 0) x.Err + 1
def ok_api_Verdict (x : S_api_Verdict) : Prop := okS x.ID ∧ (fun _ => True) x.Redacted ∧ (okI .i64) x.Err
theorem rdT_api_Verdict {H : Type} {enc : TypeId × Value → H} {W : World} {sp : Nat → Bool} {held : Bool} : RdT enc Tryd.prog W sp held 48 (R_api_Verdict (ofW W)) m_api_Verdict ok_api_Verdict := by
  intro fuel cs y h
  obtain ⟨fs, hu, hfs, _⟩ := good.struct (t := 48) rfl
  obtain ⟨fu, ys, hfu, hy, hl, hcs, hf⟩ := rd_fields (L := [(0, 1, 9), (1, 1, 4), (2, 1, 40)]) hu hfs (by kernel_rfl) (show Tryd.prog.cellsOf 48 = 3 by kernel_rfl) h
  obtain ⟨v0, cs0, rfl, hcs0⟩ := cons_of hcs
  obtain ⟨v1, cs1, rfl, hcs1⟩ := cons_of hcs0
  obtain ⟨v2, cs2, rfl, hcs2⟩ := cons_of hcs1
  obtain rfl := List.length_eq_zero_iff.1 hcs2
  obtain ⟨y0, ys0, rfl, hl0⟩ := cons_of hl
  obtain ⟨y1, ys1, rfl, hl1⟩ := cons_of hl0
  obtain ⟨y2, ys2, rfl, hl2⟩ := cons_of hl1
  obtain rfl := List.length_eq_zero_iff.1 hl2
  obtain ⟨z0, e0, g0⟩ := hf 0 _ rfl
  cases e0
  obtain ⟨x0, r0, b0, k0⟩ := (rdT_str (good.str (t := 9) rfl)) fu [v0] _ g0
  have r0 : [v0] = [.string (bs x0)] := r0
  cases r0
  obtain ⟨z1, e1, g1⟩ := hf 1 _ rfl
  cases e1
  obtain ⟨x1, r1, b1, k1⟩ := (rdT_bool (good.bool (t := 4) rfl)) fu [v1] _ g1
  have r1 : [v1] = [.bool x1] := r1
  cases r1
  obtain ⟨z2, e2, g2⟩ := hf 2 _ rfl
  cases e2
  obtain ⟨x2, r2, b2, k2⟩ := (rdT_int (good.int (t := 40) rfl)) fu [v2] _ g2
  have r2 : [v2] = [.int .i64 x2] := r2
  cases r2
  refine ⟨⟨x0, x1, x2⟩, rfl, ?_, ⟨k0, k1, k2⟩⟩
  rw [hy, bulk_agg']
  simp only [List.map_cons, List.map_nil, bulk_cons, Rows.uptoBulkAll, m_api_Verdict]
  omega
theorem laid_ReportLines (os : Os) : laidMet Tryd.prog Rows.reportLinesUptoRow.laid (layW os Rows.reportLinesUptoRow.laid) := laidMet_of_run' 8 (by kernel_rfl) (by kernel_rfl)
theorem tab10_ReportLines {W : World} (h : laidMetH Tryd.prog Rows.reportLinesUptoRow.laid W) : Tab10 (ofW W) := by
  have h2 := (laidMetH_iff.1 (h.filter (fun x => x.1 == "internal/strconv.uint64pow10"))).1
  exact tab10_of (Lib.tabIs_of_head (k := .u64) (zs := Lib.pow10Tab) (rest := []) (t := (Tryd.prog.globals[(Tryd.prog.globalNamed "internal/strconv.uint64pow10").getD 0]?.map (·.type)).getD 0) (g := (Tryd.prog.globalNamed "internal/strconv.uint64pow10").getD 0) (n := 20) (e := 175) (by kernel_rfl) (by kernel_rfl) (by kernel_rfl) (by kernel_rfl) (by kernel_rfl) (by kernel_rfl) h2)
end B
namespace fnReportLines
open Go Go.RowKit Go.ChangeShapes Go.WideShapes Go.ChangeAt B
set_option maxRecDepth 100000 in
set_option maxHeartbeats 4000000 in
theorem contract (H : Type) (enc : TypeId × Value → H) (W : World) (base : Nat) (args : Array Value) (ds gs : List (DataW H)) (before : List MemPlace)
    (hval : ∀ (j : Nat) t v, Tryd.f6.params[j]? = some t → args[j]? = some v → Value.okWide Tryd.prog W .any base t v)
    (hW : DataW.Whole enc Tryd.prog Tryd.f6.params.toList Rows.reportLinesSpec.vars false W args.toList ds gs before) (hcond : Rows.uptoSmall H (ds ++ gs) = true) (hL : laidMetH Tryd.prog Rows.reportLinesUptoRow.laid W) (hS : W.ShapedOpen Tryd.prog) :
    Calls Tryd.prog 6 args W fun e W' => ∃ v, e = .returned v ∧ Rows.reportLinesSpec.post enc Tryd.prog Tryd.f6 false true false false W args v W' := by
  have hW' := hW
  obtain ⟨p, q, hA0, hV, rfl, hfz, hnd⟩ := hW
  have hA : DataW.TrodAll enc Tryd.prog W 0 (fun _ => true) true Tryd.f6.params.toList args.toList ds p := hA0
  rw [Tryd.params6] at hA hval
  obtain ⟨v0, vs0, d0, ds0, p0, q0, hargs, rfl, rfl, h0, r0⟩ := trodAll_cons hA
  obtain ⟨v1, vs1, d1, ds1, p1, q1, rfl, rfl, rfl, h1, r1⟩ := trodAll_cons r0
  obtain ⟨v2, vs2, d2, ds2, p2, q2, rfl, rfl, rfl, h2, r2⟩ := trodAll_cons r1
  obtain ⟨rfl, rfl, rfl⟩ := trodAll_nil r2
  obtain rfl : args = #[v0, v1, v2] := by cases args; simp_all
  have hgs : gs = [] := (trodVars_none hV).1
  subst hgs
  have hsm : Rows.uptoBulk d0 + (Rows.uptoBulk d1 + (Rows.uptoBulk d2 + (0))) ≤ 1048576 := of_decide_eq_true hcond
  obtain ⟨a0, n0, c0, rfl⟩ := okWide_slice (good.slice (t := 24) rfl) (hval 0 24 v0 rfl rfl)
  obtain ⟨fu0, h0⟩ := h0
  obtain ⟨x0, e0, b0, k0⟩ := (rdT_slice (good.slice (t := 24) rfl) (by kernel_rfl) (rdT_str (good.str (t := 9) rfl))) _ _ _ h0
  obtain ⟨a'0, c'0, e0, f0⟩ := e0.out
  have e0 : [Value.slice a0 n0 c0] = [.slice a'0 x0.length c'0] := e0
  cases e0
  obtain ⟨fs1, hu1, _, _⟩ := good.struct (t := 48) rfl
  obtain ⟨cs1, rfl, _⟩ := okWide_struct hu1 (hval 1 48 v1 rfl rfl)
  obtain ⟨fu1, h1⟩ := h1
  obtain ⟨x1, f1, b1, k1⟩ := (rdT_api_Verdict) fu1 cs1.toList _ h1
  obtain ⟨a2, rfl⟩ := okWide_int (good.int (t := 3) rfl) (hval 2 3 v2 rfl rfl)
  obtain ⟨fu2, h2⟩ := h2
  obtain ⟨x2, e2, b2, k2⟩ := (rdT_int (good.int (t := 3) rfl)) _ _ _ h2
  have e2 : [Value.int .i64 a2] = [.int .i64 x2] := e2
  obtain rfl : x2 = a2 := by cases e2; rfl
  have ht : p_law49_ReportLines x0 x1 x2 = some true := by
    have h : sumL x0 ≤ (x0.map mS).sum := sumL_le x0
    have h2 := okI64 k1.2.2
    simp only [m_api_Verdict, mS, mL] at b0 b1 h
    exact reportLines_p x0 x1 x2 (by omega) (by omega) h2.1 h2.2
  have walk := w_law49_ReportLines (c := ⟨Non, W, ofW W⟩) (I := ofW W) (L := []) (w := W) (K := fun v w' => v = .bool true ∧ Ch Non W w') x0 x1 x2 true ht (glo_of hS) (fun _ h => h) (tab10_ReportLines hL) (St.ofW W) f0 f1 (fun J w' hJ hs => ⟨rfl, hs.ch⟩)
  refine (callW_out (by kernel_rfl) walk).mono ?_
  rintro e W' ⟨v, rfl, rfl, hc⟩
  exact ⟨_, rfl, post_true (tb := 4) laidOut (by kernel_rfl) Tryd.underlying4 (by kernel_rfl) rfl hW' rfl hc⟩
theorem reads (os : Os) {H : Type} (enc : TypeId × Value → H) : ∃ places, DataW.whole enc Tryd.prog ((layW os Rows.reportLinesUptoRow.laid).forCall (fun _ _ => 0) ⟨#[], #[.slice none 0 0, .agg #[.string (bs []), .bool false, .int .i64 0], .int .i64 0], []⟩).memory Tryd.f6.params.toList Rows.reportLinesSpec.vars false
    (#[.slice none 0 0, .agg #[.string (bs []), .bool false, .int .i64 0], .int .i64 0] : Array Value).toList 8 = some ([.nil, .agg [.lit (.string []), .lit (.bool false), .lit (.int .i64 0)], .lit (.int .i64 0)], [], places) :=
  ⟨[], by kernel_rfl⟩
set_option maxRecDepth 100000 in
theorem lifted (os : Os) (started : os.Started) (H : Type) (enc : TypeId × Value → H) (F : Stop.Interp) :
    ReturnsInHanded {} Tryd.checked os 6 .any ((Rows.OpenSpec.upto Rows.reportLinesSpec).preRow enc Tryd.prog Tryd.f6 Rows.reportLinesUptoRow.domain false Rows.reportLinesUptoRow.laid) (((Rows.OpenSpec.upto Rows.reportLinesSpec).at F).post enc Tryd.prog Tryd.f6 false true false false) := by
  obtain ⟨places, hx⟩ := reads os enc
  refine returnsInHanded_of_row (C := Tryd.checked) (s := (Rows.OpenSpec.upto Rows.reportLinesSpec)) B.own started (by kernel_rfl) Tryd.func6
    (witness_row_at (enc := enc) (C := Tryd.checked) false (layW os Rows.reportLinesUptoRow.laid) #[.slice none 0 0, .agg #[.string (bs []), .bool false, .int .i64 0], .int .i64 0] rfl (by kernel_rfl) (by kernel_rfl) (by kernel_rfl)
      (OpenSpec.preRow_of_cond 8 hx (by kernel_rfl) (fun k hk => by cases hk; kernel_rfl) (by kernel_rfl) (laidMet.of_heap (w := layW os Rows.reportLinesUptoRow.laid) (by rfl) (laid_ReportLines os)))) ?_
  intro W base args ds gs before hval hW _ hcond _ hL hS _
  exact contract H enc W base args ds gs before hval hW (hcond _ rfl) hL hS
theorem said : Rows.ReportLinesUptoSaid :=
  OpenClaim.holds_of_cond 6 Tryd.f6 rfl rfl rfl rfl rfl rfl rfl ⟨rfl, rfl, rfl, rfl, rfl⟩ rfl rfl rfl rfl rfl (by kernel_rfl) Tryd.func6 (by kernel_rfl)
    (of_decide_eq_true (by kernel_rfl)) (by unfold Func.isWrapper; first | (rw [if_pos (by decide +kernel)]; kernel_rfl) | (rw [if_neg (by decide +kernel)]; exact ⟨rfl, rfl⟩))
    (fun os started H enc _ F => by rw [OpenClaim.pre_eq_preRow]; exact lifted os started H enc F)
theorem plain (f : FuncId) (fn : Func) (hf : Tryd.pinned.checked.prog.funcNamed "sealring/sealringlaw49.ReportLines" = some f) (hfn : Tryd.pinned.checked.prog.funcs[f]? = some fn) :
    false = Tryd.pinned.checked.prog.looks [] ∧ ∀ (j : Nat) t, fn.params[j]? = some t → Tryd.pinned.checked.prog.wantsStandIn t = false := by
  obtain rfl : f = 6 := Option.some.inj ((show Tryd.prog.funcNamed "sealring/sealringlaw49.ReportLines" = some 6 by kernel_rfl).symm.trans hf) |>.symm
  obtain rfl : fn = Tryd.f6 := (Option.some.inj (Tryd.func6.symm.trans hfn)).symm
  refine ⟨by kernel_rfl, fun j t ht => ?_⟩
  have h : Tryd.f6.params.toList.all (fun t => !Tryd.prog.wantsStandIn t) = true := by kernel_rfl
  have := List.all_eq_true.1 h t (by simpa using Array.mem_of_getElem? ht)
  show Tryd.prog.wantsStandIn t = false
  simpa using this
theorem card : Rows.ReportLinesUptoCardSaid :=
  Claim7.holds_tied_plain_at .later [] _ _ _ _ said (fun _ h => by cases h) (by kernel_rfl) (fun _ h => by cases h) reportLinesUpto_row_tie rfl ⟨rfl, rfl⟩ (by kernel_rfl) rfl plain (by kernel_rfl)
end fnReportLines
end Go.Proofs.YtdbihpobfcbmeaaDoor
