/- The walk of the host's Kind: three functions in an array, asked in turn. -/
import Derived.Test.YtdbihpobfcbmeaaDoorGH
set_option linter.unusedVariables false
set_option linter.unusedSimpArgs false
namespace Go.Proofs.YtdbihpobfcbmeaaDoor
namespace B
open Go Go.RowKit
def p_host_Kind_3 (x0 : List UInt8) : Option Int := (p_host_brackets x0).bind fun d => if d = true then some 3 else some 0
def p_host_Kind_2 (x0 : List UInt8) : Option Int := (p_host_four x0).bind fun b => if b = true then some 2 else p_host_Kind_3 x0
def p_host_Kind (x0 : List UInt8) : Option Int := (p_host_word x0).bind fun a => if a = true then some 1 else p_host_Kind_2 x0
def kfn (n : Nat) : Value := .func (.func n) ⟨[]⟩ ⟨[]⟩
set_option maxRecDepth 10000 in
set_option maxHeartbeats 4000000 in
theorem w_host_Kind {c : Cx} {I : Im} {L : List Ent} {w : World} {K : Value → World → Prop} (x0 : (List UInt8)) (r : Int) (hf : p_host_Kind x0 = some r) (hg : Glo I) (hX : ∀ b, ¬ c.X b) (hs : St c I L w)
    (k : ∀ (J : Im) (w' : World), Le I J → St c J L w' → K (.int .i64 r) w') :
    callW Tryd.prog 26 [.string (bs x0)] K w := by
  refine fn_of good Tryd.func26 rfl rfl rfl ?_
  refine sqs ?_
  refine bar ?_
  refine scp good 0 rfl ?_
  refine sqs ?_
  refine semW_mk (run_build _ _ _ ⟨[kfn 75, kfn 76, kfn 77]⟩ (by kernel_rfl)) ?_
  refine new hs ?_
  intro b1 w2 hs2
  have hs2 : St c I (.blk b1 (.cells ⟨[.nilFunc, .nilFunc, .nilFunc]⟩ 103) :: L) w2 := hs2
  refine sto 0 hs2 rfl rfl rfl ?_
  intro w3 hs3
  have hs3 : St c I (.blk b1 (.cells ⟨[kfn 75, kfn 76, kfn 77]⟩ 103) :: L) w3 := hs3
  refine bar ?_
  refine sqs ?_
  refine bar ?_
  refine sqs ?_
  refine sqs ?_
  refine ld 0 hs3 rfl rfl rfl ?_
  refine bar ?_
  refine loop [0, 7, 8] (fun (i : Nat) vs w' => ∃ J, Le I J ∧ vs = [.string (bs x0), .agg ⟨[kfn 75, kfn 76, kfn 77]⟩, .int .i64 i] ∧ i ≤ 3 ∧ St c J (.blk b1 (.cells ⟨[kfn 75, kfn 76, kfn 77]⟩ 103) :: L) w' ∧
    (match i with | 0 => p_host_Kind x0 | 1 => p_host_Kind_2 x0 | 2 => p_host_Kind_3 x0 | _ => some 0) = some r) (fun i => 3 - i) 0 ⟨I, Le.refl _, ce rfl (ce rfl (ce rfl rfl)), Nat.zero_le _, hs3, hf⟩ ?_
  clear hs3 hs2 hs hf
  rintro Z i vs e w' ⟨J, hJ, rfl, hi, hs3, hr⟩ hZ
  match i, hi, hr, hZ with
  | 0, _, hr, hZ =>
    obtain ⟨a, ha, hr⟩ := bindO hr
    refine sqs ?_
    refine bar ?_
    refine sqs ?_
    refine bar ?_
    refine sqs ?_
    refine blk ?_
    refine sqs ?_
    refine idxA good rfl rfl rfl (by show (0 : Int) ≤ ((0 : Nat) : Int); decide) (by show ((0 : Nat) : Int) < _; decide) (v := kfn 75) rfl ?_
    refine bar ?_
    refine sqs ?_
    refine sqs ?_
    refine w_host_word x0 a ha (hg.le hJ) hX hs3 ?_
    intro J2 w4 hJ2 hs4
    refine bar ?_
    cases a with
    | false =>
      refine bar ?_
      exact hZ 1 _ _ ⟨J2, hJ.trans hJ2, ce rfl (ce rfl (ce rfl rfl)), by decide, hs4, hr⟩ (by decide)
    | true =>
      obtain rfl := Option.some.inj hr
      refine bar ?_
      refine bar ?_
      exact k J2 w4 (hJ.trans hJ2) (hs4.drop 0)
  | 1, _, hr, hZ =>
    obtain ⟨a, ha, hr⟩ := bindO hr
    refine sqs ?_
    refine bar ?_
    refine sqs ?_
    refine bar ?_
    refine sqs ?_
    refine blk ?_
    refine sqs ?_
    refine idxA good rfl rfl rfl (by show (0 : Int) ≤ ((1 : Nat) : Int); decide) (by show ((1 : Nat) : Int) < _; decide) (v := kfn 76) rfl ?_
    refine bar ?_
    refine sqs ?_
    refine sqs ?_
    refine w_host_four x0 a ha (hg.le hJ) hX hs3 ?_
    intro J2 w4 hJ2 hs4
    refine bar ?_
    cases a with
    | false =>
      refine bar ?_
      exact hZ 2 _ _ ⟨J2, hJ.trans hJ2, ce rfl (ce rfl (ce rfl rfl)), by decide, hs4, hr⟩ (by decide)
    | true =>
      obtain rfl := Option.some.inj hr
      refine bar ?_
      refine bar ?_
      exact k J2 w4 (hJ.trans hJ2) (hs4.drop 0)
  | 2, _, hr, hZ =>
    obtain ⟨a, ha, hr⟩ := bindO hr
    refine sqs ?_
    refine bar ?_
    refine sqs ?_
    refine bar ?_
    refine sqs ?_
    refine blk ?_
    refine sqs ?_
    refine idxA good rfl rfl rfl (by show (0 : Int) ≤ ((2 : Nat) : Int); decide) (by show ((2 : Nat) : Int) < _; decide) (v := kfn 77) rfl ?_
    refine bar ?_
    refine sqs ?_
    refine sqs ?_
    refine w_host_brackets x0 a ha (hg.le hJ) hX hs3 ?_
    intro J2 w4 hJ2 hs4
    refine bar ?_
    cases a with
    | false =>
      refine bar ?_
      exact hZ 3 _ _ ⟨J2, hJ.trans hJ2, ce rfl (ce rfl (ce rfl rfl)), by decide, hs4, hr⟩ (by decide)
    | true =>
      obtain rfl := Option.some.inj hr
      refine bar ?_
      refine bar ?_
      exact k J2 w4 (hJ.trans hJ2) (hs4.drop 0)
  | 3, _, hr, hZ =>
    obtain rfl := Option.some.inj hr
    refine sqs ?_
    refine bar ?_
    refine sqs ?_
    refine bar ?_
    refine sqs ?_
    refine bar ?_
    exact k J w' hJ (hs3.drop 0)
  | n + 4, hi, _, _ => omega
end B
end Go.Proofs.YtdbihpobfcbmeaaDoor
