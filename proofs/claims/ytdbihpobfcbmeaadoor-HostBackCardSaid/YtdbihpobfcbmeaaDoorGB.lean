/- Plain functions that stand for the program's, and the walks that show it: printed by gen.py. -/
import Derived.Test.YtdbihpobfcbmeaaDoorGP
import Derived.Test.YtdbihpobfcbmeaaDoorM2
set_option linter.unusedVariables false
set_option linter.unusedSimpArgs false
namespace Go.Proofs.YtdbihpobfcbmeaaDoor
namespace B
open Go Go.RowKit

def p_strconv_FormatInt (x0 : Int) (x1 : Int) : Option ((List UInt8)) :=
  ((p_internal_strconv_FormatInt x0 x1).bind fun z1 => (some z1))
set_option maxRecDepth 10000 in
set_option maxHeartbeats 4000000 in
theorem w_strconv_FormatInt {c : Cx} {I : Im} {L : List Ent} {w : World} {K : Value → World → Prop} (x0 : Int) (x1 : Int) (r : (List UInt8)) (hf : p_strconv_FormatInt x0 x1 = some r) (hg : Glo I) (hX : ∀ b, ¬ c.X b) (hn_Tab10 : Tab10 I) (hs : St c I L w)  
    (k : ∀  (J : Im) (w' : World), Le I J → St c J L w' → K (.string (bs r)) w') :
    callW Tryd.prog 102 [.int .i64 x0, .int .i64 x1] K w := by
  unfold p_strconv_FormatInt at hf
  refine fn_of good Tryd.func102 rfl rfl rfl ?_
  refine sqs ?_
  refine bar ?_
  refine sqs ?_
  obtain ⟨z1, h2, q1⟩ := bindO hf
  clear hf
  refine w_internal_strconv_FormatInt x0 x1 z1 h2 hg hX hn_Tab10 hs ?_
  intro J3 w5 hJ4 hs6
  refine barN [4] [.string (bs z1)] (ce rfl (rfl)) ?_
  intro e7
  obtain rfl := Option.some.inj q1
  exact k J3 w5 hJ4 hs6
def p_num_Show (x0 : Int) : Option ((List UInt8)) :=
  ((p_strconv_FormatInt x0 (10 : Int)).bind fun z1 => (some z1))
set_option maxRecDepth 10000 in
set_option maxHeartbeats 4000000 in
theorem w_num_Show {c : Cx} {I : Im} {L : List Ent} {w : World} {K : Value → World → Prop} (x0 : Int) (r : (List UInt8)) (hf : p_num_Show x0 = some r) (hg : Glo I) (hX : ∀ b, ¬ c.X b) (hn_Tab10 : Tab10 I) (hs : St c I L w)  
    (k : ∀  (J : Im) (w' : World), Le I J → St c J L w' → K (.string (bs r)) w') :
    callW Tryd.prog 50 [.int .i64 x0] K w := by
  unfold p_num_Show at hf
  refine fn_of good Tryd.func50 rfl rfl rfl ?_
  refine sqs ?_
  refine bar ?_
  refine sqs ?_
  obtain ⟨z1, h2, q1⟩ := bindO hf
  clear hf
  refine w_strconv_FormatInt x0 (10 : Int) z1 h2 hg hX hn_Tab10 hs ?_
  intro J3 w5 hJ4 hs6
  refine barN [2] [.string (bs z1)] (ce rfl (rfl)) ?_
  intro e7
  obtain rfl := Option.some.inj q1
  exact k J3 w5 hJ4 hs6
def p_law27_HostBack_j1 (x1 : Int) (z9 : (List UInt8) × Int × Int) : Option (Bool) :=
  (if z9.1.length + ([58] : List UInt8).length ≤ 9223372036854775807 then ((p_num_Show (IntKind.i64.wrap x1)).bind fun z22 => (if (z9.1 ++ ([58] : List UInt8)).length + z22.length ≤ 9223372036854775807 then ((p_host_Parts ((z9.1 ++ ([58] : List UInt8)) ++ z22)).bind fun z30 => (if x1 = (0 : Int) then (if (230 : Int) < (((z9.1 ++ ([58] : List UInt8)) ++ z22).length : Int) then (if z30.2.2 = (4 : Int) then ((p_law27_lives).bind fun z42 => (some z42)) else (if z30.2.2 = (25 : Int) then ((p_law27_lives).bind fun z52 => (some z52)) else (some false))) else (if z30.2.2 = (25 : Int) then ((p_law27_lives).bind fun z62 => (some z62)) else (some false))) else (if (230 : Int) < (((z9.1 ++ ([58] : List UInt8)) ++ z22).length : Int) then (if z30.2.2 = (4 : Int) then ((p_law27_lives).bind fun z73 => (some z73)) else (if z30.2.2 = (0 : Int) then (if z30.1 = z9.1 then (if z30.2.1 = (IntKind.i64.wrap x1) then ((p_law27_lives).bind fun z86 => (some z86)) else (some false)) else (some false)) else (some false))) else (if z30.2.2 = (0 : Int) then (if z30.1 = z9.1 then (if z30.2.1 = (IntKind.i64.wrap x1) then ((p_law27_lives).bind fun z103 => (some z103)) else (some false)) else (some false)) else (some false))))) else none)) else none)
def p_law27_HostBack (x0 : (List UInt8)) (x1 : Int) : Option (Bool) :=
  (if (300 : Int) < (x0.length : Int) then ((p_law27_lives).bind fun z3 => (some z3)) else ((p_host_Parts x0).bind fun z9 => (if z9.2.2 = (0 : Int) then ((p_host_Kind z9.1).bind fun z117 => (if z117 = (0 : Int) then (some false) else (if z9.2.1 = (0 : Int) then (if x0 = z9.1 then (if (0 : Int) < z9.2.1 then (if z9.1.length + ([58] : List UInt8).length ≤ 9223372036854775807 then ((p_num_Show z9.2.1).bind fun z132 => (if (z9.1 ++ ([58] : List UInt8)).length + z132.length ≤ 9223372036854775807 then (if x0 = ((z9.1 ++ ([58] : List UInt8)) ++ z132) then (p_law27_HostBack_j1 x1 z9) else (some false)) else none)) else none) else (p_law27_HostBack_j1 x1 z9)) else (some false)) else (if (0 : Int) < z9.2.1 then (if z9.1.length + ([58] : List UInt8).length ≤ 9223372036854775807 then ((p_num_Show z9.2.1).bind fun z148 => (if (z9.1 ++ ([58] : List UInt8)).length + z148.length ≤ 9223372036854775807 then (if x0 = ((z9.1 ++ ([58] : List UInt8)) ++ z148) then (p_law27_HostBack_j1 x1 z9) else (some false)) else none)) else none) else (p_law27_HostBack_j1 x1 z9))))) else (if z9.1 = ([] : List UInt8) then (if z9.2.1 = (0 : Int) then ((p_law27_lives).bind fun z164 => (some z164)) else (some false)) else (some false)))))
set_option maxRecDepth 10000 in
set_option maxHeartbeats 4000000 in
theorem w_law27_HostBack {c : Cx} {I : Im} {L : List Ent} {w : World} {K : Value → World → Prop} (x0 : (List UInt8)) (x1 : Int) (r : Bool) (hf : p_law27_HostBack x0 x1 = some r) (hg : Glo I) (hX : ∀ b, ¬ c.X b) (hn_Tab10 : Tab10 I) (hs : St c I L w)  
    (k : ∀  (J : Im) (w' : World), Le I J → St c J L w' → K (.bool r) w') :
    callW Tryd.prog 9 [.string (bs x0), .int .u16 x1] K w := by
  unfold p_law27_HostBack at hf
  refine fn_of good Tryd.func9 rfl rfl rfl ?_
  refine sqs ?_
  refine bar ?_
  refine sqs ?_
  refine sqs ?_
  refine barN [0, 1, 14] [.string (bs x0), .int .u16 x1, .bool (decide ((300 : Int) < (x0.length : Int)))] (ce rfl (ce rfl (ce rfl (rfl)))) ?_
  intro e1
  refine cdO hf (fun h2 q1 => ?_) (fun h2 q2 => ?_)
  · clear hf
    refine sqs ?_
    obtain ⟨z3, h4, q3⟩ := bindO q1
    clear q1
    refine w_law27_lives  z3 h4 hg hX hs ?_
    intro J5 w7 hJ6 hs8
    refine bar ?_
    obtain rfl := Option.some.inj q3
    exact k J5 w7 hJ6 hs8
  · clear hf
    refine bar ?_
    refine sqs ?_
    obtain ⟨z9, h10, q4⟩ := bindO q2
    clear q2
    refine w_host_Parts x0 z9 h10 hg hX hs ?_
    intro J11 w13 hJ12 hs14
    refine barN [0, 1, 5, 6, 7] [.string (bs x0), .int .u16 x1, .string (bs z9.1), .int .i64 z9.2.1, .int .i64 z9.2.2] (ce rfl (ce rfl (ce rfl (ce rfl (ce rfl (rfl)))))) ?_
    intro e15
    refine sqs ?_
    refine sqs ?_
    refine bar ?_
    refine cnO q4 (fun h16 q5 => ?_) (fun h16 q6 => ?_)
    · clear q4
      refine bar ?_
      refine sqs ?_
      refine cutc [1, 5] (fun vs w' => ∃ (J : Im), Le J11 J ∧ vs = [.int .u16 x1, .string (bs z9.1)] ∧ St c J (L) w' ∧ p_law27_HostBack_j1 x1 z9 = some r) ?_ ?_
      · clear q5
        rintro vs e159 w19 ⟨J17, hJ18, rfl, hs20, q7⟩
        unfold p_law27_HostBack_j1 at q7
        refine bar ?_
        refine sqs ?_
        refine reqO q7 (fun h21 q8 => ?_)
        clear q7
        obtain ⟨z22, h23, q9⟩ := bindO q8
        clear q8
        refine w_num_Show (IntKind.i64.wrap x1) z22 h23 (hg.le (hJ12.trans hJ18)) hX (hn_Tab10.le (hJ12.trans hJ18)) hs20 ?_
        intro J24 w26 hJ25 hs27
        refine reqO q9 (fun h28 q10 => ?_)
        clear q9
        refine nrmO [1, 5, 63] [.int .u16 x1, .string (bs z9.1), .string (bs ((z9.1 ++ ([58] : List UInt8)) ++ z22))] (ce rfl (ce rfl (ce rfl (rfl)))) ?_
        intro e29
        refine bar ?_
        refine sqs ?_
        obtain ⟨z30, h31, q11⟩ := bindO q10
        clear q10
        refine w_host_Parts ((z9.1 ++ ([58] : List UInt8)) ++ z22) z30 h31 (hg.le (hJ12.trans (hJ18.trans hJ25))) hX hs27 ?_
        intro J32 w34 hJ33 hs35
        refine barN [1, 5, 8, 9, 10, 11] [.int .u16 x1, .string (bs z9.1), .string (bs ((z9.1 ++ ([58] : List UInt8)) ++ z22)), .string (bs z30.1), .int .i64 z30.2.1, .int .i64 z30.2.2] (ce rfl (ce rfl (ce rfl (ce rfl (ce rfl (ce rfl (rfl))))))) ?_
        intro e36
        refine sqs ?_
        refine sqs ?_
        refine bar ?_
        refine cdO q11 (fun h37 q12 => ?_) (fun h37 q13 => ?_)
        · clear q11
          refine sqs ?_
          refine cdO q12 (fun h38 q14 => ?_) (fun h38 q15 => ?_)
          · clear q12
            refine nrmP [11, 75] [.int .i64 z30.2.2, .bool true] (ce rfl (ce rfl (rfl))) ?_
            intro e39
            refine cdO q14 (fun h40 q16 => ?_) (fun h40 q17 => ?_)
            · clear q14
              refine nrmO [79, 80] [.bool true, undef] (ce rfl (ce rfl (rfl))) ?_
              intro e41
              obtain ⟨z42, h43, q18⟩ := bindO q16
              clear q16
              refine w_law27_lives  z42 h43 (hg.le (hJ12.trans (hJ18.trans (hJ25.trans hJ33)))) hX hs35 ?_
              intro J44 w46 hJ45 hs47
              refine barN [4] [.bool z42] (ce rfl (rfl)) ?_
              intro e48
              obtain rfl := Option.some.inj q18
              exact k J44 w46 (hJ12.trans (hJ18.trans (hJ25.trans (hJ33.trans hJ45)))) hs47
            · clear q14
              refine nrmP [11, 79] [.int .i64 z30.2.2, .bool false] (ce rfl (ce rfl (rfl))) ?_
              intro e49
              refine cdO q17 (fun h50 q19 => ?_) (fun h50 q20 => ?_)
              · clear q17
                refine nrmP [83] [.bool true] (ce rfl (rfl)) ?_
                intro e51
                obtain ⟨z52, h53, q21⟩ := bindO q19
                clear q19
                refine w_law27_lives  z52 h53 (hg.le (hJ12.trans (hJ18.trans (hJ25.trans hJ33)))) hX hs35 ?_
                intro J54 w56 hJ55 hs57
                refine bar ?_
                obtain rfl := Option.some.inj q21
                exact k J54 w56 (hJ12.trans (hJ18.trans (hJ25.trans (hJ33.trans hJ55)))) hs57
              · clear q17
                refine nrmO [83, 84] [.bool false, undef] (ce rfl (ce rfl (rfl))) ?_
                intro e58
                refine bar ?_
                obtain rfl := Option.some.inj q20
                exact k J32 w34 (hJ12.trans (hJ18.trans (hJ25.trans hJ33))) hs35
          · clear q12
            refine nrmO [11, 75, 76] [.int .i64 z30.2.2, .bool false, undef] (ce rfl (ce rfl (ce rfl (rfl)))) ?_
            intro e59
            refine cdO q15 (fun h60 q22 => ?_) (fun h60 q23 => ?_)
            · clear q15
              refine nrmP [83] [.bool true] (ce rfl (rfl)) ?_
              intro e61
              obtain ⟨z62, h63, q24⟩ := bindO q22
              clear q22
              refine w_law27_lives  z62 h63 (hg.le (hJ12.trans (hJ18.trans (hJ25.trans hJ33)))) hX hs35 ?_
              intro J64 w66 hJ65 hs67
              refine bar ?_
              obtain rfl := Option.some.inj q24
              exact k J64 w66 (hJ12.trans (hJ18.trans (hJ25.trans (hJ33.trans hJ65)))) hs67
            · clear q15
              refine nrmO [83, 84] [.bool false, undef] (ce rfl (ce rfl (rfl))) ?_
              intro e68
              refine bar ?_
              obtain rfl := Option.some.inj q23
              exact k J32 w34 (hJ12.trans (hJ18.trans (hJ25.trans hJ33))) hs35
        · clear q11
          refine bar ?_
          refine sqs ?_
          refine cdO q13 (fun h69 q25 => ?_) (fun h69 q26 => ?_)
          · clear q13
            refine nrmP [1, 5, 9, 10, 11, 89] [.int .u16 x1, .string (bs z9.1), .string (bs z30.1), .int .i64 z30.2.1, .int .i64 z30.2.2, .bool true] (ce rfl (ce rfl (ce rfl (ce rfl (ce rfl (ce rfl (rfl))))))) ?_
            intro e70
            refine cdO q25 (fun h71 q27 => ?_) (fun h71 q28 => ?_)
            · clear q25
              refine nrmO [1, 5, 9, 10, 93, 94] [.int .u16 x1, .string (bs z9.1), .string (bs z30.1), .int .i64 z30.2.1, .bool true, undef] (ce rfl (ce rfl (ce rfl (ce rfl (ce rfl (ce rfl (rfl))))))) ?_
              intro e72
              obtain ⟨z73, h74, q29⟩ := bindO q27
              clear q27
              refine w_law27_lives  z73 h74 (hg.le (hJ12.trans (hJ18.trans (hJ25.trans hJ33)))) hX hs35 ?_
              intro J75 w77 hJ76 hs78
              refine nrmO [108, 109] [.bool true, .bool z73] (ce rfl (ce rfl (rfl))) ?_
              intro e79
              refine bar ?_
              obtain rfl := Option.some.inj q29
              exact k J75 w77 (hJ12.trans (hJ18.trans (hJ25.trans (hJ33.trans hJ76)))) hs78
            · clear q25
              refine nrmP [1, 5, 9, 10, 11, 93] [.int .u16 x1, .string (bs z9.1), .string (bs z30.1), .int .i64 z30.2.1, .int .i64 z30.2.2, .bool false] (ce rfl (ce rfl (ce rfl (ce rfl (ce rfl (ce rfl (rfl))))))) ?_
              intro e80
              refine cdO q28 (fun h81 q30 => ?_) (fun h81 q31 => ?_)
              · clear q28
                refine cdO q30 (fun h82 q32 => ?_) (fun h82 q33 => ?_)
                · clear q30
                  refine nrmP [1, 10, 93, 101] [.int .u16 x1, .int .i64 z30.2.1, .bool false, .bool true] (ce rfl (ce rfl (ce rfl (ce rfl (rfl))))) ?_
                  intro e83
                  refine cdO q32 (fun h84 q34 => ?_) (fun h84 q35 => ?_)
                  · clear q32
                    refine nrmP [108] [.bool true] (ce rfl (rfl)) ?_
                    intro e85
                    obtain ⟨z86, h87, q36⟩ := bindO q34
                    clear q34
                    refine w_law27_lives  z86 h87 (hg.le (hJ12.trans (hJ18.trans (hJ25.trans hJ33)))) hX hs35 ?_
                    intro J88 w90 hJ89 hs91
                    refine bar ?_
                    obtain rfl := Option.some.inj q36
                    exact k J88 w90 (hJ12.trans (hJ18.trans (hJ25.trans (hJ33.trans hJ89)))) hs91
                  · clear q32
                    refine nrmO [108, 109] [.bool false, undef] (ce rfl (ce rfl (rfl))) ?_
                    intro e92
                    refine bar ?_
                    obtain rfl := Option.some.inj q35
                    exact k J32 w34 (hJ12.trans (hJ18.trans (hJ25.trans hJ33))) hs35
                · clear q30
                  refine nrmO [1, 93, 101, 102] [.int .u16 x1, .bool false, .bool false, undef] (ce rfl (ce rfl (ce rfl (ce rfl (rfl))))) ?_
                  intro e93
                  refine barN [4] [.bool false] (ce rfl (rfl)) ?_
                  intro e94
                  obtain rfl := Option.some.inj q33
                  exact k J32 w34 (hJ12.trans (hJ18.trans (hJ25.trans hJ33))) hs35
              · clear q28
                refine barN [4] [.bool false] (ce rfl (rfl)) ?_
                intro e95
                obtain rfl := Option.some.inj q31
                exact k J32 w34 (hJ12.trans (hJ18.trans (hJ25.trans hJ33))) hs35
          · clear q13
            refine nrmO [1, 5, 9, 10, 11, 89, 90] [.int .u16 x1, .string (bs z9.1), .string (bs z30.1), .int .i64 z30.2.1, .int .i64 z30.2.2, .bool false, undef] (ce rfl (ce rfl (ce rfl (ce rfl (ce rfl (ce rfl (ce rfl (rfl)))))))) ?_
            intro e96
            refine cdO q26 (fun h97 q37 => ?_) (fun h97 q38 => ?_)
            · clear q26
              refine nrmP [1, 5, 9, 10, 93, 96] [.int .u16 x1, .string (bs z9.1), .string (bs z30.1), .int .i64 z30.2.1, .bool false, .bool true] (ce rfl (ce rfl (ce rfl (ce rfl (ce rfl (ce rfl (rfl))))))) ?_
              intro e98
              refine cdO q37 (fun h99 q39 => ?_) (fun h99 q40 => ?_)
              · clear q37
                refine nrmP [1, 10, 93, 101] [.int .u16 x1, .int .i64 z30.2.1, .bool false, .bool true] (ce rfl (ce rfl (ce rfl (ce rfl (rfl))))) ?_
                intro e100
                refine cdO q39 (fun h101 q41 => ?_) (fun h101 q42 => ?_)
                · clear q39
                  refine nrmP [108] [.bool true] (ce rfl (rfl)) ?_
                  intro e102
                  obtain ⟨z103, h104, q43⟩ := bindO q41
                  clear q41
                  refine w_law27_lives  z103 h104 (hg.le (hJ12.trans (hJ18.trans (hJ25.trans hJ33)))) hX hs35 ?_
                  intro J105 w107 hJ106 hs108
                  refine bar ?_
                  obtain rfl := Option.some.inj q43
                  exact k J105 w107 (hJ12.trans (hJ18.trans (hJ25.trans (hJ33.trans hJ106)))) hs108
                · clear q39
                  refine nrmO [108, 109] [.bool false, undef] (ce rfl (ce rfl (rfl))) ?_
                  intro e109
                  refine bar ?_
                  obtain rfl := Option.some.inj q42
                  exact k J32 w34 (hJ12.trans (hJ18.trans (hJ25.trans hJ33))) hs35
              · clear q37
                refine nrmO [1, 93, 101, 102] [.int .u16 x1, .bool false, .bool false, undef] (ce rfl (ce rfl (ce rfl (ce rfl (rfl))))) ?_
                intro e110
                refine barN [4] [.bool false] (ce rfl (rfl)) ?_
                intro e111
                obtain rfl := Option.some.inj q40
                exact k J32 w34 (hJ12.trans (hJ18.trans (hJ25.trans hJ33))) hs35
            · clear q26
              refine nrmO [1, 5, 10, 93, 96, 97] [.int .u16 x1, .string (bs z9.1), .int .i64 z30.2.1, .bool false, .bool false, undef] (ce rfl (ce rfl (ce rfl (ce rfl (ce rfl (ce rfl (rfl))))))) ?_
              intro e112
              refine barN [4] [.bool false] (ce rfl (rfl)) ?_
              intro e113
              obtain rfl := Option.some.inj q38
              exact k J32 w34 (hJ12.trans (hJ18.trans (hJ25.trans hJ33))) hs35
      · intro Q114 hN115 hX116
        refine sqs ?_
        obtain ⟨z117, h118, q44⟩ := bindO q5
        clear q5
        refine w_host_Kind z9.1 z117 h118 (hg.le hJ12) hX hs14 ?_
        intro J119 w121 hJ120 hs122
        refine cdO q44 (fun h123 q45 => ?_) (fun h123 q46 => ?_)
        · clear q44
          refine nrmO [0, 1, 5, 6, 36, 37] [.string (bs x0), .int .u16 x1, .string (bs z9.1), .int .i64 z9.2.1, .bool true, undef] (ce rfl (ce rfl (ce rfl (ce rfl (ce rfl (ce rfl (rfl))))))) ?_
          intro e124
          refine barN [1, 5, 57] [.int .u16 x1, .string (bs z9.1), .bool true] (ce rfl (ce rfl (ce rfl (rfl)))) ?_
          intro e125
          refine bar ?_
          refine hX116 _ _ _ (fun h => by cases h) ?_
          obtain rfl := Option.some.inj q45
          exact k J119 w121 (hJ12.trans hJ120) hs122
        · clear q44
          refine nrmP [0, 1, 5, 6, 36] [.string (bs x0), .int .u16 x1, .string (bs z9.1), .int .i64 z9.2.1, .bool false] (ce rfl (ce rfl (ce rfl (ce rfl (ce rfl (rfl)))))) ?_
          intro e126
          refine cdO q46 (fun h127 q47 => ?_) (fun h127 q48 => ?_)
          · clear q46
            refine cnO q47 (fun h128 q49 => ?_) (fun h128 q50 => ?_)
            · clear q47
              refine nrmP [0, 1, 5, 6, 45] [.string (bs x0), .int .u16 x1, .string (bs z9.1), .int .i64 z9.2.1, .bool false] (ce rfl (ce rfl (ce rfl (ce rfl (ce rfl (rfl)))))) ?_
              intro e129
              refine cdO q49 (fun h130 q51 => ?_) (fun h130 q52 => ?_)
              · clear q49
                refine reqO q51 (fun h131 q53 => ?_)
                clear q51
                obtain ⟨z132, h133, q54⟩ := bindO q53
                clear q53
                refine w_num_Show z9.2.1 z132 h133 (hg.le (hJ12.trans hJ120)) hX (hn_Tab10.le (hJ12.trans hJ120)) hs122 ?_
                intro J134 w136 hJ135 hs137
                refine nrmO [1, 5, 45, 48, 49, 51, 53] [.int .u16 x1, .string (bs z9.1), .bool false, .bool true, .string (bs x0), .string (bs (z9.1 ++ ([58] : List UInt8))), .string (bs z132)] (ce rfl (ce rfl (ce rfl (ce rfl (ce rfl (ce rfl (ce rfl (rfl)))))))) ?_
                intro e138
                refine reqO q54 (fun h139 q55 => ?_)
                clear q54
                refine barN [1, 5, 57] [.int .u16 x1, .string (bs z9.1), .bool (!decide (x0 = ((z9.1 ++ ([58] : List UInt8)) ++ z132)))] (ce rfl (ce rfl (ce rfl (rfl)))) ?_
                intro e140
                refine cnO q55 (fun h141 q56 => ?_) (fun h141 q57 => ?_)
                · clear q55
                  exact hN115 _ _ ⟨J134, (hJ120.trans hJ135), ce rfl (ce rfl (rfl)), hs137, q56⟩
                · clear q55
                  refine sqs ?_
                  refine bar ?_
                  refine hX116 _ _ _ (fun h => by cases h) ?_
                  obtain rfl := Option.some.inj q57
                  exact k J134 w136 (hJ12.trans (hJ120.trans hJ135)) hs137
              · clear q49
                refine barN [1, 5, 57] [.int .u16 x1, .string (bs z9.1), .bool false] (ce rfl (ce rfl (ce rfl (rfl)))) ?_
                intro e142
                exact hN115 _ _ ⟨J119, hJ120, ce rfl (ce rfl (rfl)), hs122, q52⟩
            · clear q47
              refine nrmO [0, 1, 5, 6, 45, 46] [.string (bs x0), .int .u16 x1, .string (bs z9.1), .int .i64 z9.2.1, .bool true, undef] (ce rfl (ce rfl (ce rfl (ce rfl (ce rfl (ce rfl (rfl))))))) ?_
              intro e143
              refine barN [1, 5, 57] [.int .u16 x1, .string (bs z9.1), .bool true] (ce rfl (ce rfl (ce rfl (rfl)))) ?_
              intro e144
              refine bar ?_
              refine hX116 _ _ _ (fun h => by cases h) ?_
              obtain rfl := Option.some.inj q50
              exact k J119 w121 (hJ12.trans hJ120) hs122
          · clear q46
            refine cdO q48 (fun h145 q58 => ?_) (fun h145 q59 => ?_)
            · clear q48
              refine nrmP [0, 1, 5, 6, 45, 48] [.string (bs x0), .int .u16 x1, .string (bs z9.1), .int .i64 z9.2.1, .bool false, .bool true] (ce rfl (ce rfl (ce rfl (ce rfl (ce rfl (ce rfl (rfl))))))) ?_
              intro e146
              refine reqO q58 (fun h147 q60 => ?_)
              clear q58
              obtain ⟨z148, h149, q61⟩ := bindO q60
              clear q60
              refine w_num_Show z9.2.1 z148 h149 (hg.le (hJ12.trans hJ120)) hX (hn_Tab10.le (hJ12.trans hJ120)) hs122 ?_
              intro J150 w152 hJ151 hs153
              refine reqO q61 (fun h154 q62 => ?_)
              clear q61
              refine barN [1, 5, 57] [.int .u16 x1, .string (bs z9.1), .bool (!decide (x0 = ((z9.1 ++ ([58] : List UInt8)) ++ z148)))] (ce rfl (ce rfl (ce rfl (rfl)))) ?_
              intro e155
              refine cnO q62 (fun h156 q63 => ?_) (fun h156 q64 => ?_)
              · clear q62
                exact hN115 _ _ ⟨J150, (hJ120.trans hJ151), ce rfl (ce rfl (rfl)), hs153, q63⟩
              · clear q62
                refine sqs ?_
                refine bar ?_
                refine hX116 _ _ _ (fun h => by cases h) ?_
                obtain rfl := Option.some.inj q64
                exact k J150 w152 (hJ12.trans (hJ120.trans hJ151)) hs153
            · clear q48
              refine nrmO [1, 5, 6, 45, 48, 49] [.int .u16 x1, .string (bs z9.1), .int .i64 z9.2.1, .bool false, .bool false, undef] (ce rfl (ce rfl (ce rfl (ce rfl (ce rfl (ce rfl (rfl))))))) ?_
              intro e157
              refine barN [1, 5, 57] [.int .u16 x1, .string (bs z9.1), .bool false] (ce rfl (ce rfl (ce rfl (rfl)))) ?_
              intro e158
              exact hN115 _ _ ⟨J119, hJ120, ce rfl (ce rfl (rfl)), hs122, q59⟩
    · clear q4
      refine sqs ?_
      refine cdO q6 (fun h160 q65 => ?_) (fun h160 q66 => ?_)
      · clear q6
        refine nrmP [6, 26] [.int .i64 z9.2.1, .bool true] (ce rfl (ce rfl (rfl))) ?_
        intro e161
        refine cdO q65 (fun h162 q67 => ?_) (fun h162 q68 => ?_)
        · clear q65
          refine nrmP [30] [.bool true] (ce rfl (rfl)) ?_
          intro e163
          obtain ⟨z164, h165, q69⟩ := bindO q67
          clear q67
          refine w_law27_lives  z164 h165 (hg.le hJ12) hX hs14 ?_
          intro J166 w168 hJ167 hs169
          refine bar ?_
          obtain rfl := Option.some.inj q69
          exact k J166 w168 (hJ12.trans hJ167) hs169
        · clear q65
          refine nrmO [30, 31] [.bool false, undef] (ce rfl (ce rfl (rfl))) ?_
          intro e170
          refine bar ?_
          obtain rfl := Option.some.inj q68
          exact k J11 w13 hJ12 hs14
      · clear q6
        refine nrmO [26, 27] [.bool false, undef] (ce rfl (ce rfl (rfl))) ?_
        intro e171
        refine barN [4] [.bool false] (ce rfl (rfl)) ?_
        intro e172
        obtain rfl := Option.some.inj q66
        exact k J11 w13 hJ12 hs14
end B
end Go.Proofs.YtdbihpobfcbmeaaDoor
