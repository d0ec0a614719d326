/- Plain functions that stand for the program's, and the walks that show it: printed by gen.py. -/
import Derived.Test.YtdbihpobfcbmeaaDoorK27
set_option linter.unusedVariables false
set_option linter.unusedSimpArgs false
namespace Go.Proofs.YtdbihpobfcbmeaaDoor
namespace B
open Go Go.RowKit

def p_host_Parts (x0 : (List UInt8)) : Option ((List UInt8) × Int × Int) :=
  (if (230 : Int) < (x0.length : Int) then (some (([] : List UInt8), (0 : Int), (4 : Int))) else ((p_host_Kind x0).bind fun z3 => (if (0 : Int) < z3 then (some (x0, (0 : Int), (0 : Int))) else ((p_strings_LastIndexByte x0 (58 : Int)).bind fun z11 => (if z11 < (0 : Int) then (some (([] : List UInt8), (0 : Int), (25 : Int))) else (if 0 ≤ (0 : Int) ∧ (0 : Int) ≤ z11 ∧ z11 ≤ (x0.length : Int) then ((p_host_Kind (subS x0 (0 : Int) z11)).bind fun z23 => (if z23 = (0 : Int) then (some (([] : List UInt8), (0 : Int), (25 : Int))) else (if 0 ≤ (IntKind.i64.wrap (z11 + (1 : Int))) ∧ (IntKind.i64.wrap (z11 + (1 : Int))) ≤ (x0.length : Int) ∧ (x0.length : Int) ≤ (x0.length : Int) then ((p_host_number (subS x0 (IntKind.i64.wrap (z11 + (1 : Int))) (x0.length : Int)) (1 : Int) (65535 : Int)).bind fun z32 => (if z32 < (0 : Int) then (some (([] : List UInt8), (0 : Int), (25 : Int))) else (some ((subS x0 (0 : Int) z11), z32, (0 : Int))))) else none))) else none))))))
set_option maxRecDepth 10000 in
set_option maxHeartbeats 4000000 in
theorem w_host_Parts {c : Cx} {I : Im} {L : List Ent} {w : World} {K : Value → World → Prop} (x0 : (List UInt8)) (r : (List UInt8) × Int × Int) (hf : p_host_Parts x0 = some r) (hg : Glo I) (hX : ∀ b, ¬ c.X b) (hs : St c I L w)  
    (k : ∀  (J : Im) (w' : World), Le I J → St c J L w' → K (.tuple ⟨[.string (bs r.1), .int .i64 r.2.1, .int .i64 r.2.2]⟩) w') :
    callW Tryd.prog 24 [.string (bs x0)] K w := by
  unfold p_host_Parts at hf
  refine fn_of good Tryd.func24 rfl rfl rfl ?_
  refine sqs ?_
  refine bar ?_
  refine sqs ?_
  refine sqs ?_
  refine barN [0, 8] [.string (bs x0), .bool (decide ((230 : Int) < (x0.length : Int)))] (ce rfl (ce rfl (rfl))) ?_
  intro e1
  refine cdO hf (fun h2 q1 => ?_) (fun h2 q2 => ?_)
  · clear hf
    refine sqs ?_
    refine bar ?_
    obtain rfl := Option.some.inj q1
    exact k I w (Le.refl _) hs
  · clear hf
    refine bar ?_
    refine sqs ?_
    refine sqs ?_
    obtain ⟨z3, h4, q3⟩ := bindO q2
    clear q2
    refine w_host_Kind x0 z3 h4 hg hX hs ?_
    intro J5 w7 hJ6 hs8
    refine bar ?_
    refine cdO q3 (fun h9 q4 => ?_) (fun h9 q5 => ?_)
    · clear q3
      refine sqs ?_
      refine barN [2, 3, 4] [.string (bs x0), .int .i64 ((0 : Int)), .int .i64 ((0 : Int))] (ce rfl (ce rfl (ce rfl (rfl)))) ?_
      intro e10
      obtain rfl := Option.some.inj q4
      exact k J5 w7 hJ6 hs8
    · clear q3
      refine bar ?_
      refine sqs ?_
      obtain ⟨z11, h12, q6⟩ := bindO q5
      clear q5
      refine w_strings_LastIndexByte x0 (58 : Int) z11 h12 (hg.le hJ6) hX hs8 ?_
      intro J13 w15 hJ14 hs16
      refine barN [0, 5] [.string (bs x0), .int .i64 z11] (ce rfl (ce rfl (rfl))) ?_
      intro e17
      refine sqs ?_
      refine sqs ?_
      refine cdO q6 (fun h18 q7 => ?_) (fun h18 q8 => ?_)
      · clear q6
        refine nrmO [0, 5, 17, 18] [.string (bs x0), .int .i64 z11, .bool true, undef] (ce rfl (ce rfl (ce rfl (ce rfl (rfl))))) ?_
        intro e19
        refine barN [0, 5, 23] [.string (bs x0), .int .i64 z11, .bool true] (ce rfl (ce rfl (ce rfl (rfl)))) ?_
        intro e20
        refine bar ?_
        obtain rfl := Option.some.inj q7
        exact k J13 w15 (hJ6.trans hJ14) hs16
      · clear q6
        refine nrmP [0, 5, 17] [.string (bs x0), .int .i64 z11, .bool false] (ce rfl (ce rfl (ce rfl (rfl)))) ?_
        intro e21
        refine reqO q8 (fun h22 q9 => ?_)
        clear q8
        obtain ⟨z23, h24, q10⟩ := bindO q9
        clear q9
        refine w_host_Kind (subS x0 (0 : Int) z11) z23 h24 (hg.le (hJ6.trans hJ14)) hX hs16 ?_
        intro J25 w27 hJ26 hs28
        refine barN [0, 5, 23] [.string (bs x0), .int .i64 z11, .bool (decide (z23 = (0 : Int)))] (ce rfl (ce rfl (ce rfl (rfl)))) ?_
        intro e29
        refine cdO q10 (fun h30 q11 => ?_) (fun h30 q12 => ?_)
        · clear q10
          refine sqs ?_
          refine bar ?_
          obtain rfl := Option.some.inj q11
          exact k J25 w27 (hJ6.trans (hJ14.trans hJ26)) hs28
        · clear q10
          refine bar ?_
          refine sqs ?_
          refine sqs ?_
          refine reqO q12 (fun h31 q13 => ?_)
          clear q12
          obtain ⟨z32, h33, q14⟩ := bindO q13
          clear q13
          refine w_host_number (subS x0 (IntKind.i64.wrap (z11 + (1 : Int))) (x0.length : Int)) (1 : Int) (65535 : Int) z32 h33 (hg.le (hJ6.trans (hJ14.trans hJ26))) hX hs28 ?_
          intro J34 w36 hJ35 hs37
          refine barN [0, 3, 5] [.string (bs x0), .int .i64 z32, .int .i64 z11] (ce rfl (ce rfl (ce rfl (rfl)))) ?_
          intro e38
          refine sqs ?_
          refine bar ?_
          refine cdO q14 (fun h39 q15 => ?_) (fun h39 q16 => ?_)
          · clear q14
            refine sqs ?_
            refine barN [2, 3, 4] [.string (bs ([] : List UInt8)), .int .i64 ((0 : Int)), .int .i64 ((25 : Int))] (ce rfl (ce rfl (ce rfl (rfl)))) ?_
            intro e40
            obtain rfl := Option.some.inj q15
            exact k J34 w36 (hJ6.trans (hJ14.trans (hJ26.trans hJ35))) hs37
          · clear q14
            refine bar ?_
            refine sqs ?_
            refine req h22 ?_
            refine barN [2, 3, 4] [.string (bs (subS x0 (0 : Int) z11)), .int .i64 z32, .int .i64 ((0 : Int))] (ce rfl (ce rfl (ce rfl (rfl)))) ?_
            intro e41
            obtain rfl := Option.some.inj q16
            exact k J34 w36 (hJ6.trans (hJ14.trans (hJ26.trans hJ35))) hs37
def p_law27_lives  : Option (Bool) :=
  ((p_host_Parts ([97, 46, 98, 58, 56, 48] : List UInt8)).bind fun z1 => ((p_host_Parts ([49, 46, 50, 46, 51] : List UInt8)).bind fun z8 => (if z1.1 = ([97, 46, 98] : List UInt8) then (if z1.2.1 = (80 : Int) then (if z1.2.2 = (0 : Int) then (if z8.2.2 = (25 : Int) then ((p_host_Kind ([91, 58, 58, 49, 93] : List UInt8)).bind fun z23 => (if z23 = (3 : Int) then ((p_host_Kind ([91, 49, 58, 58, 50, 58, 58, 51, 93] : List UInt8)).bind fun z31 => (if z31 = (0 : Int) then ((p_host_Kind ([97, 45, 46, 98] : List UInt8)).bind fun z39 => (some (decide (z39 = (0 : Int))))) else (some false))) else (some false))) else (some false)) else (some false)) else (some false)) else (some false))))
set_option maxRecDepth 10000 in
set_option maxHeartbeats 4000000 in
theorem w_law27_lives {c : Cx} {I : Im} {L : List Ent} {w : World} {K : Value → World → Prop}  (r : Bool) (hf : p_law27_lives  = some r) (hg : Glo I) (hX : ∀ b, ¬ c.X b) (hs : St c I L w)  
    (k : ∀  (J : Im) (w' : World), Le I J → St c J L w' → K (.bool r) w') :
    callW Tryd.prog 23 [] K w := by
  unfold p_law27_lives at hf
  refine fn_of good Tryd.func23 rfl rfl rfl ?_
  refine sqs ?_
  refine bar ?_
  refine sqs ?_
  obtain ⟨z1, h2, q1⟩ := bindO hf
  clear hf
  refine w_host_Parts ([97, 46, 98, 58, 56, 48] : List UInt8) z1 h2 hg hX hs ?_
  intro J3 w5 hJ4 hs6
  refine barN [1, 2, 3] [.string (bs z1.1), .int .i64 z1.2.1, .int .i64 z1.2.2] (ce rfl (ce rfl (ce rfl (rfl)))) ?_
  intro e7
  refine sqs ?_
  obtain ⟨z8, h9, q2⟩ := bindO q1
  clear q1
  refine w_host_Parts ([49, 46, 50, 46, 51] : List UInt8) z8 h9 (hg.le hJ4) hX hs6 ?_
  intro J10 w12 hJ11 hs13
  refine barN [1, 2, 3, 6] [.string (bs z1.1), .int .i64 z1.2.1, .int .i64 z1.2.2, .int .i64 z8.2.2] (ce rfl (ce rfl (ce rfl (ce rfl (rfl))))) ?_
  intro e14
  refine sqs ?_
  refine cdO q2 (fun h15 q3 => ?_) (fun h15 q4 => ?_)
  · clear q2
    refine nrmP [2, 3, 6, 19] [.int .i64 z1.2.1, .int .i64 z1.2.2, .int .i64 z8.2.2, .bool true] (ce rfl (ce rfl (ce rfl (ce rfl (rfl))))) ?_
    intro e16
    refine cdO q3 (fun h17 q5 => ?_) (fun h17 q6 => ?_)
    · clear q3
      refine nrmP [3, 6, 23] [.int .i64 z1.2.2, .int .i64 z8.2.2, .bool true] (ce rfl (ce rfl (ce rfl (rfl)))) ?_
      intro e18
      refine cdO q5 (fun h19 q7 => ?_) (fun h19 q8 => ?_)
      · clear q5
        refine nrmP [6, 27] [.int .i64 z8.2.2, .bool true] (ce rfl (ce rfl (rfl))) ?_
        intro e20
        refine cdO q7 (fun h21 q9 => ?_) (fun h21 q10 => ?_)
        · clear q7
          refine nrmP [31] [.bool true] (ce rfl (rfl)) ?_
          intro e22
          obtain ⟨z23, h24, q11⟩ := bindO q9
          clear q9
          refine w_host_Kind ([91, 58, 58, 49, 93] : List UInt8) z23 h24 (hg.le (hJ4.trans hJ11)) hX hs13 ?_
          intro J25 w27 hJ26 hs28
          refine cdO q11 (fun h29 q12 => ?_) (fun h29 q13 => ?_)
          · clear q11
            refine nrmP [35] [.bool true] (ce rfl (rfl)) ?_
            intro e30
            obtain ⟨z31, h32, q14⟩ := bindO q12
            clear q12
            refine w_host_Kind ([91, 49, 58, 58, 50, 58, 58, 51, 93] : List UInt8) z31 h32 (hg.le (hJ4.trans (hJ11.trans hJ26))) hX hs28 ?_
            intro J33 w35 hJ34 hs36
            refine cdO q14 (fun h37 q15 => ?_) (fun h37 q16 => ?_)
            · clear q14
              refine nrmP [39] [.bool true] (ce rfl (rfl)) ?_
              intro e38
              obtain ⟨z39, h40, q17⟩ := bindO q15
              clear q15
              refine w_host_Kind ([97, 45, 46, 98] : List UInt8) z39 h40 (hg.le (hJ4.trans (hJ11.trans (hJ26.trans hJ34)))) hX hs36 ?_
              intro J41 w43 hJ42 hs44
              refine bar ?_
              obtain rfl := Option.some.inj q17
              exact k J41 w43 (hJ4.trans (hJ11.trans (hJ26.trans (hJ34.trans hJ42)))) hs44
            · clear q14
              refine nrmO [39, 40] [.bool false, undef] (ce rfl (ce rfl (rfl))) ?_
              intro e45
              refine bar ?_
              obtain rfl := Option.some.inj q16
              exact k J33 w35 (hJ4.trans (hJ11.trans (hJ26.trans hJ34))) hs36
          · clear q11
            refine nrmO [35, 36] [.bool false, undef] (ce rfl (ce rfl (rfl))) ?_
            intro e46
            refine barN [0] [.bool false] (ce rfl (rfl)) ?_
            intro e47
            obtain rfl := Option.some.inj q13
            exact k J25 w27 (hJ4.trans (hJ11.trans hJ26)) hs28
        · clear q7
          refine nrmO [31, 32] [.bool false, undef] (ce rfl (ce rfl (rfl))) ?_
          intro e48
          refine barN [0] [.bool false] (ce rfl (rfl)) ?_
          intro e49
          obtain rfl := Option.some.inj q10
          exact k J10 w12 (hJ4.trans hJ11) hs13
      · clear q5
        refine nrmO [27, 28] [.bool false, undef] (ce rfl (ce rfl (rfl))) ?_
        intro e50
        refine barN [0] [.bool false] (ce rfl (rfl)) ?_
        intro e51
        obtain rfl := Option.some.inj q8
        exact k J10 w12 (hJ4.trans hJ11) hs13
    · clear q3
      refine nrmO [6, 23, 24] [.int .i64 z8.2.2, .bool false, undef] (ce rfl (ce rfl (ce rfl (rfl)))) ?_
      intro e52
      refine barN [0] [.bool false] (ce rfl (rfl)) ?_
      intro e53
      obtain rfl := Option.some.inj q6
      exact k J10 w12 (hJ4.trans hJ11) hs13
  · clear q2
    refine nrmO [3, 6, 19, 20] [.int .i64 z1.2.2, .int .i64 z8.2.2, .bool false, undef] (ce rfl (ce rfl (ce rfl (ce rfl (rfl))))) ?_
    intro e54
    refine barN [0] [.bool false] (ce rfl (rfl)) ?_
    intro e55
    obtain rfl := Option.some.inj q4
    exact k J10 w12 (hJ4.trans hJ11) hs13
def p_law27_HostTells (x0 : (List UInt8)) : Option (Bool) :=
  (if (300 : Int) < (x0.length : Int) then ((p_law27_lives).bind fun z3 => (some z3)) else ((p_host_Parts x0).bind fun z9 => ((p_ref27_Parts x0).bind fun z16 => ((p_host_Kind x0).bind fun z23 => ((p_ref27_Kind x0).bind fun z29 => (if z23 = z29 then (if z9.1 = z16.1 then (if z9.2.1 = z16.2.1 then (if z9.2.2 = z16.2.2 then ((p_law27_lives).bind fun z43 => (some z43)) else (some false)) else (some false)) else (some false)) else (some false)))))))
set_option maxRecDepth 10000 in
set_option maxHeartbeats 4000000 in
theorem w_law27_HostTells {c : Cx} {I : Im} {L : List Ent} {w : World} {K : Value → World → Prop} (x0 : (List UInt8)) (r : Bool) (hf : p_law27_HostTells x0 = some r) (hg : Glo I) (hX : ∀ b, ¬ c.X b) (hs : St c I L w)  
    (k : ∀  (J : Im) (w' : World), Le I J → St c J L w' → K (.bool r) w') :
    callW Tryd.prog 5 [.string (bs x0)] K w := by
  unfold p_law27_HostTells at hf
  refine fn_of good Tryd.func5 rfl rfl rfl ?_
  refine sqs ?_
  refine bar ?_
  refine sqs ?_
  refine sqs ?_
  refine barN [0, 11] [.string (bs x0), .bool (decide ((300 : Int) < (x0.length : Int)))] (ce rfl (ce rfl (rfl))) ?_
  intro e1
  refine cdO hf (fun h2 q1 => ?_) (fun h2 q2 => ?_)
  · clear hf
    refine sqs ?_
    obtain ⟨z3, h4, q3⟩ := bindO q1
    clear q1
    refine w_law27_lives  z3 h4 hg hX hs ?_
    intro J5 w7 hJ6 hs8
    refine bar ?_
    obtain rfl := Option.some.inj q3
    exact k J5 w7 hJ6 hs8
  · clear hf
    refine bar ?_
    refine sqs ?_
    obtain ⟨z9, h10, q4⟩ := bindO q2
    clear q2
    refine w_host_Parts x0 z9 h10 hg hX hs ?_
    intro J11 w13 hJ12 hs14
    refine barN [0, 3, 4, 5] [.string (bs x0), .string (bs z9.1), .int .i64 z9.2.1, .int .i64 z9.2.2] (ce rfl (ce rfl (ce rfl (ce rfl (rfl))))) ?_
    intro e15
    refine sqs ?_
    obtain ⟨z16, h17, q5⟩ := bindO q4
    clear q4
    refine w_ref27_Parts x0 z16 h17 (hg.le hJ12) hX hs14 ?_
    intro J18 w20 hJ19 hs21
    refine barN [0, 3, 4, 5, 6, 7, 8] [.string (bs x0), .string (bs z9.1), .int .i64 z9.2.1, .int .i64 z9.2.2, .string (bs z16.1), .int .i64 z16.2.1, .int .i64 z16.2.2] (ce rfl (ce rfl (ce rfl (ce rfl (ce rfl (ce rfl (ce rfl (rfl)))))))) ?_
    intro e22
    refine sqs ?_
    obtain ⟨z23, h24, q6⟩ := bindO q5
    clear q5
    refine w_host_Kind x0 z23 h24 (hg.le (hJ12.trans hJ19)) hX hs21 ?_
    intro J25 w27 hJ26 hs28
    obtain ⟨z29, h30, q7⟩ := bindO q6
    clear q6
    refine w_ref27_Kind x0 z29 h30 (hg.le (hJ12.trans (hJ19.trans hJ26))) hX hs28 ?_
    intro J31 w33 hJ32 hs34
    refine cdO q7 (fun h35 q8 => ?_) (fun h35 q9 => ?_)
    · clear q7
      refine nrmP [3, 4, 5, 6, 7, 8, 30] [.string (bs z9.1), .int .i64 z9.2.1, .int .i64 z9.2.2, .string (bs z16.1), .int .i64 z16.2.1, .int .i64 z16.2.2, .bool true] (ce rfl (ce rfl (ce rfl (ce rfl (ce rfl (ce rfl (ce rfl (rfl)))))))) ?_
      intro e36
      refine cdO q8 (fun h37 q10 => ?_) (fun h37 q11 => ?_)
      · clear q8
        refine nrmP [4, 5, 7, 8, 35] [.int .i64 z9.2.1, .int .i64 z9.2.2, .int .i64 z16.2.1, .int .i64 z16.2.2, .bool true] (ce rfl (ce rfl (ce rfl (ce rfl (ce rfl (rfl)))))) ?_
        intro e38
        refine cdO q10 (fun h39 q12 => ?_) (fun h39 q13 => ?_)
        · clear q10
          refine nrmP [5, 8, 40] [.int .i64 z9.2.2, .int .i64 z16.2.2, .bool true] (ce rfl (ce rfl (ce rfl (rfl)))) ?_
          intro e40
          refine cdO q12 (fun h41 q14 => ?_) (fun h41 q15 => ?_)
          · clear q12
            refine nrmP [45] [.bool true] (ce rfl (rfl)) ?_
            intro e42
            obtain ⟨z43, h44, q16⟩ := bindO q14
            clear q14
            refine w_law27_lives  z43 h44 (hg.le (hJ12.trans (hJ19.trans (hJ26.trans hJ32)))) hX hs34 ?_
            intro J45 w47 hJ46 hs48
            refine bar ?_
            obtain rfl := Option.some.inj q16
            exact k J45 w47 (hJ12.trans (hJ19.trans (hJ26.trans (hJ32.trans hJ46)))) hs48
          · clear q12
            refine nrmO [45, 46] [.bool false, undef] (ce rfl (ce rfl (rfl))) ?_
            intro e49
            refine bar ?_
            obtain rfl := Option.some.inj q15
            exact k J31 w33 (hJ12.trans (hJ19.trans (hJ26.trans hJ32))) hs34
        · clear q10
          refine nrmO [8, 40, 41] [.int .i64 z16.2.2, .bool false, undef] (ce rfl (ce rfl (ce rfl (rfl)))) ?_
          intro e50
          refine barN [2] [.bool false] (ce rfl (rfl)) ?_
          intro e51
          obtain rfl := Option.some.inj q13
          exact k J31 w33 (hJ12.trans (hJ19.trans (hJ26.trans hJ32))) hs34
      · clear q8
        refine nrmO [5, 7, 8, 35, 36] [.int .i64 z9.2.2, .int .i64 z16.2.1, .int .i64 z16.2.2, .bool false, undef] (ce rfl (ce rfl (ce rfl (ce rfl (ce rfl (rfl)))))) ?_
        intro e52
        refine barN [2] [.bool false] (ce rfl (rfl)) ?_
        intro e53
        obtain rfl := Option.some.inj q11
        exact k J31 w33 (hJ12.trans (hJ19.trans (hJ26.trans hJ32))) hs34
    · clear q7
      refine nrmO [4, 5, 6, 7, 8, 30, 31] [.int .i64 z9.2.1, .int .i64 z9.2.2, .string (bs z16.1), .int .i64 z16.2.1, .int .i64 z16.2.2, .bool false, undef] (ce rfl (ce rfl (ce rfl (ce rfl (ce rfl (ce rfl (ce rfl (rfl)))))))) ?_
      intro e54
      refine barN [2] [.bool false] (ce rfl (rfl)) ?_
      intro e55
      obtain rfl := Option.some.inj q9
      exact k J31 w33 (hJ12.trans (hJ19.trans (hJ26.trans hJ32))) hs34
end B
end Go.Proofs.YtdbihpobfcbmeaaDoor
