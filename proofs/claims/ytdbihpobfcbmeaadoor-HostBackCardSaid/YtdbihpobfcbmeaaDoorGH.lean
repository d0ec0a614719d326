/- Plain functions that stand for the program's, and the walks that show it: printed by gen.py. -/
import Derived.Test.YtdbihpobfcbmeaaDoorM1
set_option linter.unusedVariables false
set_option linter.unusedSimpArgs false
namespace Go.Proofs.YtdbihpobfcbmeaaDoor
namespace B
open Go Go.RowKit

def p_internal_bytealg_LastIndexByteString_b1 (x0 : (List UInt8)) (x1 : Int) (v23 : Int) : Option ((Int) ⊕ (Int)) :=
  (if (0 : Int) ≤ v23 then (if 0 ≤ v23 ∧ v23 < (x0.length : Int) then (if ((x0.getD v23.toNat 0).toNat : Int) = x1 then (Option.map Sum.inr (some v23)) else (some (.inl ((IntKind.i64.wrap (v23 - (1 : Int))))))) else none) else (Option.map Sum.inr (some (-1 : Int))))
def p_internal_bytealg_LastIndexByteString (x0 : (List UInt8)) (x1 : Int) : Option (Int) :=
  (loopO (fun (s : Int) => p_internal_bytealg_LastIndexByteString_b1 x0 x1 s) ((IntKind.i64.wrap ((x0.length : Int) - (1 : Int)))))
set_option maxRecDepth 10000 in
set_option maxHeartbeats 4000000 in
theorem w_internal_bytealg_LastIndexByteString {c : Cx} {I : Im} {L : List Ent} {w : World} {K : Value → World → Prop} (x0 : (List UInt8)) (x1 : Int) (r : Int) (hf : p_internal_bytealg_LastIndexByteString x0 x1 = some r) (hg : Glo I) (hX : ∀ b, ¬ c.X b) (hs : St c I L w)  
    (k : ∀  (J : Im) (w' : World), Le I J → St c J L w' → K (.int .i64 r) w') :
    callW Tryd.prog 125 [.string (bs x0), .int .u8 x1] K w := by
  unfold p_internal_bytealg_LastIndexByteString at hf
  refine fn_of good Tryd.func125 rfl rfl rfl ?_
  refine sqs ?_
  refine bar ?_
  refine sqs ?_
  refine sqs ?_
  refine barN [0, 1, 5] [.string (bs x0), .int .u8 x1, .int .i64 ((IntKind.i64.wrap ((x0.length : Int) - (1 : Int))))] (ce rfl (ce rfl (ce rfl (rfl)))) ?_
  intro e1
  refine blk ?_
  refine loopP hf [0, 1, 5] (fun (s : Int) vs w' => ∃ (J : Im), Le I J ∧ vs = [.string (bs x0), .int .u8 x1, .int .i64 s] ∧ St c J (L) w') ⟨I, Le.refl _, ce rfl (ce rfl (ce rfl (rfl))), hs⟩ ?_
  clear hf
  rintro Z25 v23 t24 vs e35 w21 hI q1 hZ26
  try dsimp only at hI
  obtain ⟨J19, hJ20, rfl, hs22⟩ := hI
  replace q1 : p_internal_bytealg_LastIndexByteString_b1 x0 x1 v23 = some t24 := q1
  unfold p_internal_bytealg_LastIndexByteString_b1 at q1
  refine sqs ?_
  refine sqs ?_
  refine bar ?_
  refine cdO q1 (fun h27 q2 => ?_) (fun h27 q3 => ?_)
  · clear q1
    refine bar ?_
    refine sqs ?_
    refine blk ?_
    refine sqs ?_
    refine reqO q2 (fun h28 q4 => ?_)
    clear q2
    refine barN [0, 1, 5, 17] [.string (bs x0), .int .u8 x1, .int .i64 v23, .bool (decide (((x0.getD v23.toNat 0).toNat : Int) = x1))] (ce rfl (ce rfl (ce rfl (ce rfl (rfl))))) ?_
    intro e29
    refine cdO q4 (fun h30 q5 => ?_) (fun h30 q6 => ?_)
    · clear q4
      refine sqs ?_
      refine bar ?_
      obtain ⟨r31, hm32, rfl⟩ := mapO q5
      clear q5
      obtain rfl : r31 = _ := hZ26
      obtain rfl := Option.some.inj hm32
      exact k J19 w21 hJ20 hs22
    · clear q4
      refine bar ?_
      obtain rfl := Option.some.inj q6
      exact hZ26 _ _ ⟨J19, hJ20, ce rfl (ce rfl (ce rfl (rfl))), hs22⟩
  · clear q1
    obtain ⟨r33, hm34, rfl⟩ := mapO q3
    clear q3
    obtain rfl : r33 = _ := hZ26
    refine bar ?_
    refine sqs ?_
    refine bar ?_
    obtain rfl := Option.some.inj hm34
    exact k J19 w21 hJ20 hs22
def p_strings_LastIndexByte (x0 : (List UInt8)) (x1 : Int) : Option (Int) :=
  ((p_internal_bytealg_LastIndexByteString x0 x1).bind fun z1 => (some z1))
set_option maxRecDepth 10000 in
set_option maxHeartbeats 4000000 in
theorem w_strings_LastIndexByte {c : Cx} {I : Im} {L : List Ent} {w : World} {K : Value → World → Prop} (x0 : (List UInt8)) (x1 : Int) (r : Int) (hf : p_strings_LastIndexByte x0 x1 = some r) (hg : Glo I) (hX : ∀ b, ¬ c.X b) (hs : St c I L w)  
    (k : ∀  (J : Im) (w' : World), Le I J → St c J L w' → K (.int .i64 r) w') :
    callW Tryd.prog 72 [.string (bs x0), .int .u8 x1] K w := by
  unfold p_strings_LastIndexByte at hf
  refine fn_of good Tryd.func72 rfl rfl rfl ?_
  refine sqs ?_
  refine bar ?_
  refine sqs ?_
  obtain ⟨z1, h2, q1⟩ := bindO hf
  clear hf
  refine w_internal_bytealg_LastIndexByteString x0 x1 z1 h2 hg hX hs ?_
  intro J3 w5 hJ4 hs6
  refine barN [4] [.int .i64 z1] (ce rfl (rfl)) ?_
  intro e7
  obtain rfl := Option.some.inj q1
  exact k J3 w5 hJ4 hs6
def p_num_Scan_j3 (x1 : Int) (v16 : Int) (v32 : Int) (v33 : Int) (v34 : Bool) : Option (Int × Int × Int) :=
  (if v34 = true then (some ((0 : Int), (0 : Int), (2 : Int))) else (if x1 < v16 then (some ((IntKind.i64.wrap (0 - v32)), v33, (0 : Int))) else (some (v32, v33, (0 : Int)))))
def p_num_Scan_j2 (x0 : (List UInt8)) (x1 : Int) (v16 : Int) (v32 : Int) (v33 : Int) (v34 : Bool) : Option (Int × Int × Int) :=
  (if ((x0.getD v16.toNat 0).toNat : Int) = (48 : Int) then (if (IntKind.i64.wrap (v16 + (1 : Int))) < v33 then (some ((0 : Int), (0 : Int), (12 : Int))) else (if x1 < v16 then (some ((0 : Int), (0 : Int), (12 : Int))) else (if v33 < (x0.length : Int) then (if 0 ≤ v33 ∧ v33 < (x0.length : Int) then (if ((x0.getD v33.toNat 0).toNat : Int) = (46 : Int) then (some ((0 : Int), (0 : Int), (12 : Int))) else (if ((x0.getD v33.toNat 0).toNat : Int) = (101 : Int) then (some ((0 : Int), (0 : Int), (12 : Int))) else (if ((x0.getD v33.toNat 0).toNat : Int) = (69 : Int) then (some ((0 : Int), (0 : Int), (12 : Int))) else (p_num_Scan_j3 x1 v16 v32 v33 v34)))) else none) else (p_num_Scan_j3 x1 v16 v32 v33 v34)))) else (if v33 < (x0.length : Int) then (if 0 ≤ v33 ∧ v33 < (x0.length : Int) then (if ((x0.getD v33.toNat 0).toNat : Int) = (46 : Int) then (some ((0 : Int), (0 : Int), (12 : Int))) else (if ((x0.getD v33.toNat 0).toNat : Int) = (101 : Int) then (some ((0 : Int), (0 : Int), (12 : Int))) else (if ((x0.getD v33.toNat 0).toNat : Int) = (69 : Int) then (some ((0 : Int), (0 : Int), (12 : Int))) else (p_num_Scan_j3 x1 v16 v32 v33 v34)))) else none) else (p_num_Scan_j3 x1 v16 v32 v33 v34)))
def p_num_Scan_b1 (x0 : (List UInt8)) (x1 : Int) (v16 : Int) (v148 : Int) (v149 : Int) (v150 : Bool) : Option ((Int × Int × Bool) ⊕ (Int × Int × Int)) :=
  (if v149 < (x0.length : Int) then (if 0 ≤ v149 ∧ v149 < (x0.length : Int) then (if (48 : Int) ≤ ((x0.getD v149.toNat 0).toNat : Int) then (if ((x0.getD v149.toNat 0).toNat : Int) ≤ (57 : Int) then (if (9007199254740991 : Int) < (IntKind.i64.wrap ((IntKind.i64.wrap ((10 : Int) * v148)) + (IntKind.i64.wrap (IntKind.u8.wrap (((x0.getD v149.toNat 0).toNat : Int) - (48 : Int)))))) then (some (.inl ((9007199254740991 : Int), (IntKind.i64.wrap (v149 + (1 : Int))), true))) else (some (.inl ((IntKind.i64.wrap ((IntKind.i64.wrap ((10 : Int) * v148)) + (IntKind.i64.wrap (IntKind.u8.wrap (((x0.getD v149.toNat 0).toNat : Int) - (48 : Int)))))), (IntKind.i64.wrap (v149 + (1 : Int))), v150)))) else (Option.map Sum.inr (p_num_Scan_j2 x0 x1 v16 v148 v149 v150))) else (Option.map Sum.inr (p_num_Scan_j2 x0 x1 v16 v148 v149 v150))) else none) else (Option.map Sum.inr (p_num_Scan_j2 x0 x1 v16 v148 v149 v150)))
def p_num_Scan_j1 (x0 : (List UInt8)) (x1 : Int) (v16 : Int) : Option (Int × Int × Int) :=
  (if v16 = (x0.length : Int) then (some ((0 : Int), (0 : Int), (5 : Int))) else (if v16 < (x0.length : Int) then (if 0 ≤ v16 ∧ v16 < (x0.length : Int) then (if (48 : Int) ≤ ((x0.getD v16.toNat 0).toNat : Int) then (if ((x0.getD v16.toNat 0).toNat : Int) ≤ (57 : Int) then (loopO (fun (s : Int × Int × Bool) => p_num_Scan_b1 x0 x1 v16 s.1 s.2.1 s.2.2) ((0 : Int), v16, false)) else (some ((0 : Int), (0 : Int), (6 : Int)))) else (some ((0 : Int), (0 : Int), (6 : Int)))) else none) else (some ((0 : Int), (0 : Int), (6 : Int)))))
def p_num_Scan (x0 : (List UInt8)) (x1 : Int) : Option (Int × Int × Int) :=
  (if x1 < (0 : Int) then (some ((0 : Int), (0 : Int), (1 : Int))) else (if (x0.length : Int) < x1 then (some ((0 : Int), (0 : Int), (1 : Int))) else (if x1 < (x0.length : Int) then (if 0 ≤ x1 ∧ x1 < (x0.length : Int) then (if ((x0.getD x1.toNat 0).toNat : Int) = (45 : Int) then (p_num_Scan_j1 x0 x1 (IntKind.i64.wrap (x1 + (1 : Int)))) else (p_num_Scan_j1 x0 x1 x1)) else none) else (p_num_Scan_j1 x0 x1 x1))))
set_option maxRecDepth 10000 in
set_option maxHeartbeats 4000000 in
theorem w_num_Scan {c : Cx} {I : Im} {L : List Ent} {w : World} {K : Value → World → Prop} (x0 : (List UInt8)) (x1 : Int) (r : Int × Int × Int) (hf : p_num_Scan x0 x1 = some r) (hg : Glo I) (hX : ∀ b, ¬ c.X b) (hs : St c I L w)  
    (k : ∀  (J : Im) (w' : World), Le I J → St c J L w' → K (.tuple ⟨[.int .i64 r.1, .int .i64 r.2.1, .int .i64 r.2.2]⟩) w') :
    callW Tryd.prog 126 [.string (bs x0), .int .i64 x1] K w := by
  unfold p_num_Scan at hf
  refine fn_of good Tryd.func126 rfl rfl rfl ?_
  refine sqs ?_
  refine new hs ?_
  intro b1 w2 hs3
  have hs3 : St c I (.blk b1 (.cells ⟨[.string (bs x0)]⟩ 9) :: L) w2 := hs3
  refine barN [1, 2, 4] [.int .i64 x1, .pointer (some ⟨b1, 0, none⟩), .int .i64 ((0 : Int))] (ce rfl (ce rfl (ce rfl (rfl)))) ?_
  intro e4
  refine scp good 0 rfl ?_
  refine sqs ?_
  refine sqs ?_
  refine cdO hf (fun h5 q1 => ?_) (fun h5 q2 => ?_)
  · clear hf
    refine nrmO [1, 2, 4, 12, 13] [.int .i64 x1, .pointer (some ⟨b1, 0, none⟩), .int .i64 ((0 : Int)), .bool true, undef] (ce rfl (ce rfl (ce rfl (ce rfl (ce rfl (rfl)))))) ?_
    intro e6
    refine barN [1, 2, 4, 17] [.int .i64 x1, .pointer (some ⟨b1, 0, none⟩), .int .i64 ((0 : Int)), .bool true] (ce rfl (ce rfl (ce rfl (ce rfl (rfl))))) ?_
    intro e7
    refine bar ?_
    obtain rfl := Option.some.inj q1
    exact k I w2 (Le.refl _) (hs3.drop 0)
  · clear hf
    refine nrmP [1, 2, 4, 12] [.int .i64 x1, .pointer (some ⟨b1, 0, none⟩), .int .i64 ((0 : Int)), .bool false] (ce rfl (ce rfl (ce rfl (ce rfl (rfl))))) ?_
    intro e8
    refine ld 0 hs3 rfl rfl rfl ?_
    refine barN [1, 2, 4, 17] [.int .i64 x1, .pointer (some ⟨b1, 0, none⟩), .int .i64 ((0 : Int)), .bool (decide ((x0.length : Int) < x1))] (ce rfl (ce rfl (ce rfl (ce rfl (rfl))))) ?_
    intro e9
    refine cdO q2 (fun h10 q3 => ?_) (fun h10 q4 => ?_)
    · clear q2
      refine sqs ?_
      refine bar ?_
      obtain rfl := Option.some.inj q3
      exact k I w2 (Le.refl _) (hs3.drop 0)
    · clear q2
      refine bar ?_
      refine sqs ?_
      refine bar ?_
      refine sqs ?_
      refine barN [1, 2, 4, 7, 8] [.int .i64 x1, .pointer (some ⟨b1, 0, none⟩), .int .i64 ((0 : Int)), .func (.func 167) ⟨[]⟩ ⟨[.pointer (some ⟨b1, 0, none⟩)]⟩, .int .i64 x1] (ce rfl (ce rfl (ce rfl (ce rfl (ce rfl (rfl)))))) ?_
      intro e11
      refine sqs ?_
      refine cutc [1, 2, 4, 7, 8] (fun vs w' => ∃ (v16 : Int) (J : Im), Le I J ∧ vs = [.int .i64 x1, .pointer (some ⟨b1, 0, none⟩), .int .i64 ((0 : Int)), .func (.func 167) ⟨[]⟩ ⟨[.pointer (some ⟨b1, 0, none⟩)]⟩, .int .i64 v16] ∧ St c J (.blk b1 (.cells ⟨[.string (bs x0)]⟩ 9) :: L) w' ∧ p_num_Scan_j1 x0 x1 v16 = some r) ?_ ?_
      · clear q4
        rintro vs e197 w14 ⟨v16, J12, hJ13, rfl, hs15, q5⟩
        unfold p_num_Scan_j1 at q5
        refine bar ?_
        refine sqs ?_
        refine bar ?_
        refine sqs ?_
        refine bar ?_
        refine sqs ?_
        refine sqs ?_
        refine ld 0 hs15 rfl rfl rfl ?_
        refine barN [1, 2, 4, 5, 7, 8, 9, 36] [.int .i64 x1, .pointer (some ⟨b1, 0, none⟩), .int .i64 ((0 : Int)), .int .i64 v16, .func (.func 167) ⟨[]⟩ ⟨[.pointer (some ⟨b1, 0, none⟩)]⟩, .int .i64 v16, .bool false, .bool (decide (v16 = (x0.length : Int)))] (ce rfl (ce rfl (ce rfl (ce rfl (ce rfl (ce rfl (ce rfl (ce rfl (rfl))))))))) ?_
        intro e17
        refine cdO q5 (fun h18 q6 => ?_) (fun h18 q7 => ?_)
        · clear q5
          refine sqs ?_
          refine bar ?_
          refine nrmW [6] [.int .i64 ((5 : Int))] (ce rfl (rfl)) ?_
          intro e19
          refine bar ?_
          refine barN [4, 5, 6] [.int .i64 ((0 : Int)), .int .i64 ((0 : Int)), .int .i64 ((5 : Int))] (ce rfl (ce rfl (ce rfl (rfl)))) ?_
          intro e20
          obtain rfl := Option.some.inj q6
          exact k J12 w14 hJ13 (hs15.drop 0)
        · clear q5
          refine bar ?_
          refine sqs ?_
          refine sqs ?_
          refine fn_of good Tryd.func167 rfl rfl rfl ?_
          refine sqs ?_
          refine bar ?_
          refine sqs ?_
          refine ld 0 hs15 rfl rfl rfl ?_
          refine cdO q7 (fun h21 q8 => ?_) (fun h21 q9 => ?_)
          · clear q7
            refine nrmP [0, 1, 8] [.int .i64 v16, .pointer (some ⟨b1, 0, none⟩), .bool true] (ce rfl (ce rfl (ce rfl (rfl)))) ?_
            intro e22
            refine ld 0 hs15 rfl rfl rfl ?_
            refine reqO q8 (fun h23 q10 => ?_)
            clear q8
            refine cdO q10 (fun h24 q11 => ?_) (fun h24 q12 => ?_)
            · clear q10
              refine nrmP [0, 1, 14] [.int .i64 v16, .pointer (some ⟨b1, 0, none⟩), .bool true] (ce rfl (ce rfl (ce rfl (rfl)))) ?_
              intro e25
              refine ld 0 hs15 rfl rfl rfl ?_
              refine req h23 ?_
              refine barN [3] [.bool (decide (((x0.getD v16.toNat 0).toNat : Int) ≤ (57 : Int)))] (ce rfl (rfl)) ?_
              intro e26
              refine bar ?_
              refine cnO q11 (fun h27 q13 => ?_) (fun h27 q14 => ?_)
              · clear q11
                refine bar ?_
                refine sqs ?_
                refine bar ?_
                refine sqs ?_
                refine cutc [1, 2, 4, 5, 8, 9] (fun vs w' => ∃ (v32 : Int) (v33 : Int) (v34 : Bool) (J : Im), Le J12 J ∧ vs = [.int .i64 x1, .pointer (some ⟨b1, 0, none⟩), .int .i64 v32, .int .i64 v33, .int .i64 v16, .bool v34] ∧ St c J (.blk b1 (.cells ⟨[.string (bs x0)]⟩ 9) :: L) w' ∧ p_num_Scan_j2 x0 x1 v16 v32 v33 v34 = some r) ?_ ?_
                · clear q13
                  rintro vs e176 w30 ⟨v32, v33, v34, J28, hJ29, rfl, hs31, q15⟩
                  unfold p_num_Scan_j2 at q15
                  refine bar ?_
                  refine sqs ?_
                  refine cutc [1, 4, 5, 8, 9] (fun vs w' => ∃ (J : Im), Le J28 J ∧ vs = [.int .i64 x1, .int .i64 v32, .int .i64 v33, .int .i64 v16, .bool v34] ∧ St c J (.blk b1 (.cells ⟨[.string (bs x0)]⟩ 9) :: L) w' ∧ p_num_Scan_j3 x1 v16 v32 v33 v34 = some r) ?_ ?_
                  · clear q15
                    rintro vs e107 w37 ⟨J35, hJ36, rfl, hs38, q16⟩
                    unfold p_num_Scan_j3 at q16
                    refine bar ?_
                    refine sqs ?_
                    refine sqs ?_
                    refine bar ?_
                    refine csO q16 (fun h39 q17 => ?_) (fun h39 q18 => ?_)
                    · clear q16
                      refine sqs ?_
                      refine bar ?_
                      refine nrmW [6] [.int .i64 ((2 : Int))] (ce rfl (rfl)) ?_
                      intro e40
                      refine bar ?_
                      refine barN [4, 5, 6] [.int .i64 ((0 : Int)), .int .i64 ((0 : Int)), .int .i64 ((2 : Int))] (ce rfl (ce rfl (ce rfl (rfl)))) ?_
                      intro e41
                      obtain rfl := Option.some.inj q17
                      exact k J35 w37 (hJ13.trans (hJ29.trans hJ36)) (hs38.drop 0)
                    · clear q16
                      refine bar ?_
                      refine sqs ?_
                      refine sqs ?_
                      refine barN [4, 5, 99] [.int .i64 v32, .int .i64 v33, .bool (decide (x1 < v16))] (ce rfl (ce rfl (ce rfl (rfl)))) ?_
                      intro e42
                      refine cdO q18 (fun h43 q19 => ?_) (fun h43 q20 => ?_)
                      · clear q18
                        refine bar ?_
                        refine sqs ?_
                        refine sqs ?_
                        refine barN [4, 5, 6] [.int .i64 ((IntKind.i64.wrap (0 - v32))), .int .i64 v33, .int .i64 ((0 : Int))] (ce rfl (ce rfl (ce rfl (rfl)))) ?_
                        intro e44
                        obtain rfl := Option.some.inj q19
                        exact k J35 w37 (hJ13.trans (hJ29.trans hJ36)) (hs38.drop 0)
                      · clear q18
                        refine bar ?_
                        refine sqs ?_
                        refine sqs ?_
                        refine barN [4, 5, 6] [.int .i64 v32, .int .i64 v33, .int .i64 ((0 : Int))] (ce rfl (ce rfl (ce rfl (rfl)))) ?_
                        intro e45
                        obtain rfl := Option.some.inj q20
                        exact k J35 w37 (hJ13.trans (hJ29.trans hJ36)) (hs38.drop 0)
                  · intro Q46 hN47 hX48
                    refine sqs ?_
                    refine ld 0 hs31 rfl rfl rfl ?_
                    refine req h23 ?_
                    refine cdO q15 (fun h49 q21 => ?_) (fun h49 q22 => ?_)
                    · clear q15
                      refine nrmP [1, 2, 4, 5, 8, 9, 61] [.int .i64 x1, .pointer (some ⟨b1, 0, none⟩), .int .i64 v32, .int .i64 v33, .int .i64 v16, .bool v34, .bool true] (ce rfl (ce rfl (ce rfl (ce rfl (ce rfl (ce rfl (ce rfl (rfl)))))))) ?_
                      intro e50
                      refine cdO q21 (fun h51 q23 => ?_) (fun h51 q24 => ?_)
                      · clear q21
                        refine nrmO [1, 2, 4, 5, 8, 9, 61, 66, 67] [.int .i64 x1, .pointer (some ⟨b1, 0, none⟩), .int .i64 v32, .int .i64 v33, .int .i64 v16, .bool v34, .bool true, .bool true, undef] (ce rfl (ce rfl (ce rfl (ce rfl (ce rfl (ce rfl (ce rfl (ce rfl (ce rfl (rfl)))))))))) ?_
                        intro e52
                        refine barN [1, 4, 5, 8, 9, 95] [.int .i64 x1, .int .i64 v32, .int .i64 v33, .int .i64 v16, .bool v34, .bool true] (ce rfl (ce rfl (ce rfl (ce rfl (ce rfl (ce rfl (rfl))))))) ?_
                        intro e53
                        refine bar ?_
                        refine hX48 _ _ _ (fun h => by cases h) ?_
                        refine nrmW [6] [.int .i64 ((12 : Int))] (ce rfl (rfl)) ?_
                        intro e54
                        refine bar ?_
                        refine barN [4, 5, 6] [.int .i64 ((0 : Int)), .int .i64 ((0 : Int)), .int .i64 ((12 : Int))] (ce rfl (ce rfl (ce rfl (rfl)))) ?_
                        intro e55
                        obtain rfl := Option.some.inj q23
                        exact k J28 w30 (hJ13.trans hJ29) (hs31.drop 0)
                      · clear q21
                        refine nrmP [1, 2, 4, 5, 8, 9, 61, 66] [.int .i64 x1, .pointer (some ⟨b1, 0, none⟩), .int .i64 v32, .int .i64 v33, .int .i64 v16, .bool v34, .bool true, .bool false] (ce rfl (ce rfl (ce rfl (ce rfl (ce rfl (ce rfl (ce rfl (ce rfl (rfl))))))))) ?_
                        intro e56
                        refine cdO q24 (fun h57 q25 => ?_) (fun h57 q26 => ?_)
                        · clear q24
                          refine nrmO [1, 2, 4, 5, 8, 9, 72, 73] [.int .i64 x1, .pointer (some ⟨b1, 0, none⟩), .int .i64 v32, .int .i64 v33, .int .i64 v16, .bool v34, .bool true, undef] (ce rfl (ce rfl (ce rfl (ce rfl (ce rfl (ce rfl (ce rfl (ce rfl (rfl))))))))) ?_
                          intro e58
                          refine barN [1, 4, 5, 8, 9, 95] [.int .i64 x1, .int .i64 v32, .int .i64 v33, .int .i64 v16, .bool v34, .bool true] (ce rfl (ce rfl (ce rfl (ce rfl (ce rfl (ce rfl (rfl))))))) ?_
                          intro e59
                          refine bar ?_
                          refine hX48 _ _ _ (fun h => by cases h) ?_
                          refine nrmW [6] [.int .i64 ((12 : Int))] (ce rfl (rfl)) ?_
                          intro e60
                          refine bar ?_
                          refine barN [4, 5, 6] [.int .i64 ((0 : Int)), .int .i64 ((0 : Int)), .int .i64 ((12 : Int))] (ce rfl (ce rfl (ce rfl (rfl)))) ?_
                          intro e61
                          obtain rfl := Option.some.inj q25
                          exact k J28 w30 (hJ13.trans hJ29) (hs31.drop 0)
                        · clear q24
                          refine nrmP [1, 2, 4, 5, 8, 9, 72] [.int .i64 x1, .pointer (some ⟨b1, 0, none⟩), .int .i64 v32, .int .i64 v33, .int .i64 v16, .bool v34, .bool false] (ce rfl (ce rfl (ce rfl (ce rfl (ce rfl (ce rfl (ce rfl (rfl)))))))) ?_
                          intro e62
                          refine ld 0 hs31 rfl rfl rfl ?_
                          refine cdO q26 (fun h63 q27 => ?_) (fun h63 q28 => ?_)
                          · clear q26
                            refine nrmP [1, 2, 4, 5, 8, 9, 72, 77] [.int .i64 x1, .pointer (some ⟨b1, 0, none⟩), .int .i64 v32, .int .i64 v33, .int .i64 v16, .bool v34, .bool false, .bool true] (ce rfl (ce rfl (ce rfl (ce rfl (ce rfl (ce rfl (ce rfl (ce rfl (rfl))))))))) ?_
                            intro e64
                            refine ld 0 hs31 rfl rfl rfl ?_
                            refine reqO q27 (fun h65 q29 => ?_)
                            clear q27
                            refine cdO q29 (fun h66 q30 => ?_) (fun h66 q31 => ?_)
                            · clear q29
                              refine nrmO [1, 2, 4, 5, 8, 9, 72, 77, 82, 83] [.int .i64 x1, .pointer (some ⟨b1, 0, none⟩), .int .i64 v32, .int .i64 v33, .int .i64 v16, .bool v34, .bool false, .bool true, .bool true, undef] (ce rfl (ce rfl (ce rfl (ce rfl (ce rfl (ce rfl (ce rfl (ce rfl (ce rfl (ce rfl (rfl))))))))))) ?_
                              intro e67
                              refine barN [1, 4, 5, 8, 9, 95] [.int .i64 x1, .int .i64 v32, .int .i64 v33, .int .i64 v16, .bool v34, .bool true] (ce rfl (ce rfl (ce rfl (ce rfl (ce rfl (ce rfl (rfl))))))) ?_
                              intro e68
                              refine bar ?_
                              refine hX48 _ _ _ (fun h => by cases h) ?_
                              refine nrmW [6] [.int .i64 ((12 : Int))] (ce rfl (rfl)) ?_
                              intro e69
                              refine bar ?_
                              refine barN [4, 5, 6] [.int .i64 ((0 : Int)), .int .i64 ((0 : Int)), .int .i64 ((12 : Int))] (ce rfl (ce rfl (ce rfl (rfl)))) ?_
                              intro e70
                              obtain rfl := Option.some.inj q30
                              exact k J28 w30 (hJ13.trans hJ29) (hs31.drop 0)
                            · clear q29
                              refine nrmP [1, 2, 4, 5, 8, 9, 72, 77, 82] [.int .i64 x1, .pointer (some ⟨b1, 0, none⟩), .int .i64 v32, .int .i64 v33, .int .i64 v16, .bool v34, .bool false, .bool true, .bool false] (ce rfl (ce rfl (ce rfl (ce rfl (ce rfl (ce rfl (ce rfl (ce rfl (ce rfl (rfl)))))))))) ?_
                              intro e71
                              refine ld 0 hs31 rfl rfl rfl ?_
                              refine req h65 ?_
                              refine cdO q31 (fun h72 q32 => ?_) (fun h72 q33 => ?_)
                              · clear q31
                                refine nrmO [1, 4, 5, 8, 9, 72, 77, 88, 89] [.int .i64 x1, .int .i64 v32, .int .i64 v33, .int .i64 v16, .bool v34, .bool false, .bool true, .bool true, undef] (ce rfl (ce rfl (ce rfl (ce rfl (ce rfl (ce rfl (ce rfl (ce rfl (ce rfl (rfl)))))))))) ?_
                                intro e73
                                refine barN [1, 4, 5, 8, 9, 95] [.int .i64 x1, .int .i64 v32, .int .i64 v33, .int .i64 v16, .bool v34, .bool true] (ce rfl (ce rfl (ce rfl (ce rfl (ce rfl (ce rfl (rfl))))))) ?_
                                intro e74
                                refine bar ?_
                                refine hX48 _ _ _ (fun h => by cases h) ?_
                                refine nrmW [6] [.int .i64 ((12 : Int))] (ce rfl (rfl)) ?_
                                intro e75
                                refine bar ?_
                                refine barN [4, 5, 6] [.int .i64 ((0 : Int)), .int .i64 ((0 : Int)), .int .i64 ((12 : Int))] (ce rfl (ce rfl (ce rfl (rfl)))) ?_
                                intro e76
                                obtain rfl := Option.some.inj q32
                                exact k J28 w30 (hJ13.trans hJ29) (hs31.drop 0)
                              · clear q31
                                refine nrmP [1, 2, 4, 5, 8, 9, 72, 77, 88] [.int .i64 x1, .pointer (some ⟨b1, 0, none⟩), .int .i64 v32, .int .i64 v33, .int .i64 v16, .bool v34, .bool false, .bool true, .bool false] (ce rfl (ce rfl (ce rfl (ce rfl (ce rfl (ce rfl (ce rfl (ce rfl (ce rfl (rfl)))))))))) ?_
                                intro e77
                                refine ld 0 hs31 rfl rfl rfl ?_
                                refine req h65 ?_
                                refine barN [1, 4, 5, 8, 9, 95] [.int .i64 x1, .int .i64 v32, .int .i64 v33, .int .i64 v16, .bool v34, .bool (decide (((x0.getD v33.toNat 0).toNat : Int) = (69 : Int)))] (ce rfl (ce rfl (ce rfl (ce rfl (ce rfl (ce rfl (rfl))))))) ?_
                                intro e78
                                refine cdO q33 (fun h79 q34 => ?_) (fun h79 q35 => ?_)
                                · clear q33
                                  refine sqs ?_
                                  refine bar ?_
                                  refine hX48 _ _ _ (fun h => by cases h) ?_
                                  refine nrmW [6] [.int .i64 ((12 : Int))] (ce rfl (rfl)) ?_
                                  intro e80
                                  refine bar ?_
                                  refine barN [4, 5, 6] [.int .i64 ((0 : Int)), .int .i64 ((0 : Int)), .int .i64 ((12 : Int))] (ce rfl (ce rfl (ce rfl (rfl)))) ?_
                                  intro e81
                                  obtain rfl := Option.some.inj q34
                                  exact k J28 w30 (hJ13.trans hJ29) (hs31.drop 0)
                                · clear q33
                                  exact hN47 _ _ ⟨J28, (Le.refl _), ce rfl (ce rfl (ce rfl (ce rfl (ce rfl (rfl))))), hs31, q35⟩
                          · clear q26
                            refine nrmO [1, 2, 4, 5, 8, 9, 72, 77, 78] [.int .i64 x1, .pointer (some ⟨b1, 0, none⟩), .int .i64 v32, .int .i64 v33, .int .i64 v16, .bool v34, .bool false, .bool false, undef] (ce rfl (ce rfl (ce rfl (ce rfl (ce rfl (ce rfl (ce rfl (ce rfl (ce rfl (rfl)))))))))) ?_
                            intro e82
                            refine barN [1, 4, 5, 8, 9, 95] [.int .i64 x1, .int .i64 v32, .int .i64 v33, .int .i64 v16, .bool v34, .bool false] (ce rfl (ce rfl (ce rfl (ce rfl (ce rfl (ce rfl (rfl))))))) ?_
                            intro e83
                            exact hN47 _ _ ⟨J28, (Le.refl _), ce rfl (ce rfl (ce rfl (ce rfl (ce rfl (rfl))))), hs31, q28⟩
                    · clear q15
                      refine nrmO [1, 2, 4, 5, 8, 9, 61, 62] [.int .i64 x1, .pointer (some ⟨b1, 0, none⟩), .int .i64 v32, .int .i64 v33, .int .i64 v16, .bool v34, .bool false, undef] (ce rfl (ce rfl (ce rfl (ce rfl (ce rfl (ce rfl (ce rfl (ce rfl (rfl))))))))) ?_
                      intro e84
                      refine ld 0 hs31 rfl rfl rfl ?_
                      refine nrmO [1, 2, 4, 5, 8, 9, 72, 73, 74] [.int .i64 x1, .pointer (some ⟨b1, 0, none⟩), .int .i64 v32, .int .i64 v33, .int .i64 v16, .bool v34, .bool false, .int .i64 v33, .string (bs x0)] (ce rfl (ce rfl (ce rfl (ce rfl (ce rfl (ce rfl (ce rfl (ce rfl (ce rfl (rfl)))))))))) ?_
                      intro e85
                      refine cdO q22 (fun h86 q36 => ?_) (fun h86 q37 => ?_)
                      · clear q22
                        refine nrmP [1, 2, 4, 5, 8, 9, 72, 77] [.int .i64 x1, .pointer (some ⟨b1, 0, none⟩), .int .i64 v32, .int .i64 v33, .int .i64 v16, .bool v34, .bool false, .bool true] (ce rfl (ce rfl (ce rfl (ce rfl (ce rfl (ce rfl (ce rfl (ce rfl (rfl))))))))) ?_
                        intro e87
                        refine ld 0 hs31 rfl rfl rfl ?_
                        refine reqO q36 (fun h88 q38 => ?_)
                        clear q36
                        refine cdO q38 (fun h89 q39 => ?_) (fun h89 q40 => ?_)
                        · clear q38
                          refine nrmO [1, 2, 4, 5, 8, 9, 72, 77, 82, 83] [.int .i64 x1, .pointer (some ⟨b1, 0, none⟩), .int .i64 v32, .int .i64 v33, .int .i64 v16, .bool v34, .bool false, .bool true, .bool true, undef] (ce rfl (ce rfl (ce rfl (ce rfl (ce rfl (ce rfl (ce rfl (ce rfl (ce rfl (ce rfl (rfl))))))))))) ?_
                          intro e90
                          refine barN [1, 4, 5, 8, 9, 95] [.int .i64 x1, .int .i64 v32, .int .i64 v33, .int .i64 v16, .bool v34, .bool true] (ce rfl (ce rfl (ce rfl (ce rfl (ce rfl (ce rfl (rfl))))))) ?_
                          intro e91
                          refine bar ?_
                          refine hX48 _ _ _ (fun h => by cases h) ?_
                          refine nrmW [6] [.int .i64 ((12 : Int))] (ce rfl (rfl)) ?_
                          intro e92
                          refine bar ?_
                          refine barN [4, 5, 6] [.int .i64 ((0 : Int)), .int .i64 ((0 : Int)), .int .i64 ((12 : Int))] (ce rfl (ce rfl (ce rfl (rfl)))) ?_
                          intro e93
                          obtain rfl := Option.some.inj q39
                          exact k J28 w30 (hJ13.trans hJ29) (hs31.drop 0)
                        · clear q38
                          refine nrmP [1, 2, 4, 5, 8, 9, 72, 77, 82] [.int .i64 x1, .pointer (some ⟨b1, 0, none⟩), .int .i64 v32, .int .i64 v33, .int .i64 v16, .bool v34, .bool false, .bool true, .bool false] (ce rfl (ce rfl (ce rfl (ce rfl (ce rfl (ce rfl (ce rfl (ce rfl (ce rfl (rfl)))))))))) ?_
                          intro e94
                          refine ld 0 hs31 rfl rfl rfl ?_
                          refine req h88 ?_
                          refine cdO q40 (fun h95 q41 => ?_) (fun h95 q42 => ?_)
                          · clear q40
                            refine nrmO [1, 4, 5, 8, 9, 72, 77, 88, 89] [.int .i64 x1, .int .i64 v32, .int .i64 v33, .int .i64 v16, .bool v34, .bool false, .bool true, .bool true, undef] (ce rfl (ce rfl (ce rfl (ce rfl (ce rfl (ce rfl (ce rfl (ce rfl (ce rfl (rfl)))))))))) ?_
                            intro e96
                            refine barN [1, 4, 5, 8, 9, 95] [.int .i64 x1, .int .i64 v32, .int .i64 v33, .int .i64 v16, .bool v34, .bool true] (ce rfl (ce rfl (ce rfl (ce rfl (ce rfl (ce rfl (rfl))))))) ?_
                            intro e97
                            refine bar ?_
                            refine hX48 _ _ _ (fun h => by cases h) ?_
                            refine nrmW [6] [.int .i64 ((12 : Int))] (ce rfl (rfl)) ?_
                            intro e98
                            refine bar ?_
                            refine barN [4, 5, 6] [.int .i64 ((0 : Int)), .int .i64 ((0 : Int)), .int .i64 ((12 : Int))] (ce rfl (ce rfl (ce rfl (rfl)))) ?_
                            intro e99
                            obtain rfl := Option.some.inj q41
                            exact k J28 w30 (hJ13.trans hJ29) (hs31.drop 0)
                          · clear q40
                            refine nrmP [1, 2, 4, 5, 8, 9, 72, 77, 88] [.int .i64 x1, .pointer (some ⟨b1, 0, none⟩), .int .i64 v32, .int .i64 v33, .int .i64 v16, .bool v34, .bool false, .bool true, .bool false] (ce rfl (ce rfl (ce rfl (ce rfl (ce rfl (ce rfl (ce rfl (ce rfl (ce rfl (rfl)))))))))) ?_
                            intro e100
                            refine ld 0 hs31 rfl rfl rfl ?_
                            refine req h88 ?_
                            refine barN [1, 4, 5, 8, 9, 95] [.int .i64 x1, .int .i64 v32, .int .i64 v33, .int .i64 v16, .bool v34, .bool (decide (((x0.getD v33.toNat 0).toNat : Int) = (69 : Int)))] (ce rfl (ce rfl (ce rfl (ce rfl (ce rfl (ce rfl (rfl))))))) ?_
                            intro e101
                            refine cdO q42 (fun h102 q43 => ?_) (fun h102 q44 => ?_)
                            · clear q42
                              refine sqs ?_
                              refine bar ?_
                              refine hX48 _ _ _ (fun h => by cases h) ?_
                              refine nrmW [6] [.int .i64 ((12 : Int))] (ce rfl (rfl)) ?_
                              intro e103
                              refine bar ?_
                              refine barN [4, 5, 6] [.int .i64 ((0 : Int)), .int .i64 ((0 : Int)), .int .i64 ((12 : Int))] (ce rfl (ce rfl (ce rfl (rfl)))) ?_
                              intro e104
                              obtain rfl := Option.some.inj q43
                              exact k J28 w30 (hJ13.trans hJ29) (hs31.drop 0)
                            · clear q42
                              exact hN47 _ _ ⟨J28, (Le.refl _), ce rfl (ce rfl (ce rfl (ce rfl (ce rfl (rfl))))), hs31, q44⟩
                      · clear q22
                        refine nrmO [1, 2, 4, 5, 8, 9, 72, 77, 78] [.int .i64 x1, .pointer (some ⟨b1, 0, none⟩), .int .i64 v32, .int .i64 v33, .int .i64 v16, .bool v34, .bool false, .bool false, undef] (ce rfl (ce rfl (ce rfl (ce rfl (ce rfl (ce rfl (ce rfl (ce rfl (ce rfl (rfl)))))))))) ?_
                        intro e105
                        refine barN [1, 4, 5, 8, 9, 95] [.int .i64 x1, .int .i64 v32, .int .i64 v33, .int .i64 v16, .bool v34, .bool false] (ce rfl (ce rfl (ce rfl (ce rfl (ce rfl (ce rfl (rfl))))))) ?_
                        intro e106
                        exact hN47 _ _ ⟨J28, (Le.refl _), ce rfl (ce rfl (ce rfl (ce rfl (ce rfl (rfl))))), hs31, q37⟩
                · intro Q108 hN109 hX110
                  refine blk ?_
                  refine loopP q13 [1, 2, 4, 7, 8, 5, 9] (fun (s : Int × Int × Bool) vs w' => ∃ (J : Im), Le J12 J ∧ vs = [.int .i64 x1, .pointer (some ⟨b1, 0, none⟩), .int .i64 s.1, .func (.func 167) ⟨[]⟩ ⟨[.pointer (some ⟨b1, 0, none⟩)]⟩, .int .i64 v16, .int .i64 s.2.1, .bool s.2.2] ∧ St c J (.blk b1 (.cells ⟨[.string (bs x0)]⟩ 9) :: L) w') ⟨J12, Le.refl _, ce rfl (ce rfl (ce rfl (ce rfl (ce rfl (ce rfl (ce rfl (rfl))))))), hs15⟩ ?_
                  clear q13
                  rintro Z152 ⟨v148, v149, v150⟩ t151 vs e175 w146 hI q45 hZ153
                  try dsimp only at hI
                  obtain ⟨J144, hJ145, rfl, hs147⟩ := hI
                  replace q45 : p_num_Scan_b1 x0 x1 v16 v148 v149 v150 = some t151 := q45
                  unfold p_num_Scan_b1 at q45
                  refine blk ?_
                  refine sqs ?_
                  refine sqs ?_
                  refine fn_of good Tryd.func167 rfl rfl rfl ?_
                  refine sqs ?_
                  refine bar ?_
                  refine sqs ?_
                  refine ld 0 hs147 rfl rfl rfl ?_
                  refine cdO q45 (fun h154 q46 => ?_) (fun h154 q47 => ?_)
                  · clear q45
                    refine nrmP [0, 1, 8] [.int .i64 v149, .pointer (some ⟨b1, 0, none⟩), .bool true] (ce rfl (ce rfl (ce rfl (rfl)))) ?_
                    intro e155
                    refine ld 0 hs147 rfl rfl rfl ?_
                    refine reqO q46 (fun h156 q48 => ?_)
                    clear q46
                    refine cdO q48 (fun h157 q49 => ?_) (fun h157 q50 => ?_)
                    · clear q48
                      refine nrmP [0, 1, 14] [.int .i64 v149, .pointer (some ⟨b1, 0, none⟩), .bool true] (ce rfl (ce rfl (ce rfl (rfl)))) ?_
                      intro e158
                      refine ld 0 hs147 rfl rfl rfl ?_
                      refine req h156 ?_
                      refine barN [3] [.bool (decide (((x0.getD v149.toNat 0).toNat : Int) ≤ (57 : Int)))] (ce rfl (rfl)) ?_
                      intro e159
                      refine bar ?_
                      refine cnO q49 (fun h160 q51 => ?_) (fun h160 q52 => ?_)
                      · clear q49
                        refine bar ?_
                        refine sqs ?_
                        refine ld 0 hs147 rfl rfl rfl ?_
                        refine req h156 ?_
                        refine nrmO [1, 2, 5, 7, 8, 9, 46, 49] [.int .i64 x1, .pointer (some ⟨b1, 0, none⟩), .int .i64 v149, .func (.func 167) ⟨[]⟩ ⟨[.pointer (some ⟨b1, 0, none⟩)]⟩, .int .i64 v16, .bool v150, .int .i64 ((IntKind.i64.wrap ((10 : Int) * v148))), .int .u8 (((x0.getD v149.toNat 0).toNat : Int))] (ce rfl (ce rfl (ce rfl (ce rfl (ce rfl (ce rfl (ce rfl (ce rfl (rfl))))))))) ?_
                        intro e161
                        refine barN [1, 2, 4, 5, 7, 8, 9] [.int .i64 x1, .pointer (some ⟨b1, 0, none⟩), .int .i64 ((IntKind.i64.wrap ((IntKind.i64.wrap ((10 : Int) * v148)) + (IntKind.i64.wrap (IntKind.u8.wrap (((x0.getD v149.toNat 0).toNat : Int) - (48 : Int))))))), .int .i64 v149, .func (.func 167) ⟨[]⟩ ⟨[.pointer (some ⟨b1, 0, none⟩)]⟩, .int .i64 v16, .bool v150] (ce rfl (ce rfl (ce rfl (ce rfl (ce rfl (ce rfl (ce rfl (rfl)))))))) ?_
                        intro e162
                        refine sqs ?_
                        refine sqs ?_
                        refine bar ?_
                        refine cdO q51 (fun h163 q53 => ?_) (fun h163 q54 => ?_)
                        · clear q51
                          refine sqs ?_
                          refine bar ?_
                          refine barN [1, 2, 4, 5, 7, 8, 9] [.int .i64 x1, .pointer (some ⟨b1, 0, none⟩), .int .i64 ((9007199254740991 : Int)), .int .i64 v149, .func (.func 167) ⟨[]⟩ ⟨[.pointer (some ⟨b1, 0, none⟩)]⟩, .int .i64 v16, .bool true] (ce rfl (ce rfl (ce rfl (ce rfl (ce rfl (ce rfl (ce rfl (rfl)))))))) ?_
                          intro e164
                          obtain rfl := Option.some.inj q53
                          exact hZ153 _ _ ⟨J144, hJ145, ce rfl (ce rfl (ce rfl (ce rfl (ce rfl (ce rfl (ce rfl (rfl))))))), hs147⟩
                        · clear q51
                          refine bar ?_
                          obtain rfl := Option.some.inj q54
                          exact hZ153 _ _ ⟨J144, hJ145, ce rfl (ce rfl (ce rfl (ce rfl (ce rfl (ce rfl (ce rfl (rfl))))))), hs147⟩
                      · clear q49
                        obtain ⟨r165, hm166, rfl⟩ := mapO q52
                        clear q52
                        obtain rfl : r165 = _ := hZ153
                        exact hN109 _ _ ⟨v148, v149, v150, J144, hJ145, ce rfl (ce rfl (ce rfl (ce rfl (ce rfl (ce rfl (rfl)))))), hs147, hm166⟩
                    · clear q48
                      refine nrmO [0, 14, 15] [.int .i64 v149, .bool false, undef] (ce rfl (ce rfl (ce rfl (rfl)))) ?_
                      intro e167
                      refine barN [3] [.bool false] (ce rfl (rfl)) ?_
                      intro e168
                      refine bar ?_
                      obtain ⟨r169, hm170, rfl⟩ := mapO q50
                      clear q50
                      obtain rfl : r169 = _ := hZ153
                      exact hN109 _ _ ⟨v148, v149, v150, J144, hJ145, ce rfl (ce rfl (ce rfl (ce rfl (ce rfl (ce rfl (rfl)))))), hs147, hm170⟩
                  · clear q45
                    refine nrmO [0, 1, 8, 9] [.int .i64 v149, .pointer (some ⟨b1, 0, none⟩), .bool false, undef] (ce rfl (ce rfl (ce rfl (ce rfl (rfl))))) ?_
                    intro e171
                    refine barN [3] [.bool false] (ce rfl (rfl)) ?_
                    intro e172
                    refine bar ?_
                    obtain ⟨r173, hm174, rfl⟩ := mapO q47
                    clear q47
                    obtain rfl : r173 = _ := hZ153
                    exact hN109 _ _ ⟨v148, v149, v150, J144, hJ145, ce rfl (ce rfl (ce rfl (ce rfl (ce rfl (ce rfl (rfl)))))), hs147, hm174⟩
              · clear q11
                refine sqs ?_
                refine bar ?_
                refine nrmW [6] [.int .i64 ((6 : Int))] (ce rfl (rfl)) ?_
                intro e177
                refine bar ?_
                refine barN [4, 5, 6] [.int .i64 ((0 : Int)), .int .i64 ((0 : Int)), .int .i64 ((6 : Int))] (ce rfl (ce rfl (ce rfl (rfl)))) ?_
                intro e178
                obtain rfl := Option.some.inj q14
                exact k J12 w14 hJ13 (hs15.drop 0)
            · clear q10
              refine nrmO [0, 14, 15] [.int .i64 v16, .bool false, undef] (ce rfl (ce rfl (ce rfl (rfl)))) ?_
              intro e179
              refine barN [3] [.bool false] (ce rfl (rfl)) ?_
              intro e180
              refine bar ?_
              refine bar ?_
              refine nrmW [6] [.int .i64 ((6 : Int))] (ce rfl (rfl)) ?_
              intro e181
              refine bar ?_
              refine barN [4, 5, 6] [.int .i64 ((0 : Int)), .int .i64 ((0 : Int)), .int .i64 ((6 : Int))] (ce rfl (ce rfl (ce rfl (rfl)))) ?_
              intro e182
              obtain rfl := Option.some.inj q12
              exact k J12 w14 hJ13 (hs15.drop 0)
          · clear q7
            refine nrmO [0, 1, 8, 9] [.int .i64 v16, .pointer (some ⟨b1, 0, none⟩), .bool false, undef] (ce rfl (ce rfl (ce rfl (ce rfl (rfl))))) ?_
            intro e183
            refine barN [3] [.bool false] (ce rfl (rfl)) ?_
            intro e184
            refine bar ?_
            refine bar ?_
            refine nrmW [6] [.int .i64 ((6 : Int))] (ce rfl (rfl)) ?_
            intro e185
            refine bar ?_
            refine barN [4, 5, 6] [.int .i64 ((0 : Int)), .int .i64 ((0 : Int)), .int .i64 ((6 : Int))] (ce rfl (ce rfl (ce rfl (rfl)))) ?_
            intro e186
            obtain rfl := Option.some.inj q9
            exact k J12 w14 hJ13 (hs15.drop 0)
      · intro Q187 hN188 hX189
        refine sqs ?_
        refine ld 0 hs3 rfl rfl rfl ?_
        refine cdO q4 (fun h190 q55 => ?_) (fun h190 q56 => ?_)
        · clear q4
          refine nrmP [1, 2, 4, 7, 8, 24] [.int .i64 x1, .pointer (some ⟨b1, 0, none⟩), .int .i64 ((0 : Int)), .func (.func 167) ⟨[]⟩ ⟨[.pointer (some ⟨b1, 0, none⟩)]⟩, .int .i64 x1, .bool true] (ce rfl (ce rfl (ce rfl (ce rfl (ce rfl (ce rfl (rfl))))))) ?_
          intro e191
          refine ld 0 hs3 rfl rfl rfl ?_
          refine reqO q55 (fun h192 q57 => ?_)
          clear q55
          refine barN [1, 2, 4, 7, 8, 29] [.int .i64 x1, .pointer (some ⟨b1, 0, none⟩), .int .i64 ((0 : Int)), .func (.func 167) ⟨[]⟩ ⟨[.pointer (some ⟨b1, 0, none⟩)]⟩, .int .i64 x1, .bool (decide (((x0.getD x1.toNat 0).toNat : Int) = (45 : Int)))] (ce rfl (ce rfl (ce rfl (ce rfl (ce rfl (ce rfl (rfl))))))) ?_
          intro e193
          refine cdO q57 (fun h194 q58 => ?_) (fun h194 q59 => ?_)
          · clear q57
            exact hN188 _ _ ⟨(IntKind.i64.wrap (x1 + (1 : Int))), I, (Le.refl _), ce rfl (ce rfl (ce rfl (ce rfl (ce rfl (rfl))))), hs3, q58⟩
          · clear q57
            exact hN188 _ _ ⟨x1, I, (Le.refl _), ce rfl (ce rfl (ce rfl (ce rfl (ce rfl (rfl))))), hs3, q59⟩
        · clear q4
          refine nrmO [1, 2, 4, 7, 8, 24, 25] [.int .i64 x1, .pointer (some ⟨b1, 0, none⟩), .int .i64 ((0 : Int)), .func (.func 167) ⟨[]⟩ ⟨[.pointer (some ⟨b1, 0, none⟩)]⟩, .int .i64 x1, .bool false, undef] (ce rfl (ce rfl (ce rfl (ce rfl (ce rfl (ce rfl (ce rfl (rfl)))))))) ?_
          intro e195
          refine barN [1, 2, 4, 7, 8, 29] [.int .i64 x1, .pointer (some ⟨b1, 0, none⟩), .int .i64 ((0 : Int)), .func (.func 167) ⟨[]⟩ ⟨[.pointer (some ⟨b1, 0, none⟩)]⟩, .int .i64 x1, .bool false] (ce rfl (ce rfl (ce rfl (ce rfl (ce rfl (ce rfl (rfl))))))) ?_
          intro e196
          exact hN188 _ _ ⟨x1, I, (Le.refl _), ce rfl (ce rfl (ce rfl (ce rfl (ce rfl (rfl))))), hs3, q56⟩
def p_host_digit (x0 : Int) : Option (Bool) :=
  (if (48 : Int) ≤ x0 then (some (decide (x0 ≤ (57 : Int)))) else (some false))
set_option maxRecDepth 10000 in
set_option maxHeartbeats 4000000 in
theorem w_host_digit {c : Cx} {I : Im} {L : List Ent} {w : World} {K : Value → World → Prop} (x0 : Int) (r : Bool) (hf : p_host_digit x0 = some r) (hg : Glo I) (hX : ∀ b, ¬ c.X b) (hs : St c I L w)  
    (k : ∀  (J : Im) (w' : World), Le I J → St c J L w' → K (.bool r) w') :
    callW Tryd.prog 129 [.int .u8 x0] K w := by
  unfold p_host_digit at hf
  refine fn_of good Tryd.func129 rfl rfl rfl ?_
  refine sqs ?_
  refine bar ?_
  refine sqs ?_
  refine cdO hf (fun h1 q1 => ?_) (fun h1 q2 => ?_)
  · clear hf
    refine barN [2] [.bool (decide (x0 ≤ (57 : Int)))] (ce rfl (rfl)) ?_
    intro e2
    obtain rfl := Option.some.inj q1
    exact k I w (Le.refl _) hs
  · clear hf
    refine barN [2] [.bool false] (ce rfl (rfl)) ?_
    intro e3
    obtain rfl := Option.some.inj q2
    exact k I w (Le.refl _) hs
def p_host_letter (x0 : Int) : Option (Bool) :=
  (if (97 : Int) ≤ x0 then (if x0 ≤ (122 : Int) then (some true) else (if (65 : Int) ≤ x0 then (some (decide (x0 ≤ (90 : Int)))) else (some false))) else (if (65 : Int) ≤ x0 then (some (decide (x0 ≤ (90 : Int)))) else (some false)))
set_option maxRecDepth 10000 in
set_option maxHeartbeats 4000000 in
theorem w_host_letter {c : Cx} {I : Im} {L : List Ent} {w : World} {K : Value → World → Prop} (x0 : Int) (r : Bool) (hf : p_host_letter x0 = some r) (hg : Glo I) (hX : ∀ b, ¬ c.X b) (hs : St c I L w)  
    (k : ∀  (J : Im) (w' : World), Le I J → St c J L w' → K (.bool r) w') :
    callW Tryd.prog 130 [.int .u8 x0] K w := by
  unfold p_host_letter at hf
  refine fn_of good Tryd.func130 rfl rfl rfl ?_
  refine sqs ?_
  refine bar ?_
  refine sqs ?_
  refine cdO hf (fun h1 q1 => ?_) (fun h1 q2 => ?_)
  · clear hf
    refine nrmP [0, 5] [.int .u8 x0, .bool true] (ce rfl (ce rfl (rfl))) ?_
    intro e2
    refine cdO q1 (fun h3 q3 => ?_) (fun h3 q4 => ?_)
    · clear q1
      refine nrmO [0, 9, 10] [.int .u8 x0, .bool true, undef] (ce rfl (ce rfl (ce rfl (rfl)))) ?_
      intro e4
      refine barN [2] [.bool true] (ce rfl (rfl)) ?_
      intro e5
      obtain rfl := Option.some.inj q3
      exact k I w (Le.refl _) hs
    · clear q1
      refine nrmP [0, 9] [.int .u8 x0, .bool false] (ce rfl (ce rfl (rfl))) ?_
      intro e6
      refine cdO q4 (fun h7 q5 => ?_) (fun h7 q6 => ?_)
      · clear q4
        refine barN [2] [.bool (decide (x0 ≤ (90 : Int)))] (ce rfl (rfl)) ?_
        intro e8
        obtain rfl := Option.some.inj q5
        exact k I w (Le.refl _) hs
      · clear q4
        refine barN [2] [.bool false] (ce rfl (rfl)) ?_
        intro e9
        obtain rfl := Option.some.inj q6
        exact k I w (Le.refl _) hs
  · clear hf
    refine nrmO [0, 5, 6] [.int .u8 x0, .bool false, undef] (ce rfl (ce rfl (ce rfl (rfl)))) ?_
    intro e10
    refine cdO q2 (fun h11 q7 => ?_) (fun h11 q8 => ?_)
    · clear q2
      refine nrmP [0, 9, 12] [.int .u8 x0, .bool false, .bool true] (ce rfl (ce rfl (ce rfl (rfl)))) ?_
      intro e12
      refine barN [2] [.bool (decide (x0 ≤ (90 : Int)))] (ce rfl (rfl)) ?_
      intro e13
      obtain rfl := Option.some.inj q7
      exact k I w (Le.refl _) hs
    · clear q2
      refine nrmO [9, 12, 13] [.bool false, .bool false, undef] (ce rfl (ce rfl (ce rfl (rfl)))) ?_
      intro e14
      refine barN [2] [.bool false] (ce rfl (rfl)) ?_
      intro e15
      obtain rfl := Option.some.inj q8
      exact k I w (Le.refl _) hs
def p_host_word_b3 (v392 : Int) (x397 : (List UInt8)) (v567 : Int) : Option ((Int) ⊕ (((Bool × Int) ⊕ (Bool)))) :=
  (if v567 < (x397.length : Int) then (if 0 ≤ v567 ∧ v567 < (x397.length : Int) then ((p_host_digit ((x397.getD v567.toNat 0).toNat : Int)).bind fun z574 => (if (!z574) = true then (Option.map Sum.inr (some (.inl (false, (IntKind.i64.wrap (v392 + (1 : Int))))))) else (some (.inl ((IntKind.i64.wrap (v567 + (1 : Int)))))))) else none) else (Option.map Sum.inr (some (.inl (true, (IntKind.i64.wrap (v392 + (1 : Int))))))))
def p_host_word_b2 (v391 : Bool) (v392 : Int) (x397 : (List UInt8)) (v496 : Int) : Option ((Int) ⊕ (((Bool × Int) ⊕ (Bool)))) :=
  (if v496 < (x397.length : Int) then (if 0 ≤ v496 ∧ v496 < (x397.length : Int) then ((p_host_digit ((x397.getD v496.toNat 0).toNat : Int)).bind fun z503 => (if z503 = true then (some (.inl ((IntKind.i64.wrap (v496 + (1 : Int)))))) else ((p_host_letter ((x397.getD v496.toNat 0).toNat : Int)).bind fun z513 => (if z513 = true then (some (.inl ((IntKind.i64.wrap (v496 + (1 : Int)))))) else (if ((x397.getD v496.toNat 0).toNat : Int) = (45 : Int) then (some (.inl ((IntKind.i64.wrap (v496 + (1 : Int)))))) else (Option.map Sum.inr (Option.map Sum.inr (some false)))))))) else none) else (Option.map Sum.inr (if v391 = true then (loopO (fun (s : Int) => p_host_word_b3 v392 x397 s) ((0 : Int))) else (some (.inl (false, (IntKind.i64.wrap (v392 + (1 : Int)))))))))
def p_host_word_b1 (z1 : (List (List UInt8))) (v391 : Bool) (v392 : Int) : Option ((Bool × Int) ⊕ (Bool)) :=
  (if v392 < ((z1.length : Nat) : Int) then ((getI z1 v392).bind fun x397 => (if (x397.length : Int) < (1 : Int) then (Option.map Sum.inr (some false)) else (if (63 : Int) < (x397.length : Int) then (Option.map Sum.inr (some false)) else (if 0 ≤ (0 : Int) ∧ (0 : Int) < (x397.length : Int) then (if ((x397.getD (0 : Int).toNat 0).toNat : Int) = (45 : Int) then (Option.map Sum.inr (some false)) else (if 0 ≤ (IntKind.i64.wrap ((x397.length : Int) - (1 : Int))) ∧ (IntKind.i64.wrap ((x397.length : Int) - (1 : Int))) < (x397.length : Int) then (if ((x397.getD (IntKind.i64.wrap ((x397.length : Int) - (1 : Int))).toNat 0).toNat : Int) = (45 : Int) then (Option.map Sum.inr (some false)) else (loopO (fun (s : Int) => p_host_word_b2 v391 v392 x397 s) ((0 : Int)))) else none)) else none)))) else (Option.map Sum.inr (some (!v391))))
def p_host_word (x0 : (List UInt8)) : Option (Bool) :=
  ((p_strings_Split x0 ([46] : List UInt8)).bind fun z1 => (loopO (fun (s : Bool × Int) => p_host_word_b1 z1 s.1 s.2) (true, (0 : Int))))
set_option maxRecDepth 10000 in
set_option maxHeartbeats 4000000 in
theorem w_host_word {c : Cx} {I : Im} {L : List Ent} {w : World} {K : Value → World → Prop} (x0 : (List UInt8)) (r : Bool) (hf : p_host_word x0 = some r) (hg : Glo I) (hX : ∀ b, ¬ c.X b) (hs : St c I L w)  
    (k : ∀  (J : Im) (w' : World), Le I J → St c J L w' → K (.bool r) w') :
    callW Tryd.prog 75 [.string (bs x0)] K w := by
  unfold p_host_word at hf
  refine fn_of good Tryd.func75 rfl rfl rfl ?_
  refine sqs ?_
  refine bar ?_
  refine sqs ?_
  refine bar ?_
  refine sqs ?_
  refine sqs ?_
  obtain ⟨z1, h2, q1⟩ := bindO hf
  clear hf
  refine w_strings_Split x0 ([46] : List UInt8) z1 h2 hg hX hs ?_
  intro a7 c8 J3 w5 hJ4 hs6 h9
  refine barN [3, 7, 8, 9] [.bool true, .slice a7 (z1.length) c8, .int .i64 (((z1.length : Nat) : Int)), .int .i64 ((0 : Int))] (ce rfl (ce rfl (ce rfl (ce rfl (rfl))))) ?_
  intro e10
  refine blk ?_
  refine loopP q1 [3, 7, 8, 9] (fun (s : Bool × Int) vs w' => ∃ (J : Im), Le J3 J ∧ vs = [.bool s.1, .slice a7 (z1.length) c8, .int .i64 (((z1.length : Nat) : Int)), .int .i64 s.2] ∧ St c J (L) w') ⟨J3, Le.refl _, ce rfl (ce rfl (ce rfl (ce rfl (rfl)))), hs6⟩ ?_
  clear q1
  rintro Z394 ⟨v391, v392⟩ t393 vs e593 w389 hI q2 hZ395
  try dsimp only at hI
  obtain ⟨J387, hJ388, rfl, hs390⟩ := hI
  replace q2 : p_host_word_b1 z1 v391 v392 = some t393 := q2
  unfold p_host_word_b1 at q2
  refine sqs ?_
  refine bar ?_
  refine sqs ?_
  refine cdO q2 (fun h396 q3 => ?_) (fun h396 q4 => ?_)
  · clear q2
    refine bar ?_
    refine sqs ?_
    refine blk ?_
    refine sqs ?_
    obtain ⟨x397, h403, q5⟩ := bindO q3
    clear q3
    obtain ⟨ad398, r399, h400, h401, h402, h404, h405, h406⟩ := RdL.getI (RdL.mono h9 hJ388 (fun _ _ _ h => h)) h403
    obtain rfl : r399 = [.string (bs x397)] := h404
    refine idx h400 h401 h402 ?_
    refine ldc1 (h406 _ hs390.im 0 _ rfl) ?_
    refine barN [3, 5, 7, 8, 9] [.bool v391, .string (bs x397), .slice a7 (z1.length) c8, .int .i64 (((z1.length : Nat) : Int)), .int .i64 v392] (ce rfl (ce rfl (ce rfl (ce rfl (ce rfl (rfl)))))) ?_
    intro e407
    refine sqs ?_
    refine sqs ?_
    refine cdO q5 (fun h408 q6 => ?_) (fun h408 q7 => ?_)
    · clear q5
      refine nrmO [3, 5, 7, 8, 9, 16, 17] [.bool v391, .string (bs x397), .slice a7 (z1.length) c8, .int .i64 (((z1.length : Nat) : Int)), .int .i64 v392, .bool true, undef] (ce rfl (ce rfl (ce rfl (ce rfl (ce rfl (ce rfl (ce rfl (rfl)))))))) ?_
      intro e409
      refine barN [3, 5, 7, 8, 9, 38] [.bool v391, .string (bs x397), .slice a7 (z1.length) c8, .int .i64 (((z1.length : Nat) : Int)), .int .i64 v392, .bool true] (ce rfl (ce rfl (ce rfl (ce rfl (ce rfl (ce rfl (rfl))))))) ?_
      intro e410
      refine bar ?_
      obtain ⟨r411, hm412, rfl⟩ := mapO q6
      clear q6
      obtain rfl : r411 = _ := hZ395
      obtain rfl := Option.some.inj hm412
      exact k J387 w389 (hJ4.trans hJ388) hs390
    · clear q5
      refine nrmP [3, 5, 7, 8, 9, 16] [.bool v391, .string (bs x397), .slice a7 (z1.length) c8, .int .i64 (((z1.length : Nat) : Int)), .int .i64 v392, .bool false] (ce rfl (ce rfl (ce rfl (ce rfl (ce rfl (ce rfl (rfl))))))) ?_
      intro e413
      refine cdO q7 (fun h414 q8 => ?_) (fun h414 q9 => ?_)
      · clear q7
        refine nrmO [3, 5, 7, 8, 9, 21, 22] [.bool v391, .string (bs x397), .slice a7 (z1.length) c8, .int .i64 (((z1.length : Nat) : Int)), .int .i64 v392, .bool true, undef] (ce rfl (ce rfl (ce rfl (ce rfl (ce rfl (ce rfl (ce rfl (rfl)))))))) ?_
        intro e415
        refine barN [3, 5, 7, 8, 9, 38] [.bool v391, .string (bs x397), .slice a7 (z1.length) c8, .int .i64 (((z1.length : Nat) : Int)), .int .i64 v392, .bool true] (ce rfl (ce rfl (ce rfl (ce rfl (ce rfl (ce rfl (rfl))))))) ?_
        intro e416
        refine bar ?_
        obtain ⟨r417, hm418, rfl⟩ := mapO q8
        clear q8
        obtain rfl : r417 = _ := hZ395
        obtain rfl := Option.some.inj hm418
        exact k J387 w389 (hJ4.trans hJ388) hs390
      · clear q7
        refine nrmP [3, 5, 7, 8, 9, 21] [.bool v391, .string (bs x397), .slice a7 (z1.length) c8, .int .i64 (((z1.length : Nat) : Int)), .int .i64 v392, .bool false] (ce rfl (ce rfl (ce rfl (ce rfl (ce rfl (ce rfl (rfl))))))) ?_
        intro e419
        refine reqO q9 (fun h420 q10 => ?_)
        clear q9
        refine cdO q10 (fun h421 q11 => ?_) (fun h421 q12 => ?_)
        · clear q10
          refine nrmO [3, 5, 7, 8, 9, 26, 27] [.bool v391, .string (bs x397), .slice a7 (z1.length) c8, .int .i64 (((z1.length : Nat) : Int)), .int .i64 v392, .bool true, undef] (ce rfl (ce rfl (ce rfl (ce rfl (ce rfl (ce rfl (ce rfl (rfl)))))))) ?_
          intro e422
          refine barN [3, 5, 7, 8, 9, 38] [.bool v391, .string (bs x397), .slice a7 (z1.length) c8, .int .i64 (((z1.length : Nat) : Int)), .int .i64 v392, .bool true] (ce rfl (ce rfl (ce rfl (ce rfl (ce rfl (ce rfl (rfl))))))) ?_
          intro e423
          refine bar ?_
          obtain ⟨r424, hm425, rfl⟩ := mapO q11
          clear q11
          obtain rfl : r424 = _ := hZ395
          obtain rfl := Option.some.inj hm425
          exact k J387 w389 (hJ4.trans hJ388) hs390
        · clear q10
          refine nrmP [3, 5, 7, 8, 9, 26] [.bool v391, .string (bs x397), .slice a7 (z1.length) c8, .int .i64 (((z1.length : Nat) : Int)), .int .i64 v392, .bool false] (ce rfl (ce rfl (ce rfl (ce rfl (ce rfl (ce rfl (rfl))))))) ?_
          intro e426
          refine reqO q12 (fun h427 q13 => ?_)
          clear q12
          refine cdO q13 (fun h428 q14 => ?_) (fun h428 q15 => ?_)
          · clear q13
            refine nrmO [3, 5, 7, 8, 9, 34, 35] [.bool v391, .string (bs x397), .slice a7 (z1.length) c8, .int .i64 (((z1.length : Nat) : Int)), .int .i64 v392, .bool true, undef] (ce rfl (ce rfl (ce rfl (ce rfl (ce rfl (ce rfl (ce rfl (rfl)))))))) ?_
            intro e429
            refine bar ?_
            refine barN [2] [.bool false] (ce rfl (rfl)) ?_
            intro e430
            obtain ⟨r431, hm432, rfl⟩ := mapO q14
            clear q14
            obtain rfl : r431 = _ := hZ395
            obtain rfl := Option.some.inj hm432
            exact k J387 w389 (hJ4.trans hJ388) hs390
          · clear q13
            refine nrmP [3, 5, 7, 8, 9, 34] [.bool v391, .string (bs x397), .slice a7 (z1.length) c8, .int .i64 (((z1.length : Nat) : Int)), .int .i64 v392, .bool false] (ce rfl (ce rfl (ce rfl (ce rfl (ce rfl (ce rfl (rfl))))))) ?_
            intro e433
            refine fn_of good Tryd.func127 rfl rfl rfl ?_
            refine sqs ?_
            refine bar ?_
            refine sqs ?_
            refine sqs ?_
            refine barN [0, 1, 7, 8] [.string (bs x397), .func (.func 128) ⟨[]⟩ ⟨[]⟩, .int .i64 ((x397.length : Int)), .int .i64 ((0 : Int))] (ce rfl (ce rfl (ce rfl (ce rfl (rfl))))) ?_
            intro e434
            refine blk ?_
            refine loopP q15 [0, 1, 7, 8] (fun (s : Int) vs w' => ∃ (J : Im), Le J387 J ∧ vs = [.string (bs x397), .func (.func 128) ⟨[]⟩ ⟨[]⟩, .int .i64 ((x397.length : Int)), .int .i64 s] ∧ St c J (L) w') ⟨J387, Le.refl _, ce rfl (ce rfl (ce rfl (ce rfl (rfl)))), hs390⟩ ?_
            clear q15
            rintro Z498 v496 t497 vs e589 w494 hI q16 hZ499
            try dsimp only at hI
            obtain ⟨J492, hJ493, rfl, hs495⟩ := hI
            replace q16 : p_host_word_b2 v391 v392 x397 v496 = some t497 := q16
            unfold p_host_word_b2 at q16
            refine sqs ?_
            refine bar ?_
            refine sqs ?_
            refine cdO q16 (fun h500 q17 => ?_) (fun h500 q18 => ?_)
            · clear q16
              refine bar ?_
              refine sqs ?_
              refine blk ?_
              refine sqs ?_
              refine bar ?_
              refine sqs ?_
              refine reqO q17 (fun h501 q19 => ?_)
              clear q17
              refine nrmO [0, 1, 7, 8, 11, 14] [.string (bs x397), .func (.func 128) ⟨[]⟩ ⟨[]⟩, .int .i64 ((x397.length : Int)), .int .i64 v496, .func (.func 128) ⟨[]⟩ ⟨[]⟩, .int .u8 (((x397.getD v496.toNat 0).toNat : Int))] (ce rfl (ce rfl (ce rfl (ce rfl (ce rfl (ce rfl (rfl))))))) ?_
              intro e502
              refine fn_of good Tryd.func128 rfl rfl rfl ?_
              refine sqs ?_
              refine bar ?_
              refine sqs ?_
              obtain ⟨z503, h504, q20⟩ := bindO q19
              clear q19
              refine w_host_digit ((x397.getD v496.toNat 0).toNat : Int) z503 h504 (hg.le (hJ4.trans (hJ388.trans hJ493))) hX hs495 ?_
              intro J505 w507 hJ506 hs508
              refine csO q20 (fun h509 q21 => ?_) (fun h509 q22 => ?_)
              · clear q20
                refine nrmO [0, 5, 6] [.int .u8 (((x397.getD v496.toNat 0).toNat : Int)), .bool true, undef] (ce rfl (ce rfl (ce rfl (rfl)))) ?_
                intro e510
                refine barN [2] [.bool true] (ce rfl (rfl)) ?_
                intro e511
                refine bar ?_
                refine bar ?_
                obtain rfl := Option.some.inj q21
                exact hZ499 _ _ ⟨J505, (hJ493.trans hJ506), ce rfl (ce rfl (ce rfl (ce rfl (rfl)))), hs508⟩
              · clear q20
                refine nrmP [0, 5] [.int .u8 (((x397.getD v496.toNat 0).toNat : Int)), .bool false] (ce rfl (ce rfl (rfl))) ?_
                intro e512
                obtain ⟨z513, h514, q23⟩ := bindO q22
                clear q22
                refine w_host_letter ((x397.getD v496.toNat 0).toNat : Int) z513 h514 (hg.le (hJ4.trans (hJ388.trans (hJ493.trans hJ506)))) hX hs508 ?_
                intro J515 w517 hJ516 hs518
                refine csO q23 (fun h519 q24 => ?_) (fun h519 q25 => ?_)
                · clear q23
                  refine nrmO [9, 10] [.bool true, undef] (ce rfl (ce rfl (rfl))) ?_
                  intro e520
                  refine bar ?_
                  refine barN [0, 1, 7, 8, 16] [.string (bs x397), .func (.func 128) ⟨[]⟩ ⟨[]⟩, .int .i64 ((x397.length : Int)), .int .i64 v496, .bool false] (ce rfl (ce rfl (ce rfl (ce rfl (ce rfl (rfl)))))) ?_
                  intro e521
                  refine bar ?_
                  obtain rfl := Option.some.inj q24
                  exact hZ499 _ _ ⟨J515, (hJ493.trans (hJ506.trans hJ516)), ce rfl (ce rfl (ce rfl (ce rfl (rfl)))), hs518⟩
                · clear q23
                  refine nrmP [0, 9] [.int .u8 (((x397.getD v496.toNat 0).toNat : Int)), .bool false] (ce rfl (ce rfl (rfl))) ?_
                  intro e522
                  refine bar ?_
                  refine barN [0, 1, 7, 8, 16] [.string (bs x397), .func (.func 128) ⟨[]⟩ ⟨[]⟩, .int .i64 ((x397.length : Int)), .int .i64 v496, .bool (!decide (((x397.getD v496.toNat 0).toNat : Int) = (45 : Int)))] (ce rfl (ce rfl (ce rfl (ce rfl (ce rfl (rfl)))))) ?_
                  intro e523
                  refine cnO q25 (fun h524 q26 => ?_) (fun h524 q27 => ?_)
                  · clear q25
                    refine bar ?_
                    obtain rfl := Option.some.inj q26
                    exact hZ499 _ _ ⟨J515, (hJ493.trans (hJ506.trans hJ516)), ce rfl (ce rfl (ce rfl (ce rfl (rfl)))), hs518⟩
                  · clear q25
                    refine sqs ?_
                    refine bar ?_
                    obtain ⟨r525, hm526, rfl⟩ := mapO q27
                    clear q27
                    obtain rfl : r525 = _ := hZ499
                    refine bar ?_
                    refine barN [2] [.bool false] (ce rfl (rfl)) ?_
                    intro e527
                    obtain ⟨r528, hm529, rfl⟩ := mapO hm526
                    clear hm526
                    obtain rfl : r528 = _ := hZ395
                    obtain rfl := Option.some.inj hm529
                    exact k J515 w517 (hJ4.trans (hJ388.trans (hJ493.trans (hJ506.trans hJ516)))) hs518
            · clear q16
              obtain ⟨r530, hm531, rfl⟩ := mapO q18
              clear q18
              obtain rfl : r530 = _ := hZ499
              refine bar ?_
              refine sqs ?_
              refine bar ?_
              refine barN [3, 5, 7, 8, 9, 38] [.bool v391, .string (bs x397), .slice a7 (z1.length) c8, .int .i64 (((z1.length : Nat) : Int)), .int .i64 v392, .bool false] (ce rfl (ce rfl (ce rfl (ce rfl (ce rfl (ce rfl (rfl))))))) ?_
              intro e532
              refine bar ?_
              refine csO hm531 (fun h533 q28 => ?_) (fun h533 q29 => ?_)
              · clear hm531
                refine fn_of good Tryd.func127 rfl rfl rfl ?_
                refine sqs ?_
                refine bar ?_
                refine sqs ?_
                refine sqs ?_
                refine barN [0, 1, 7, 8] [.string (bs x397), .func (.func 129) ⟨[]⟩ ⟨[]⟩, .int .i64 ((x397.length : Int)), .int .i64 ((0 : Int))] (ce rfl (ce rfl (ce rfl (ce rfl (rfl))))) ?_
                intro e534
                refine blk ?_
                refine loopP q28 [0, 1, 7, 8] (fun (s : Int) vs w' => ∃ (J : Im), Le J492 J ∧ vs = [.string (bs x397), .func (.func 129) ⟨[]⟩ ⟨[]⟩, .int .i64 ((x397.length : Int)), .int .i64 s] ∧ St c J (L) w') ⟨J492, Le.refl _, ce rfl (ce rfl (ce rfl (ce rfl (rfl)))), hs495⟩ ?_
                clear q28
                rintro Z569 v567 t568 vs e587 w565 hI q30 hZ570
                try dsimp only at hI
                obtain ⟨J563, hJ564, rfl, hs566⟩ := hI
                replace q30 : p_host_word_b3 v392 x397 v567 = some t568 := q30
                unfold p_host_word_b3 at q30
                refine sqs ?_
                refine bar ?_
                refine sqs ?_
                refine cdO q30 (fun h571 q31 => ?_) (fun h571 q32 => ?_)
                · clear q30
                  refine bar ?_
                  refine sqs ?_
                  refine blk ?_
                  refine sqs ?_
                  refine bar ?_
                  refine sqs ?_
                  refine reqO q31 (fun h572 q33 => ?_)
                  clear q31
                  refine nrmO [0, 1, 7, 8, 11, 14] [.string (bs x397), .func (.func 129) ⟨[]⟩ ⟨[]⟩, .int .i64 ((x397.length : Int)), .int .i64 v567, .func (.func 129) ⟨[]⟩ ⟨[]⟩, .int .u8 (((x397.getD v567.toNat 0).toNat : Int))] (ce rfl (ce rfl (ce rfl (ce rfl (ce rfl (ce rfl (rfl))))))) ?_
                  intro e573
                  obtain ⟨z574, h575, q34⟩ := bindO q33
                  clear q33
                  refine w_host_digit ((x397.getD v567.toNat 0).toNat : Int) z574 h575 (hg.le (hJ4.trans (hJ388.trans (hJ493.trans hJ564)))) hX hs566 ?_
                  intro J576 w578 hJ577 hs579
                  refine bar ?_
                  refine csO q34 (fun h580 q35 => ?_) (fun h580 q36 => ?_)
                  · clear q34
                    refine sqs ?_
                    refine bar ?_
                    obtain ⟨r581, hm582, rfl⟩ := mapO q35
                    clear q35
                    obtain rfl : r581 = _ := hZ570
                    refine barN [3, 7, 8, 9] [.bool false, .slice a7 (z1.length) c8, .int .i64 (((z1.length : Nat) : Int)), .int .i64 v392] (ce rfl (ce rfl (ce rfl (ce rfl (rfl))))) ?_
                    intro e583
                    obtain rfl := Option.some.inj hm582
                    exact hZ395 _ _ ⟨J576, (hJ388.trans (hJ493.trans (hJ564.trans hJ577))), ce rfl (ce rfl (ce rfl (ce rfl (rfl)))), hs579⟩
                  · clear q34
                    refine bar ?_
                    obtain rfl := Option.some.inj q36
                    exact hZ570 _ _ ⟨J576, (hJ564.trans hJ577), ce rfl (ce rfl (ce rfl (ce rfl (rfl)))), hs579⟩
                · clear q30
                  obtain ⟨r584, hm585, rfl⟩ := mapO q32
                  clear q32
                  obtain rfl : r584 = _ := hZ570
                  refine bar ?_
                  refine sqs ?_
                  refine bar ?_
                  refine barN [3, 7, 8, 9] [.bool true, .slice a7 (z1.length) c8, .int .i64 (((z1.length : Nat) : Int)), .int .i64 v392] (ce rfl (ce rfl (ce rfl (ce rfl (rfl))))) ?_
                  intro e586
                  obtain rfl := Option.some.inj hm585
                  exact hZ395 _ _ ⟨J563, (hJ388.trans (hJ493.trans hJ564)), ce rfl (ce rfl (ce rfl (ce rfl (rfl)))), hs566⟩
              · clear hm531
                refine barN [3, 7, 8, 9] [.bool false, .slice a7 (z1.length) c8, .int .i64 (((z1.length : Nat) : Int)), .int .i64 v392] (ce rfl (ce rfl (ce rfl (ce rfl (rfl))))) ?_
                intro e588
                obtain rfl := Option.some.inj q29
                exact hZ395 _ _ ⟨J492, (hJ388.trans hJ493), ce rfl (ce rfl (ce rfl (ce rfl (rfl)))), hs495⟩
  · clear q2
    obtain ⟨r590, hm591, rfl⟩ := mapO q4
    clear q4
    obtain rfl : r590 = _ := hZ395
    refine bar ?_
    refine sqs ?_
    refine barN [2] [.bool (!v391)] (ce rfl (rfl)) ?_
    intro e592
    obtain rfl := Option.some.inj hm591
    exact k J387 w389 (hJ4.trans hJ388) hs390
def p_host_number (x0 : (List UInt8)) (x1 : Int) (x2 : Int) : Option (Int) :=
  ((p_num_Scan x0 (0 : Int)).bind fun z1 => (if z1.2.2 = (0 : Int) then (if z1.2.1 = (x0.length : Int) then (if z1.1 < x1 then (some (-1 : Int)) else (if x2 < z1.1 then (some (-1 : Int)) else (some z1.1))) else (some (-1 : Int))) else (some (-1 : Int))))
set_option maxRecDepth 10000 in
set_option maxHeartbeats 4000000 in
theorem w_host_number {c : Cx} {I : Im} {L : List Ent} {w : World} {K : Value → World → Prop} (x0 : (List UInt8)) (x1 : Int) (x2 : Int) (r : Int) (hf : p_host_number x0 x1 x2 = some r) (hg : Glo I) (hX : ∀ b, ¬ c.X b) (hs : St c I L w)  
    (k : ∀  (J : Im) (w' : World), Le I J → St c J L w' → K (.int .i64 r) w') :
    callW Tryd.prog 73 [.string (bs x0), .int .i64 x1, .int .i64 x2] K w := by
  unfold p_host_number at hf
  refine fn_of good Tryd.func73 rfl rfl rfl ?_
  refine sqs ?_
  refine bar ?_
  refine sqs ?_
  obtain ⟨z1, h2, q1⟩ := bindO hf
  clear hf
  refine w_num_Scan x0 (0 : Int) z1 h2 hg hX hs ?_
  intro J3 w5 hJ4 hs6
  refine barN [0, 1, 2, 7, 8, 9] [.string (bs x0), .int .i64 x1, .int .i64 x2, .int .i64 z1.1, .int .i64 z1.2.1, .int .i64 z1.2.2] (ce rfl (ce rfl (ce rfl (ce rfl (ce rfl (ce rfl (rfl))))))) ?_
  intro e7
  refine sqs ?_
  refine sqs ?_
  refine cnO q1 (fun h8 q2 => ?_) (fun h8 q3 => ?_)
  · clear q1
    refine nrmP [0, 1, 2, 7, 8, 18] [.string (bs x0), .int .i64 x1, .int .i64 x2, .int .i64 z1.1, .int .i64 z1.2.1, .bool false] (ce rfl (ce rfl (ce rfl (ce rfl (ce rfl (ce rfl (rfl))))))) ?_
    intro e9
    refine cnO q2 (fun h10 q4 => ?_) (fun h10 q5 => ?_)
    · clear q2
      refine nrmP [1, 2, 7, 24] [.int .i64 x1, .int .i64 x2, .int .i64 z1.1, .bool false] (ce rfl (ce rfl (ce rfl (ce rfl (rfl))))) ?_
      intro e11
      refine cdO q4 (fun h12 q6 => ?_) (fun h12 q7 => ?_)
      · clear q4
        refine nrmO [2, 7, 29, 30] [.int .i64 x2, .int .i64 z1.1, .bool true, undef] (ce rfl (ce rfl (ce rfl (ce rfl (rfl))))) ?_
        intro e13
        refine bar ?_
        refine barN [6] [.int .i64 ((-1 : Int))] (ce rfl (rfl)) ?_
        intro e14
        obtain rfl := Option.some.inj q6
        exact k J3 w5 hJ4 hs6
      · clear q4
        refine nrmP [2, 7, 29] [.int .i64 x2, .int .i64 z1.1, .bool false] (ce rfl (ce rfl (ce rfl (rfl)))) ?_
        intro e15
        refine bar ?_
        refine cdO q7 (fun h16 q8 => ?_) (fun h16 q9 => ?_)
        · clear q7
          refine sqs ?_
          refine barN [6] [.int .i64 ((-1 : Int))] (ce rfl (rfl)) ?_
          intro e17
          obtain rfl := Option.some.inj q8
          exact k J3 w5 hJ4 hs6
        · clear q7
          refine bar ?_
          refine sqs ?_
          refine barN [6] [.int .i64 z1.1] (ce rfl (rfl)) ?_
          intro e18
          obtain rfl := Option.some.inj q9
          exact k J3 w5 hJ4 hs6
    · clear q2
      refine nrmO [1, 2, 7, 24, 25] [.int .i64 x1, .int .i64 x2, .int .i64 z1.1, .bool true, undef] (ce rfl (ce rfl (ce rfl (ce rfl (ce rfl (rfl)))))) ?_
      intro e19
      refine barN [7, 33] [.int .i64 z1.1, .bool true] (ce rfl (ce rfl (rfl))) ?_
      intro e20
      refine bar ?_
      obtain rfl := Option.some.inj q5
      exact k J3 w5 hJ4 hs6
  · clear q1
    refine nrmO [0, 1, 2, 7, 18, 19] [.string (bs x0), .int .i64 x1, .int .i64 x2, .int .i64 z1.1, .bool true, undef] (ce rfl (ce rfl (ce rfl (ce rfl (ce rfl (ce rfl (rfl))))))) ?_
    intro e21
    refine barN [7, 33] [.int .i64 z1.1, .bool true] (ce rfl (ce rfl (rfl))) ?_
    intro e22
    refine bar ?_
    obtain rfl := Option.some.inj q3
    exact k J3 w5 hJ4 hs6
def p_host_four_b1 (z1 : (List (List UInt8))) (v64 : Int) : Option ((Int) ⊕ (Bool)) :=
  (if v64 < ((z1.length : Nat) : Int) then ((getI z1 v64).bind fun x69 => ((p_host_number x69 (0 : Int) (255 : Int)).bind fun z80 => (if z80 < (0 : Int) then (Option.map Sum.inr (some false)) else (some (.inl ((IntKind.i64.wrap (v64 + (1 : Int))))))))) else (Option.map Sum.inr (some (decide (((z1.length : Nat) : Int) = (4 : Int))))))
def p_host_four (x0 : (List UInt8)) : Option (Bool) :=
  ((p_strings_Split x0 ([46] : List UInt8)).bind fun z1 => (loopO (fun (s : Int) => p_host_four_b1 z1 s) ((0 : Int))))
set_option maxRecDepth 10000 in
set_option maxHeartbeats 4000000 in
theorem w_host_four {c : Cx} {I : Im} {L : List Ent} {w : World} {K : Value → World → Prop} (x0 : (List UInt8)) (r : Bool) (hf : p_host_four x0 = some r) (hg : Glo I) (hX : ∀ b, ¬ c.X b) (hs : St c I L w)  
    (k : ∀  (J : Im) (w' : World), Le I J → St c J L w' → K (.bool r) w') :
    callW Tryd.prog 76 [.string (bs x0)] K w := by
  unfold p_host_four at hf
  refine fn_of good Tryd.func76 rfl rfl rfl ?_
  refine sqs ?_
  refine bar ?_
  refine sqs ?_
  obtain ⟨z1, h2, q1⟩ := bindO hf
  clear hf
  refine w_strings_Split x0 ([46] : List UInt8) z1 h2 hg hX hs ?_
  intro a7 c8 J3 w5 hJ4 hs6 h9
  refine barN [3] [.slice a7 (z1.length) c8] (ce rfl (rfl)) ?_
  intro e10
  refine sqs ?_
  refine sqs ?_
  refine bar ?_
  refine blk ?_
  refine loopP q1 [3, 8, 9, 10] (fun (s : Int) vs w' => ∃ (J : Im), Le J3 J ∧ vs = [.slice a7 (z1.length) c8, .slice a7 (z1.length) c8, .int .i64 (((z1.length : Nat) : Int)), .int .i64 s] ∧ St c J (L) w') ⟨J3, Le.refl _, ce rfl (ce rfl (ce rfl (ce rfl (rfl)))), hs6⟩ ?_
  clear q1
  rintro Z66 v64 t65 vs e93 w62 hI q2 hZ67
  try dsimp only at hI
  obtain ⟨J60, hJ61, rfl, hs63⟩ := hI
  replace q2 : p_host_four_b1 z1 v64 = some t65 := q2
  unfold p_host_four_b1 at q2
  refine sqs ?_
  refine bar ?_
  refine sqs ?_
  refine cdO q2 (fun h68 q3 => ?_) (fun h68 q4 => ?_)
  · clear q2
    refine bar ?_
    refine sqs ?_
    refine blk ?_
    refine sqs ?_
    obtain ⟨x69, h75, q5⟩ := bindO q3
    clear q3
    obtain ⟨ad70, r71, h72, h73, h74, h76, h77, h78⟩ := RdL.getI (RdL.mono h9 hJ61 (fun _ _ _ h => h)) h75
    obtain rfl : r71 = [.string (bs x69)] := h76
    refine idx h72 h73 h74 ?_
    refine ldc1 (h78 _ hs63.im 0 _ rfl) ?_
    refine barN [3, 5, 8, 9, 10] [.slice a7 (z1.length) c8, .string (bs x69), .slice a7 (z1.length) c8, .int .i64 (((z1.length : Nat) : Int)), .int .i64 v64] (ce rfl (ce rfl (ce rfl (ce rfl (ce rfl (rfl)))))) ?_
    intro e79
    refine sqs ?_
    obtain ⟨z80, h81, q6⟩ := bindO q5
    clear q5
    refine w_host_number x69 (0 : Int) (255 : Int) z80 h81 (hg.le (hJ4.trans hJ61)) hX hs63 ?_
    intro J82 w84 hJ83 hs85
    refine bar ?_
    refine cdO q6 (fun h86 q7 => ?_) (fun h86 q8 => ?_)
    · clear q6
      refine sqs ?_
      refine barN [2] [.bool false] (ce rfl (rfl)) ?_
      intro e87
      obtain ⟨r88, hm89, rfl⟩ := mapO q7
      clear q7
      obtain rfl : r88 = _ := hZ67
      obtain rfl := Option.some.inj hm89
      exact k J82 w84 (hJ4.trans (hJ61.trans hJ83)) hs85
    · clear q6
      refine bar ?_
      obtain rfl := Option.some.inj q8
      exact hZ67 _ _ ⟨J82, (hJ61.trans hJ83), ce rfl (ce rfl (ce rfl (ce rfl (rfl)))), hs85⟩
  · clear q2
    obtain ⟨r90, hm91, rfl⟩ := mapO q4
    clear q4
    obtain rfl : r90 = _ := hZ67
    refine bar ?_
    refine sqs ?_
    refine barN [2] [.bool (decide (((z1.length : Nat) : Int) = (4 : Int)))] (ce rfl (rfl)) ?_
    intro e92
    obtain rfl := Option.some.inj hm91
    exact k J60 w62 (hJ4.trans hJ61) hs63
def p_host_groups_b2 (v304 : Int) (v305 : Int) (x310 : (List UInt8)) (v403 : Int) : Option ((Int) ⊕ (((Int × Int) ⊕ (Int)))) :=
  (if v403 < (x310.length : Int) then (if 0 ≤ v403 ∧ v403 < (x310.length : Int) then ((p_host_digit ((x310.getD v403.toNat 0).toNat : Int)).bind fun z410 => (if z410 = true then (some (.inl ((IntKind.i64.wrap (v403 + (1 : Int)))))) else (if (97 : Int) ≤ ((x310.getD v403.toNat 0).toNat : Int) then (if ((x310.getD v403.toNat 0).toNat : Int) ≤ (102 : Int) then (some (.inl ((IntKind.i64.wrap (v403 + (1 : Int)))))) else (if (65 : Int) ≤ ((x310.getD v403.toNat 0).toNat : Int) then (if ((x310.getD v403.toNat 0).toNat : Int) ≤ (70 : Int) then (some (.inl ((IntKind.i64.wrap (v403 + (1 : Int)))))) else (Option.map Sum.inr (Option.map Sum.inr (some (-1 : Int))))) else (Option.map Sum.inr (Option.map Sum.inr (some (-1 : Int)))))) else (if (65 : Int) ≤ ((x310.getD v403.toNat 0).toNat : Int) then (if ((x310.getD v403.toNat 0).toNat : Int) ≤ (70 : Int) then (some (.inl ((IntKind.i64.wrap (v403 + (1 : Int)))))) else (Option.map Sum.inr (Option.map Sum.inr (some (-1 : Int))))) else (Option.map Sum.inr (Option.map Sum.inr (some (-1 : Int)))))))) else none) else (Option.map Sum.inr (some (.inl ((IntKind.i64.wrap (v304 + (1 : Int))), (IntKind.i64.wrap (v305 + (1 : Int))))))))
def p_host_groups_b1 (z4 : (List (List UInt8))) (v304 : Int) (v305 : Int) : Option ((Int × Int) ⊕ (Int)) :=
  (if v305 < ((z4.length : Nat) : Int) then ((getI z4 v305).bind fun x310 => (if (x310.length : Int) < (1 : Int) then (Option.map Sum.inr (some (-1 : Int))) else (if (4 : Int) < (x310.length : Int) then (Option.map Sum.inr (some (-1 : Int))) else (loopO (fun (s : Int) => p_host_groups_b2 v304 v305 x310 s) ((0 : Int)))))) else (Option.map Sum.inr (some v304)))
def p_host_groups (x0 : (List UInt8)) : Option (Int) :=
  (if x0 = ([] : List UInt8) then (some (0 : Int)) else ((p_strings_Split x0 ([58] : List UInt8)).bind fun z4 => (loopO (fun (s : Int × Int) => p_host_groups_b1 z4 s.1 s.2) ((0 : Int), (0 : Int)))))
set_option maxRecDepth 10000 in
set_option maxHeartbeats 4000000 in
theorem w_host_groups {c : Cx} {I : Im} {L : List Ent} {w : World} {K : Value → World → Prop} (x0 : (List UInt8)) (r : Int) (hf : p_host_groups x0 = some r) (hg : Glo I) (hX : ∀ b, ¬ c.X b) (hs : St c I L w)  
    (k : ∀  (J : Im) (w' : World), Le I J → St c J L w' → K (.int .i64 r) w') :
    callW Tryd.prog 131 [.string (bs x0)] K w := by
  unfold p_host_groups at hf
  refine fn_of good Tryd.func131 rfl rfl rfl ?_
  refine sqs ?_
  refine bar ?_
  refine sqs ?_
  refine sqs ?_
  refine bar ?_
  refine cdO hf (fun h1 q1 => ?_) (fun h1 q2 => ?_)
  · clear hf
    refine sqs ?_
    refine barN [2] [.int .i64 ((0 : Int))] (ce rfl (rfl)) ?_
    intro e2
    obtain rfl := Option.some.inj q1
    exact k I w (Le.refl _) hs
  · clear hf
    refine bar ?_
    refine sqs ?_
    refine barN [0, 3] [.string (bs x0), .int .i64 ((0 : Int))] (ce rfl (ce rfl (rfl))) ?_
    intro e3
    refine sqs ?_
    refine sqs ?_
    obtain ⟨z4, h5, q3⟩ := bindO q2
    clear q2
    refine w_strings_Split x0 ([58] : List UInt8) z4 h5 hg hX hs ?_
    intro a10 c11 J6 w8 hJ7 hs9 h12
    refine barN [3, 9, 10, 11] [.int .i64 ((0 : Int)), .slice a10 (z4.length) c11, .int .i64 (((z4.length : Nat) : Int)), .int .i64 ((0 : Int))] (ce rfl (ce rfl (ce rfl (ce rfl (rfl))))) ?_
    intro e13
    refine blk ?_
    refine loopP q3 [3, 9, 10, 11] (fun (s : Int × Int) vs w' => ∃ (J : Im), Le J6 J ∧ vs = [.int .i64 s.1, .slice a10 (z4.length) c11, .int .i64 (((z4.length : Nat) : Int)), .int .i64 s.2] ∧ St c J (L) w') ⟨J6, Le.refl _, ce rfl (ce rfl (ce rfl (ce rfl (rfl)))), hs9⟩ ?_
    clear q3
    rintro Z307 ⟨v304, v305⟩ t306 vs e461 w302 hI q4 hZ308
    try dsimp only at hI
    obtain ⟨J300, hJ301, rfl, hs303⟩ := hI
    replace q4 : p_host_groups_b1 z4 v304 v305 = some t306 := q4
    unfold p_host_groups_b1 at q4
    refine sqs ?_
    refine bar ?_
    refine sqs ?_
    refine cdO q4 (fun h309 q5 => ?_) (fun h309 q6 => ?_)
    · clear q4
      refine bar ?_
      refine sqs ?_
      refine blk ?_
      refine sqs ?_
      obtain ⟨x310, h316, q7⟩ := bindO q5
      clear q5
      obtain ⟨ad311, r312, h313, h314, h315, h317, h318, h319⟩ := RdL.getI (RdL.mono h12 hJ301 (fun _ _ _ h => h)) h316
      obtain rfl : r312 = [.string (bs x310)] := h317
      refine idx h313 h314 h315 ?_
      refine ldc1 (h319 _ hs303.im 0 _ rfl) ?_
      refine barN [3, 5, 9, 10, 11] [.int .i64 v304, .string (bs x310), .slice a10 (z4.length) c11, .int .i64 (((z4.length : Nat) : Int)), .int .i64 v305] (ce rfl (ce rfl (ce rfl (ce rfl (ce rfl (rfl)))))) ?_
      intro e320
      refine sqs ?_
      refine sqs ?_
      refine cdO q7 (fun h321 q8 => ?_) (fun h321 q9 => ?_)
      · clear q7
        refine nrmO [3, 5, 9, 10, 11, 18, 19] [.int .i64 v304, .string (bs x310), .slice a10 (z4.length) c11, .int .i64 (((z4.length : Nat) : Int)), .int .i64 v305, .bool true, undef] (ce rfl (ce rfl (ce rfl (ce rfl (ce rfl (ce rfl (ce rfl (rfl)))))))) ?_
        intro e322
        refine barN [3, 9, 10, 11, 27] [.int .i64 v304, .slice a10 (z4.length) c11, .int .i64 (((z4.length : Nat) : Int)), .int .i64 v305, .bool true] (ce rfl (ce rfl (ce rfl (ce rfl (ce rfl (rfl)))))) ?_
        intro e323
        refine bar ?_
        obtain ⟨r324, hm325, rfl⟩ := mapO q8
        clear q8
        obtain rfl : r324 = _ := hZ308
        obtain rfl := Option.some.inj hm325
        exact k J300 w302 (hJ7.trans hJ301) hs303
      · clear q7
        refine nrmP [3, 5, 9, 10, 11, 18] [.int .i64 v304, .string (bs x310), .slice a10 (z4.length) c11, .int .i64 (((z4.length : Nat) : Int)), .int .i64 v305, .bool false] (ce rfl (ce rfl (ce rfl (ce rfl (ce rfl (ce rfl (rfl))))))) ?_
        intro e326
        refine cdO q9 (fun h327 q10 => ?_) (fun h327 q11 => ?_)
        · clear q9
          refine nrmO [3, 9, 10, 11, 23, 24] [.int .i64 v304, .slice a10 (z4.length) c11, .int .i64 (((z4.length : Nat) : Int)), .int .i64 v305, .bool true, undef] (ce rfl (ce rfl (ce rfl (ce rfl (ce rfl (ce rfl (rfl))))))) ?_
          intro e328
          refine bar ?_
          refine barN [2] [.int .i64 ((-1 : Int))] (ce rfl (rfl)) ?_
          intro e329
          obtain ⟨r330, hm331, rfl⟩ := mapO q10
          clear q10
          obtain rfl : r330 = _ := hZ308
          obtain rfl := Option.some.inj hm331
          exact k J300 w302 (hJ7.trans hJ301) hs303
        · clear q9
          refine nrmP [3, 5, 9, 10, 11, 23] [.int .i64 v304, .string (bs x310), .slice a10 (z4.length) c11, .int .i64 (((z4.length : Nat) : Int)), .int .i64 v305, .bool false] (ce rfl (ce rfl (ce rfl (ce rfl (ce rfl (ce rfl (rfl))))))) ?_
          intro e332
          refine fn_of good Tryd.func127 rfl rfl rfl ?_
          refine sqs ?_
          refine bar ?_
          refine sqs ?_
          refine sqs ?_
          refine barN [0, 1, 7, 8] [.string (bs x310), .func (.func 168) ⟨[]⟩ ⟨[]⟩, .int .i64 ((x310.length : Int)), .int .i64 ((0 : Int))] (ce rfl (ce rfl (ce rfl (ce rfl (rfl))))) ?_
          intro e333
          refine blk ?_
          refine loopP q11 [0, 1, 7, 8] (fun (s : Int) vs w' => ∃ (J : Im), Le J300 J ∧ vs = [.string (bs x310), .func (.func 168) ⟨[]⟩ ⟨[]⟩, .int .i64 ((x310.length : Int)), .int .i64 s] ∧ St c J (L) w') ⟨J300, Le.refl _, ce rfl (ce rfl (ce rfl (ce rfl (rfl)))), hs303⟩ ?_
          clear q11
          rintro Z405 v403 t404 vs e458 w401 hI q12 hZ406
          try dsimp only at hI
          obtain ⟨J399, hJ400, rfl, hs402⟩ := hI
          replace q12 : p_host_groups_b2 v304 v305 x310 v403 = some t404 := q12
          unfold p_host_groups_b2 at q12
          refine sqs ?_
          refine bar ?_
          refine sqs ?_
          refine cdO q12 (fun h407 q13 => ?_) (fun h407 q14 => ?_)
          · clear q12
            refine bar ?_
            refine sqs ?_
            refine blk ?_
            refine sqs ?_
            refine bar ?_
            refine sqs ?_
            refine reqO q13 (fun h408 q15 => ?_)
            clear q13
            refine nrmO [0, 1, 7, 8, 11, 14] [.string (bs x310), .func (.func 168) ⟨[]⟩ ⟨[]⟩, .int .i64 ((x310.length : Int)), .int .i64 v403, .func (.func 168) ⟨[]⟩ ⟨[]⟩, .int .u8 (((x310.getD v403.toNat 0).toNat : Int))] (ce rfl (ce rfl (ce rfl (ce rfl (ce rfl (ce rfl (rfl))))))) ?_
            intro e409
            refine fn_of good Tryd.func168 rfl rfl rfl ?_
            refine sqs ?_
            refine bar ?_
            refine sqs ?_
            obtain ⟨z410, h411, q16⟩ := bindO q15
            clear q15
            refine w_host_digit ((x310.getD v403.toNat 0).toNat : Int) z410 h411 (hg.le (hJ7.trans (hJ301.trans hJ400))) hX hs402 ?_
            intro J412 w414 hJ413 hs415
            refine csO q16 (fun h416 q17 => ?_) (fun h416 q18 => ?_)
            · clear q16
              refine nrmO [0, 5, 6] [.int .u8 (((x310.getD v403.toNat 0).toNat : Int)), .bool true, undef] (ce rfl (ce rfl (ce rfl (rfl)))) ?_
              intro e417
              refine barN [2] [.bool true] (ce rfl (rfl)) ?_
              intro e418
              refine bar ?_
              refine bar ?_
              obtain rfl := Option.some.inj q17
              exact hZ406 _ _ ⟨J412, (hJ400.trans hJ413), ce rfl (ce rfl (ce rfl (ce rfl (rfl)))), hs415⟩
            · clear q16
              refine nrmP [0, 5] [.int .u8 (((x310.getD v403.toNat 0).toNat : Int)), .bool false] (ce rfl (ce rfl (rfl))) ?_
              intro e419
              refine cdO q18 (fun h420 q19 => ?_) (fun h420 q20 => ?_)
              · clear q18
                refine cdO q19 (fun h421 q21 => ?_) (fun h421 q22 => ?_)
                · clear q19
                  refine nrmO [0, 13, 14] [.int .u8 (((x310.getD v403.toNat 0).toNat : Int)), .bool true, undef] (ce rfl (ce rfl (ce rfl (rfl)))) ?_
                  intro e422
                  refine barN [2] [.bool true] (ce rfl (rfl)) ?_
                  intro e423
                  refine bar ?_
                  refine bar ?_
                  obtain rfl := Option.some.inj q21
                  exact hZ406 _ _ ⟨J412, (hJ400.trans hJ413), ce rfl (ce rfl (ce rfl (ce rfl (rfl)))), hs415⟩
                · clear q19
                  refine nrmP [0, 13] [.int .u8 (((x310.getD v403.toNat 0).toNat : Int)), .bool false] (ce rfl (ce rfl (rfl))) ?_
                  intro e424
                  refine cdO q22 (fun h425 q23 => ?_) (fun h425 q24 => ?_)
                  · clear q22
                    refine barN [2] [.bool (decide (((x310.getD v403.toNat 0).toNat : Int) ≤ (70 : Int)))] (ce rfl (rfl)) ?_
                    intro e426
                    refine bar ?_
                    refine cnO q23 (fun h427 q25 => ?_) (fun h427 q26 => ?_)
                    · clear q23
                      refine bar ?_
                      obtain rfl := Option.some.inj q25
                      exact hZ406 _ _ ⟨J412, (hJ400.trans hJ413), ce rfl (ce rfl (ce rfl (ce rfl (rfl)))), hs415⟩
                    · clear q23
                      refine sqs ?_
                      refine bar ?_
                      obtain ⟨r428, hm429, rfl⟩ := mapO q26
                      clear q26
                      obtain rfl : r428 = _ := hZ406
                      refine barN [3, 9, 10, 11, 27] [.int .i64 v304, .slice a10 (z4.length) c11, .int .i64 (((z4.length : Nat) : Int)), .int .i64 v305, .bool true] (ce rfl (ce rfl (ce rfl (ce rfl (ce rfl (rfl)))))) ?_
                      intro e430
                      refine bar ?_
                      obtain ⟨r431, hm432, rfl⟩ := mapO hm429
                      clear hm429
                      obtain rfl : r431 = _ := hZ308
                      obtain rfl := Option.some.inj hm432
                      exact k J412 w414 (hJ7.trans (hJ301.trans (hJ400.trans hJ413))) hs415
                  · clear q22
                    refine barN [2] [.bool false] (ce rfl (rfl)) ?_
                    intro e433
                    refine bar ?_
                    refine bar ?_
                    obtain ⟨r434, hm435, rfl⟩ := mapO q24
                    clear q24
                    obtain rfl : r434 = _ := hZ406
                    refine barN [3, 9, 10, 11, 27] [.int .i64 v304, .slice a10 (z4.length) c11, .int .i64 (((z4.length : Nat) : Int)), .int .i64 v305, .bool true] (ce rfl (ce rfl (ce rfl (ce rfl (ce rfl (rfl)))))) ?_
                    intro e436
                    refine bar ?_
                    obtain ⟨r437, hm438, rfl⟩ := mapO hm435
                    clear hm435
                    obtain rfl : r437 = _ := hZ308
                    obtain rfl := Option.some.inj hm438
                    exact k J412 w414 (hJ7.trans (hJ301.trans (hJ400.trans hJ413))) hs415
              · clear q18
                refine cdO q20 (fun h439 q27 => ?_) (fun h439 q28 => ?_)
                · clear q20
                  refine nrmP [0, 13, 16] [.int .u8 (((x310.getD v403.toNat 0).toNat : Int)), .bool false, .bool true] (ce rfl (ce rfl (ce rfl (rfl)))) ?_
                  intro e440
                  refine barN [2] [.bool (decide (((x310.getD v403.toNat 0).toNat : Int) ≤ (70 : Int)))] (ce rfl (rfl)) ?_
                  intro e441
                  refine bar ?_
                  refine cnO q27 (fun h442 q29 => ?_) (fun h442 q30 => ?_)
                  · clear q27
                    refine bar ?_
                    obtain rfl := Option.some.inj q29
                    exact hZ406 _ _ ⟨J412, (hJ400.trans hJ413), ce rfl (ce rfl (ce rfl (ce rfl (rfl)))), hs415⟩
                  · clear q27
                    refine sqs ?_
                    refine bar ?_
                    obtain ⟨r443, hm444, rfl⟩ := mapO q30
                    clear q30
                    obtain rfl : r443 = _ := hZ406
                    refine barN [3, 9, 10, 11, 27] [.int .i64 v304, .slice a10 (z4.length) c11, .int .i64 (((z4.length : Nat) : Int)), .int .i64 v305, .bool true] (ce rfl (ce rfl (ce rfl (ce rfl (ce rfl (rfl)))))) ?_
                    intro e445
                    refine bar ?_
                    obtain ⟨r446, hm447, rfl⟩ := mapO hm444
                    clear hm444
                    obtain rfl : r446 = _ := hZ308
                    obtain rfl := Option.some.inj hm447
                    exact k J412 w414 (hJ7.trans (hJ301.trans (hJ400.trans hJ413))) hs415
                · clear q20
                  refine nrmO [13, 16, 17] [.bool false, .bool false, undef] (ce rfl (ce rfl (ce rfl (rfl)))) ?_
                  intro e448
                  refine barN [2] [.bool false] (ce rfl (rfl)) ?_
                  intro e449
                  refine bar ?_
                  refine bar ?_
                  obtain ⟨r450, hm451, rfl⟩ := mapO q28
                  clear q28
                  obtain rfl : r450 = _ := hZ406
                  refine barN [3, 9, 10, 11, 27] [.int .i64 v304, .slice a10 (z4.length) c11, .int .i64 (((z4.length : Nat) : Int)), .int .i64 v305, .bool true] (ce rfl (ce rfl (ce rfl (ce rfl (ce rfl (rfl)))))) ?_
                  intro e452
                  refine bar ?_
                  obtain ⟨r453, hm454, rfl⟩ := mapO hm451
                  clear hm451
                  obtain rfl : r453 = _ := hZ308
                  obtain rfl := Option.some.inj hm454
                  exact k J412 w414 (hJ7.trans (hJ301.trans (hJ400.trans hJ413))) hs415
          · clear q12
            obtain ⟨r455, hm456, rfl⟩ := mapO q14
            clear q14
            obtain rfl : r455 = _ := hZ406
            refine bar ?_
            refine sqs ?_
            refine bar ?_
            refine barN [3, 9, 10, 11, 27] [.int .i64 v304, .slice a10 (z4.length) c11, .int .i64 (((z4.length : Nat) : Int)), .int .i64 v305, .bool false] (ce rfl (ce rfl (ce rfl (ce rfl (ce rfl (rfl)))))) ?_
            intro e457
            refine bar ?_
            refine bar ?_
            obtain rfl := Option.some.inj hm456
            exact hZ308 _ _ ⟨J399, (hJ301.trans hJ400), ce rfl (ce rfl (ce rfl (ce rfl (rfl)))), hs402⟩
    · clear q4
      obtain ⟨r459, hm460, rfl⟩ := mapO q6
      clear q6
      obtain rfl : r459 = _ := hZ308
      refine bar ?_
      refine sqs ?_
      refine bar ?_
      obtain rfl := Option.some.inj hm460
      exact k J300 w302 (hJ7.trans hJ301) hs303
def p_host_brackets (x0 : (List UInt8)) : Option (Bool) :=
  (if (x0.length : Int) < (2 : Int) then (some false) else (if 0 ≤ (0 : Int) ∧ (0 : Int) < (x0.length : Int) then (if ((x0.getD (0 : Int).toNat 0).toNat : Int) = (91 : Int) then (if 0 ≤ (IntKind.i64.wrap ((x0.length : Int) - (1 : Int))) ∧ (IntKind.i64.wrap ((x0.length : Int) - (1 : Int))) < (x0.length : Int) then (if ((x0.getD (IntKind.i64.wrap ((x0.length : Int) - (1 : Int))).toNat 0).toNat : Int) = (93 : Int) then (if 0 ≤ (1 : Int) ∧ (1 : Int) ≤ (IntKind.i64.wrap ((x0.length : Int) - (1 : Int))) ∧ (IntKind.i64.wrap ((x0.length : Int) - (1 : Int))) ≤ (x0.length : Int) then ((p_strings_Cut (subS x0 (1 : Int) (IntKind.i64.wrap ((x0.length : Int) - (1 : Int)))) ([58, 58] : List UInt8)).bind fun z12 => ((p_host_groups z12.1).bind fun z20 => ((p_host_groups z12.2.1).bind fun z26 => (if z20 < (0 : Int) then (some false) else (if z26 < (0 : Int) then (some false) else (if z12.2.2 = true then (if (IntKind.i64.wrap (z20 + z26)) ≤ (7 : Int) then (some true) else (if (!z12.2.2) = true then (some (decide ((IntKind.i64.wrap (z20 + z26)) = (8 : Int)))) else (some false))) else (if (!z12.2.2) = true then (some (decide ((IntKind.i64.wrap (z20 + z26)) = (8 : Int)))) else (some false)))))))) else none) else (some false)) else none) else (some false)) else none))
set_option maxRecDepth 10000 in
set_option maxHeartbeats 4000000 in
theorem w_host_brackets {c : Cx} {I : Im} {L : List Ent} {w : World} {K : Value → World → Prop} (x0 : (List UInt8)) (r : Bool) (hf : p_host_brackets x0 = some r) (hg : Glo I) (hX : ∀ b, ¬ c.X b) (hs : St c I L w)  
    (k : ∀  (J : Im) (w' : World), Le I J → St c J L w' → K (.bool r) w') :
    callW Tryd.prog 77 [.string (bs x0)] K w := by
  unfold p_host_brackets at hf
  refine fn_of good Tryd.func77 rfl rfl rfl ?_
  refine sqs ?_
  refine bar ?_
  refine sqs ?_
  refine sqs ?_
  refine cdO hf (fun h1 q1 => ?_) (fun h1 q2 => ?_)
  · clear hf
    refine nrmO [0, 11, 12] [.string (bs x0), .bool true, undef] (ce rfl (ce rfl (ce rfl (rfl)))) ?_
    intro e2
    refine barN [0, 23] [.string (bs x0), .bool true] (ce rfl (ce rfl (rfl))) ?_
    intro e3
    refine bar ?_
    obtain rfl := Option.some.inj q1
    exact k I w (Le.refl _) hs
  · clear hf
    refine nrmP [0, 11] [.string (bs x0), .bool false] (ce rfl (ce rfl (rfl))) ?_
    intro e4
    refine reqO q2 (fun h5 q3 => ?_)
    clear q2
    refine cnO q3 (fun h6 q4 => ?_) (fun h6 q5 => ?_)
    · clear q3
      refine nrmP [0, 16] [.string (bs x0), .bool false] (ce rfl (ce rfl (rfl))) ?_
      intro e7
      refine reqO q4 (fun h8 q6 => ?_)
      clear q4
      refine barN [0, 23] [.string (bs x0), .bool (!decide (((x0.getD (IntKind.i64.wrap ((x0.length : Int) - (1 : Int))).toNat 0).toNat : Int) = (93 : Int)))] (ce rfl (ce rfl (rfl))) ?_
      intro e9
      refine cnO q6 (fun h10 q7 => ?_) (fun h10 q8 => ?_)
      · clear q6
        refine bar ?_
        refine sqs ?_
        refine reqO q7 (fun h11 q9 => ?_)
        clear q7
        obtain ⟨z12, h13, q10⟩ := bindO q9
        clear q9
        refine w_strings_Cut (subS x0 (1 : Int) (IntKind.i64.wrap ((x0.length : Int) - (1 : Int)))) ([58, 58] : List UInt8) z12 h13 hg hX hs ?_
        intro J14 w16 hJ15 hs17
        refine nrmO [30] [.tuple ⟨[.string (bs z12.1), .string (bs z12.2.1), .bool z12.2.2]⟩] (ce rfl (rfl)) ?_
        intro e18
        refine barN [3, 4, 5] [.string (bs z12.1), .string (bs z12.2.1), .bool z12.2.2] (ce rfl (ce rfl (ce rfl (rfl)))) ?_
        intro e19
        refine sqs ?_
        obtain ⟨z20, h21, q11⟩ := bindO q10
        clear q10
        refine w_host_groups z12.1 z20 h21 (hg.le hJ15) hX hs17 ?_
        intro J22 w24 hJ23 hs25
        obtain ⟨z26, h27, q12⟩ := bindO q11
        clear q11
        refine w_host_groups z12.2.1 z26 h27 (hg.le (hJ15.trans hJ23)) hX hs25 ?_
        intro J28 w30 hJ29 hs31
        refine semW_mk (run_build _ _ _ ⟨[.int .i64 z20, .int .i64 z26]⟩ (by kernel_rfl)) ?_
        refine new hs31 ?_
        intro b32 w33 hs34
        have hs34 : St c J28 (.blk b32 (.cells ⟨[.int .i64 ((0 : Int)), .int .i64 ((0 : Int))]⟩ 158) :: L) w33 := hs34
        refine nrmO [5, 6, 38] [.bool z12.2.2, .pointer (some ⟨b32, 0, none⟩), .agg ⟨[.int .i64 z20, .int .i64 z26]⟩] (ce rfl (ce rfl (ce rfl (rfl)))) ?_
        intro e35
        refine sto 0 hs34 rfl rfl rfl ?_
        intro w36 hs37
        have hs37 : St c J28 (.blk b32 (.cells ⟨[.int .i64 z20, .int .i64 z26]⟩ 158) :: L) w36 := hs37
        refine bar ?_
        refine sqs ?_
        refine sqs ?_
        refine idx rfl (by decide) (by decide) ?_
        refine ld 0 hs37 rfl rfl rfl ?_
        refine cdO q12 (fun h38 q13 => ?_) (fun h38 q14 => ?_)
        · clear q12
          refine nrmO [5, 6, 42, 43] [.bool z12.2.2, .pointer (some ⟨b32, 0, none⟩), .bool true, undef] (ce rfl (ce rfl (ce rfl (ce rfl (rfl))))) ?_
          intro e39
          refine bar ?_
          refine barN [2] [.bool false] (ce rfl (rfl)) ?_
          intro e40
          obtain rfl := Option.some.inj q13
          exact k J28 w36 (hJ15.trans (hJ23.trans hJ29)) (hs37.drop 0)
        · clear q12
          refine nrmP [5, 6, 42] [.bool z12.2.2, .pointer (some ⟨b32, 0, none⟩), .bool false] (ce rfl (ce rfl (ce rfl (rfl)))) ?_
          intro e41
          refine idx rfl (by decide) (by decide) ?_
          refine ld 0 hs37 rfl rfl rfl ?_
          refine bar ?_
          refine cdO q14 (fun h42 q15 => ?_) (fun h42 q16 => ?_)
          · clear q14
            refine sqs ?_
            refine barN [2] [.bool false] (ce rfl (rfl)) ?_
            intro e43
            obtain rfl := Option.some.inj q15
            exact k J28 w36 (hJ15.trans (hJ23.trans hJ29)) (hs37.drop 0)
          · clear q14
            refine bar ?_
            refine sqs ?_
            refine idx rfl (by decide) (by decide) ?_
            refine ld 0 hs37 rfl rfl rfl ?_
            refine idx rfl (by decide) (by decide) ?_
            refine nrmO [5, 48, 49] [.bool z12.2.2, .int .i64 z20, .pointer (some ⟨b32, 1, none⟩)] (ce rfl (ce rfl (ce rfl (rfl)))) ?_
            intro e44
            refine ld 0 hs37 rfl rfl rfl ?_
            refine bar ?_
            refine sqs ?_
            refine csO q16 (fun h45 q17 => ?_) (fun h45 q18 => ?_)
            · clear q16
              refine nrmP [5, 7, 53] [.bool z12.2.2, .int .i64 ((IntKind.i64.wrap (z20 + z26))), .bool true] (ce rfl (ce rfl (ce rfl (rfl)))) ?_
              intro e46
              refine cdO q17 (fun h47 q19 => ?_) (fun h47 q20 => ?_)
              · clear q17
                refine nrmO [7, 57, 58] [.int .i64 ((IntKind.i64.wrap (z20 + z26))), .bool true, undef] (ce rfl (ce rfl (ce rfl (rfl)))) ?_
                intro e48
                refine barN [2] [.bool true] (ce rfl (rfl)) ?_
                intro e49
                obtain rfl := Option.some.inj q19
                exact k J28 w36 (hJ15.trans (hJ23.trans hJ29)) (hs37.drop 0)
              · clear q17
                refine nrmP [5, 7, 57] [.bool z12.2.2, .int .i64 ((IntKind.i64.wrap (z20 + z26))), .bool false] (ce rfl (ce rfl (ce rfl (rfl)))) ?_
                intro e50
                refine csO q20 (fun h51 q21 => ?_) (fun h51 q22 => ?_)
                · clear q20
                  refine barN [2] [.bool (decide ((IntKind.i64.wrap (z20 + z26)) = (8 : Int)))] (ce rfl (rfl)) ?_
                  intro e52
                  obtain rfl := Option.some.inj q21
                  exact k J28 w36 (hJ15.trans (hJ23.trans hJ29)) (hs37.drop 0)
                · clear q20
                  refine barN [2] [.bool false] (ce rfl (rfl)) ?_
                  intro e53
                  obtain rfl := Option.some.inj q22
                  exact k J28 w36 (hJ15.trans (hJ23.trans hJ29)) (hs37.drop 0)
            · clear q16
              refine nrmO [5, 7, 53, 54] [.bool z12.2.2, .int .i64 ((IntKind.i64.wrap (z20 + z26))), .bool false, undef] (ce rfl (ce rfl (ce rfl (ce rfl (rfl))))) ?_
              intro e54
              refine csO q18 (fun h55 q23 => ?_) (fun h55 q24 => ?_)
              · clear q18
                refine nrmP [7, 57, 60] [.int .i64 ((IntKind.i64.wrap (z20 + z26))), .bool false, .bool true] (ce rfl (ce rfl (ce rfl (rfl)))) ?_
                intro e56
                refine barN [2] [.bool (decide ((IntKind.i64.wrap (z20 + z26)) = (8 : Int)))] (ce rfl (rfl)) ?_
                intro e57
                obtain rfl := Option.some.inj q23
                exact k J28 w36 (hJ15.trans (hJ23.trans hJ29)) (hs37.drop 0)
              · clear q18
                refine nrmO [57, 60, 61] [.bool false, .bool false, undef] (ce rfl (ce rfl (ce rfl (rfl)))) ?_
                intro e58
                refine barN [2] [.bool false] (ce rfl (rfl)) ?_
                intro e59
                obtain rfl := Option.some.inj q24
                exact k J28 w36 (hJ15.trans (hJ23.trans hJ29)) (hs37.drop 0)
      · clear q6
        refine sqs ?_
        refine bar ?_
        obtain rfl := Option.some.inj q8
        exact k I w (Le.refl _) hs
    · clear q3
      refine nrmO [0, 16, 17] [.string (bs x0), .bool true, undef] (ce rfl (ce rfl (ce rfl (rfl)))) ?_
      intro e60
      refine barN [0, 23] [.string (bs x0), .bool true] (ce rfl (ce rfl (rfl))) ?_
      intro e61
      refine bar ?_
      obtain rfl := Option.some.inj q5
      exact k I w (Le.refl _) hs
def p_ref05_amount_s (self : Int → Option ((List UInt8))) (x0 : Int) : Option ((List UInt8)) :=
  (if ∀ n ∈ ([(IntKind.u8.wrap (IntKind.u64.wrap ((48 : Int) + (x0.tmod (10 : Int)))))] : List Int), 0 ≤ n ∧ n < 256 then (if x0 < (10 : Int) then (some ([byteI (IntKind.u8.wrap (IntKind.u64.wrap ((48 : Int) + (x0.tmod (10 : Int)))))] : List UInt8)) else ((self (IntKind.u64.wrap (x0.tdiv (10 : Int)))).bind fun z7 => (if z7.length + ([byteI (IntKind.u8.wrap (IntKind.u64.wrap ((48 : Int) + (x0.tmod (10 : Int)))))] : List UInt8).length ≤ 9223372036854775807 then (some (z7 ++ ([byteI (IntKind.u8.wrap (IntKind.u64.wrap ((48 : Int) + (x0.tmod (10 : Int)))))] : List UInt8))) else none))) else none)
def p_ref05_amount_n (n : Nat) : Int → Option ((List UInt8)) :=
  Nat.rec (motive := fun _ => Int → Option ((List UInt8))) (fun _ => none) (fun _ ih => p_ref05_amount_s ih) n
def p_ref05_amount : Int → Option ((List UInt8)) := p_ref05_amount_n fuel
def C_ref05_amount (c : Cx) (q : Int → Option ((List UInt8))) : Prop := ∀ {I : Im} {L : List Ent} {w : World} {K : Value → World → Prop} (x0 : Int) (r : (List UInt8)) (hf : q x0 = some r) (hg : Glo I) (hX : ∀ b, ¬ c.X b) (hs : St c I L w)  
    (k : ∀  (J : Im) (w' : World), Le I J → St c J L w' → K (.string (bs r)) w'), callW Tryd.prog 153 [.int .u64 x0] K w
set_option maxRecDepth 10000 in
set_option maxHeartbeats 4000000 in
theorem w_ref05_amount_s {c : Cx} {self : Int → Option ((List UInt8))} (hself : C_ref05_amount c self) : C_ref05_amount c (p_ref05_amount_s self) := by
  intro I L w K x0 r hf hg hX hs   k
  unfold p_ref05_amount_s at hf
  refine fn_of good Tryd.func153 rfl rfl rfl ?_
  refine sqs ?_
  refine bar ?_
  refine sqs ?_
  refine req (by decide) ?_
  refine new hs ?_
  intro b1 w2 hs3
  have hs3 : St c I (.blk b1 (.cells ⟨[.int .u8 ((IntKind.u8.wrap (IntKind.u64.wrap ((48 : Int) + (x0.tmod (10 : Int))))))]⟩ 5) :: L) w2 := hs3
  refine nrmO [0, 8] [.int .u64 x0, .slice (some ⟨b1, 0, none⟩) 1 1] (ce rfl (ce rfl (rfl))) ?_
  intro e4
  obtain ⟨h15, q1⟩ := okO hf
  clear hf
  refine cvsB good rfl rfl rfl (hs3.own _ (List.mem_of_getElem? (i := 0) rfl)) (ns := [(IntKind.u8.wrap (IntKind.u64.wrap ((48 : Int) + (x0.tmod (10 : Int)))))]) rfl rfl h15 ?_
  refine bar ?_
  refine sqs ?_
  refine sqs ?_
  refine barN [0, 3, 11] [.int .u64 x0, .string (bs ([byteI (IntKind.u8.wrap (IntKind.u64.wrap ((48 : Int) + (x0.tmod (10 : Int)))))] : List UInt8)), .bool (decide (x0 < (10 : Int)))] (ce rfl (ce rfl (ce rfl (rfl)))) ?_
  intro e5
  refine cdO q1 (fun h6 q2 => ?_) (fun h6 q3 => ?_)
  · clear q1
    refine sqs ?_
    refine bar ?_
    obtain rfl := Option.some.inj q2
    exact k I w2 (Le.refl _) (hs3.drop 0)
  · clear q1
    refine bar ?_
    refine sqs ?_
    refine req (by decide) ?_
    obtain ⟨z7, h8, q4⟩ := bindO q3
    clear q3
    refine hself (IntKind.u64.wrap (x0.tdiv (10 : Int))) z7 h8 hg hX hs3 ?_
    intro J9 w11 hJ10 hs12
    refine reqO q4 (fun h13 q5 => ?_)
    clear q4
    refine barN [2] [.string (bs (z7 ++ ([byteI (IntKind.u8.wrap (IntKind.u64.wrap ((48 : Int) + (x0.tmod (10 : Int)))))] : List UInt8)))] (ce rfl (rfl)) ?_
    intro e14
    obtain rfl := Option.some.inj q5
    exact k J9 w11 hJ10 (hs12.drop 0)
theorem w_ref05_amount {c : Cx} : C_ref05_amount c p_ref05_amount := by
  have key : ∀ n, C_ref05_amount c (p_ref05_amount_n n) := by
    intro n
    induction n with
    | zero => intro I L w K x0 r hf; cases hf
    | succ n ih => exact w_ref05_amount_s ih
  exact @key fuel
def p_ref05_Show (x0 : Int) : Option ((List UInt8)) :=
  (if x0 < (0 : Int) then ((p_ref05_amount (IntKind.u64.wrap ((IntKind.u64.wrap (IntKind.i64.wrap (0 - (IntKind.i64.wrap (x0 + (1 : Int)))))) + (1 : Int)))).bind fun z2 => (if ([45] : List UInt8).length + z2.length ≤ 9223372036854775807 then (some (([45] : List UInt8) ++ z2)) else none)) else ((p_ref05_amount (IntKind.u64.wrap x0)).bind fun z10 => (some z10)))
set_option maxRecDepth 10000 in
set_option maxHeartbeats 4000000 in
theorem w_ref05_Show {c : Cx} {I : Im} {L : List Ent} {w : World} {K : Value → World → Prop} (x0 : Int) (r : (List UInt8)) (hf : p_ref05_Show x0 = some r) (hg : Glo I) (hX : ∀ b, ¬ c.X b) (hs : St c I L w)  
    (k : ∀  (J : Im) (w' : World), Le I J → St c J L w' → K (.string (bs r)) w') :
    callW Tryd.prog 109 [.int .i64 x0] K w := by
  unfold p_ref05_Show at hf
  refine fn_of good Tryd.func109 rfl rfl rfl ?_
  refine sqs ?_
  refine bar ?_
  refine sqs ?_
  refine sqs ?_
  refine bar ?_
  refine cdO hf (fun h1 q1 => ?_) (fun h1 q2 => ?_)
  · clear hf
    refine sqs ?_
    obtain ⟨z2, h3, q3⟩ := bindO q1
    clear q1
    refine w_ref05_amount (IntKind.u64.wrap ((IntKind.u64.wrap (IntKind.i64.wrap (0 - (IntKind.i64.wrap (x0 + (1 : Int)))))) + (1 : Int))) z2 h3 hg hX hs ?_
    intro J4 w6 hJ5 hs7
    refine nrmO [10] [.string (bs z2)] (ce rfl (rfl)) ?_
    intro e8
    refine reqO q3 (fun h9 q4 => ?_)
    clear q3
    refine bar ?_
    obtain rfl := Option.some.inj q4
    exact k J4 w6 hJ5 hs7
  · clear hf
    refine bar ?_
    refine sqs ?_
    obtain ⟨z10, h11, q5⟩ := bindO q2
    clear q2
    refine w_ref05_amount (IntKind.u64.wrap x0) z10 h11 hg hX hs ?_
    intro J12 w14 hJ13 hs15
    refine nrmO [14] [.string (bs z10)] (ce rfl (rfl)) ?_
    intro e16
    refine bar ?_
    obtain rfl := Option.some.inj q5
    exact k J12 w14 hJ13 hs15
def p_ref27_Shown_b1 (x0 : (List UInt8)) (x2 : Int) (v36 : Int) : Option ((Int) ⊕ (Int)) :=
  (if v36 ≤ x2 then (if (5 : Int) < (x0.length : Int) then (Option.map Sum.inr (some (-1 : Int))) else ((p_ref05_Show v36).bind fun z45 => (if z45 = x0 then (Option.map Sum.inr (some v36)) else (some (.inl ((IntKind.i64.wrap (v36 + (1 : Int))))))))) else (Option.map Sum.inr (some (-1 : Int))))
def p_ref27_Shown (x0 : (List UInt8)) (x1 : Int) (x2 : Int) : Option (Int) :=
  (loopO (fun (s : Int) => p_ref27_Shown_b1 x0 x2 s) (x1))
set_option maxRecDepth 10000 in
set_option maxHeartbeats 4000000 in
theorem w_ref27_Shown {c : Cx} {I : Im} {L : List Ent} {w : World} {K : Value → World → Prop} (x0 : (List UInt8)) (x1 : Int) (x2 : Int) (r : Int) (hf : p_ref27_Shown x0 x1 x2 = some r) (hg : Glo I) (hX : ∀ b, ¬ c.X b) (hs : St c I L w)  
    (k : ∀  (J : Im) (w' : World), Le I J → St c J L w' → K (.int .i64 r) w') :
    callW Tryd.prog 74 [.string (bs x0), .int .i64 x1, .int .i64 x2] K w := by
  unfold p_ref27_Shown at hf
  refine fn_of good Tryd.func74 rfl rfl rfl ?_
  refine sqs ?_
  refine bar ?_
  refine sqs ?_
  refine sqs ?_
  refine bar ?_
  refine blk ?_
  refine loopP hf [0, 2, 7] (fun (s : Int) vs w' => ∃ (J : Im), Le I J ∧ vs = [.string (bs x0), .int .i64 x2, .int .i64 s] ∧ St c J (L) w') ⟨I, Le.refl _, ce rfl (ce rfl (ce rfl (rfl))), hs⟩ ?_
  clear hf
  rintro Z38 v36 t37 vs e58 w34 hI q1 hZ39
  try dsimp only at hI
  obtain ⟨J32, hJ33, rfl, hs35⟩ := hI
  replace q1 : p_ref27_Shown_b1 x0 x2 v36 = some t37 := q1
  unfold p_ref27_Shown_b1 at q1
  refine sqs ?_
  refine sqs ?_
  refine bar ?_
  refine cdO q1 (fun h40 q2 => ?_) (fun h40 q3 => ?_)
  · clear q1
    refine bar ?_
    refine sqs ?_
    refine blk ?_
    refine sqs ?_
    refine sqs ?_
    refine barN [0, 2, 7, 16] [.string (bs x0), .int .i64 x2, .int .i64 v36, .bool (decide ((5 : Int) < (x0.length : Int)))] (ce rfl (ce rfl (ce rfl (ce rfl (rfl))))) ?_
    intro e41
    refine cdO q2 (fun h42 q4 => ?_) (fun h42 q5 => ?_)
    · clear q2
      refine sqs ?_
      refine bar ?_
      obtain ⟨r43, hm44, rfl⟩ := mapO q4
      clear q4
      obtain rfl : r43 = _ := hZ39
      obtain rfl := Option.some.inj hm44
      exact k J32 w34 hJ33 hs35
    · clear q2
      refine bar ?_
      refine sqs ?_
      obtain ⟨z45, h46, q6⟩ := bindO q5
      clear q5
      refine w_ref05_Show v36 z45 h46 (hg.le hJ33) hX hs35 ?_
      intro J47 w49 hJ48 hs50
      refine barN [0, 2, 7, 20] [.string (bs x0), .int .i64 x2, .int .i64 v36, .bool (decide (z45 = x0))] (ce rfl (ce rfl (ce rfl (ce rfl (rfl))))) ?_
      intro e51
      refine cdO q6 (fun h52 q7 => ?_) (fun h52 q8 => ?_)
      · clear q6
        refine sqs ?_
        refine bar ?_
        obtain ⟨r53, hm54, rfl⟩ := mapO q7
        clear q7
        obtain rfl : r53 = _ := hZ39
        obtain rfl := Option.some.inj hm54
        exact k J47 w49 (hJ33.trans hJ48) hs50
      · clear q6
        refine bar ?_
        obtain rfl := Option.some.inj q8
        exact hZ39 _ _ ⟨J47, (hJ33.trans hJ48), ce rfl (ce rfl (ce rfl (rfl))), hs50⟩
  · clear q1
    obtain ⟨r55, hm56, rfl⟩ := mapO q3
    clear q3
    obtain rfl : r55 = _ := hZ39
    refine bar ?_
    refine sqs ?_
    refine barN [6] [.int .i64 ((-1 : Int))] (ce rfl (rfl)) ?_
    intro e57
    obtain rfl := Option.some.inj hm56
    exact k J32 w34 hJ33 hs35
def p_ref27_cut_b1 (x0 : (List UInt8)) (x1 : Int) (v65 : (List (List UInt8))) (v70 : Int) (v71 : Int) : Option (((List (List UInt8)) × Int × Int) ⊕ ((List (List UInt8)))) :=
  (if v71 < (x0.length : Int) then (if 0 ≤ v71 ∧ v71 < (x0.length : Int) then (if ((x0.getD v71.toNat 0).toNat : Int) = x1 then (if 0 ≤ v70 ∧ v70 ≤ v71 ∧ v71 ≤ (x0.length : Int) then (if v65.length + ([(subS x0 v70 v71)] : List (List UInt8)).length ≤ 100000000000 then (some (.inl ((v65 ++ [(subS x0 v70 v71)]), (IntKind.i64.wrap (v71 + (1 : Int))), (IntKind.i64.wrap (v71 + (1 : Int)))))) else none) else none) else (some (.inl (v65, v70, (IntKind.i64.wrap (v71 + (1 : Int))))))) else none) else (Option.map Sum.inr (if 0 ≤ v70 ∧ v70 ≤ (x0.length : Int) ∧ (x0.length : Int) ≤ (x0.length : Int) then (if v65.length + ([(subS x0 v70 (x0.length : Int))] : List (List UInt8)).length ≤ 100000000000 then (some (v65 ++ [(subS x0 v70 (x0.length : Int))])) else none) else none)))
def p_ref27_cut (x0 : (List UInt8)) (x1 : Int) : Option ((List (List UInt8))) :=
  (loopO (fun (s : (List (List UInt8)) × Int × Int) => p_ref27_cut_b1 x0 x1 s.1 s.2.1 s.2.2) (([] : (List (List UInt8))), (0 : Int), (0 : Int)))
set_option maxRecDepth 10000 in
set_option maxHeartbeats 4000000 in
theorem w_ref27_cut {c : Cx} {I : Im} {L : List Ent} {w : World} {K : Value → World → Prop} (x0 : (List UInt8)) (x1 : Int) (r : (List (List UInt8))) (hf : p_ref27_cut x0 x1 = some r) (hg : Glo I) (hX : ∀ b, ¬ c.X b) (hs : St c I L w)  
    (k : ∀ (ra0 : Option Addr) (rc0 : Nat) (J : Im) (w' : World), Le I J → St c J L w' → RdL J 1 RdS (.slice ra0 r.length rc0) r → K (.slice ra0 r.length rc0) w') :
    callW Tryd.prog 132 [.string (bs x0), .int .u8 x1] K w := by
  unfold p_ref27_cut at hf
  refine fn_of good Tryd.func132 rfl rfl rfl ?_
  refine sqs ?_
  refine bar ?_
  refine sqs ?_
  refine bar ?_
  refine sqs ?_
  refine bar ?_
  refine sqs ?_
  refine sqs ?_
  refine barN [0, 1, 5, 6, 7] [.string (bs x0), .int .u8 x1, .slice none (0) 0, .int .i64 ((0 : Int)), .int .i64 ((0 : Int))] (ce rfl (ce rfl (ce rfl (ce rfl (ce rfl (rfl)))))) ?_
  intro e1
  refine blk ?_
  have hs60 := hs.nil 9 1
  refine loopP hf [0, 1, 5, 6, 7] (fun (s : (List (List UInt8)) × Int × Int) vs w' => ∃ (J : Im) (a66 : Option Addr) (c67 : Nat) (cs68 : List Value), Le I J ∧ vs = [.string (bs x0), .int .u8 x1, .slice a66 (s.1.length) c67, .int .i64 s.2.1, .int .i64 s.2.2] ∧ St c J (.row (.slice a66 (s.1.length) c67) 9 1 (s.1.length) cs68 :: L) w' ∧ RdC 1 RdS cs68 s.1) ⟨I, none, 0, [], Le.refl _, ce rfl (ce rfl (ce rfl (ce rfl (ce rfl (rfl))))), hs60, RdC.nil⟩ ?_
  clear hf
  rintro Z73 ⟨v65, v70, v71⟩ t72 vs e113 w63 hI q1 hZ74
  try dsimp only at hI
  obtain ⟨J61, a66, c67, cs68, hJ62, rfl, hs64, h69⟩ := hI
  replace q1 : p_ref27_cut_b1 x0 x1 v65 v70 v71 = some t72 := q1
  unfold p_ref27_cut_b1 at q1
  refine sqs ?_
  refine sqs ?_
  refine barN [0, 1, 5, 6, 7, 11] [.string (bs x0), .int .u8 x1, .slice a66 (v65.length) c67, .int .i64 v70, .int .i64 v71, .bool (decide (v71 < (x0.length : Int)))] (ce rfl (ce rfl (ce rfl (ce rfl (ce rfl (ce rfl (rfl))))))) ?_
  intro e75
  refine cdO q1 (fun h76 q2 => ?_) (fun h76 q3 => ?_)
  · clear q1
    refine bar ?_
    refine sqs ?_
    refine blk ?_
    refine sqs ?_
    refine reqO q2 (fun h77 q4 => ?_)
    clear q2
    refine barN [0, 1, 5, 6, 7, 18] [.string (bs x0), .int .u8 x1, .slice a66 (v65.length) c67, .int .i64 v70, .int .i64 v71, .bool (decide (((x0.getD v71.toNat 0).toNat : Int) = x1))] (ce rfl (ce rfl (ce rfl (ce rfl (ce rfl (ce rfl (rfl))))))) ?_
    intro e78
    refine cdO q4 (fun h79 q5 => ?_) (fun h79 q6 => ?_)
    · clear q4
      refine sqs ?_
      refine reqO q5 (fun h80 q7 => ?_)
      clear q5
      refine new hs64 ?_
      intro b81 w82 hs83
      have hs83 : St c J61 (.blk b81 (.cells ⟨[.string (bs (subS x0 v70 v71))]⟩ 9) :: .row (.slice a66 (v65.length) c67) 9 1 (v65.length) cs68 :: L) w82 := hs83
      refine nrmO [0, 1, 7, 19, 24] [.string (bs x0), .int .u8 x1, .int .i64 v71, .slice a66 (v65.length) c67, .slice (some ⟨b81, 0, none⟩) 1 1] (ce rfl (ce rfl (ce rfl (ce rfl (ce rfl (rfl)))))) ?_
      intro e84
      have h85 : RdC 1 RdS [.string (bs (subS x0 v70 v71))] [(subS x0 v70 v71)] := (RdC.snoc (sz := 1) (R := RdS) (RdC.nil (sz := 1) (R := RdS)) rfl rfl)
      obtain ⟨h90, q8⟩ := okO q7
      clear q7
      refine appO good 1 0 hs83 rfl rfl h69 rfl h85 rfl rfl rfl rfl rfl rfl rfl h90 ?_
      intro a86 c87 cs88 w91 hs92 h89
      have hs92 : St c J61 (.row (.slice a86 ((v65 ++ [(subS x0 v70 v71)]).length) c87) 9 1 ((v65 ++ [(subS x0 v70 v71)]).length) cs88 :: L) w91 := hs92.drop 0
      refine bar ?_
      refine barN [0, 1, 5, 6, 7] [.string (bs x0), .int .u8 x1, .slice a86 ((v65 ++ [(subS x0 v70 v71)]).length) c87, .int .i64 ((IntKind.i64.wrap (v71 + (1 : Int)))), .int .i64 v71] (ce rfl (ce rfl (ce rfl (ce rfl (ce rfl (rfl)))))) ?_
      intro e93
      obtain rfl := Option.some.inj q8
      exact hZ74 _ _ ⟨J61, a86, c87, cs88, hJ62, ce rfl (ce rfl (ce rfl (ce rfl (ce rfl (rfl))))), hs92, h89⟩
    · clear q4
      refine bar ?_
      obtain rfl := Option.some.inj q6
      exact hZ74 _ _ ⟨J61, a66, c67, cs68, hJ62, ce rfl (ce rfl (ce rfl (ce rfl (ce rfl (rfl))))), hs64, h69⟩
  · clear q1
    obtain ⟨r94, hm95, rfl⟩ := mapO q3
    clear q3
    obtain rfl : r94 = _ := hZ74
    refine bar ?_
    refine sqs ?_
    refine reqO hm95 (fun h96 q9 => ?_)
    clear hm95
    refine new hs64 ?_
    intro b97 w98 hs99
    have hs99 : St c J61 (.blk b97 (.cells ⟨[.string (bs (subS x0 v70 (x0.length : Int)))]⟩ 9) :: .row (.slice a66 (v65.length) c67) 9 1 (v65.length) cs68 :: L) w98 := hs99
    have h100 : RdC 1 RdS [.string (bs (subS x0 v70 (x0.length : Int)))] [(subS x0 v70 (x0.length : Int))] := (RdC.snoc (sz := 1) (R := RdS) (RdC.nil (sz := 1) (R := RdS)) rfl rfl)
    obtain ⟨h105, q10⟩ := okO q9
    clear q9
    refine appO good 1 0 hs99 rfl rfl h69 rfl h100 rfl rfl rfl rfl rfl rfl rfl h105 ?_
    intro a101 c102 cs103 w106 hs107 h104
    have hs107 : St c J61 (.row (.slice a101 ((v65 ++ [(subS x0 v70 (x0.length : Int))]).length) c102) 9 1 ((v65 ++ [(subS x0 v70 (x0.length : Int))]).length) cs103 :: L) w106 := hs107.drop 0
    refine nrmO [33] [.slice a101 ((v65 ++ [(subS x0 v70 (x0.length : Int))]).length) c102] (ce rfl (rfl)) ?_
    intro e108
    refine bar ?_
    obtain ⟨J109, hJ110, hs111, h112⟩ := hs107.fixRow (i := 0) rfl hX h104 rfl
    obtain rfl := Option.some.inj q10
    exact k _ _ J109 w106 (hJ62.trans hJ110) hs111 h112
def p_ref27_class_j2 (x0 : Int) : Option (Int) :=
  (if (97 : Int) ≤ x0 then (if x0 ≤ (122 : Int) then (some (3 : Int)) else (if (65 : Int) ≤ x0 then (if x0 ≤ (90 : Int) then (some (3 : Int)) else (if x0 = (45 : Int) then (some (4 : Int)) else (some (0 : Int)))) else (if x0 = (45 : Int) then (some (4 : Int)) else (some (0 : Int))))) else (if (65 : Int) ≤ x0 then (if x0 ≤ (90 : Int) then (some (3 : Int)) else (if x0 = (45 : Int) then (some (4 : Int)) else (some (0 : Int)))) else (if x0 = (45 : Int) then (some (4 : Int)) else (some (0 : Int)))))
def p_ref27_class_j1 (x0 : Int) : Option (Int) :=
  (if (97 : Int) ≤ x0 then (if x0 ≤ (102 : Int) then (some (2 : Int)) else (if (65 : Int) ≤ x0 then (if x0 ≤ (70 : Int) then (some (2 : Int)) else (p_ref27_class_j2 x0)) else (p_ref27_class_j2 x0))) else (if (65 : Int) ≤ x0 then (if x0 ≤ (70 : Int) then (some (2 : Int)) else (p_ref27_class_j2 x0)) else (p_ref27_class_j2 x0)))
def p_ref27_class (x0 : Int) : Option (Int) :=
  (if (48 : Int) ≤ x0 then (if x0 ≤ (57 : Int) then (some (1 : Int)) else (p_ref27_class_j1 x0)) else (p_ref27_class_j1 x0))
set_option maxRecDepth 10000 in
set_option maxHeartbeats 4000000 in
theorem w_ref27_class {c : Cx} {I : Im} {L : List Ent} {w : World} {K : Value → World → Prop} (x0 : Int) (r : Int) (hf : p_ref27_class x0 = some r) (hg : Glo I) (hX : ∀ b, ¬ c.X b) (hs : St c I L w)  
    (k : ∀  (J : Im) (w' : World), Le I J → St c J L w' → K (.int .i64 r) w') :
    callW Tryd.prog 134 [.int .u8 x0] K w := by
  unfold p_ref27_class at hf
  refine fn_of good Tryd.func134 rfl rfl rfl ?_
  refine sqs ?_
  refine bar ?_
  refine sqs ?_
  refine cutc [0] (fun vs w' => ∃ (J : Im), Le I J ∧ vs = [.int .u8 x0] ∧ St c J (L) w' ∧ p_ref27_class_j1 x0 = some r) ?_ ?_
  · clear hf
    rintro vs e58 w3 ⟨J1, hJ2, rfl, hs4, q1⟩
    unfold p_ref27_class_j1 at q1
    refine bar ?_
    refine sqs ?_
    refine cutc [0] (fun vs w' => ∃ (J : Im), Le J1 J ∧ vs = [.int .u8 x0] ∧ St c J (L) w' ∧ p_ref27_class_j2 x0 = some r) ?_ ?_
    · clear q1
      rintro vs e50 w7 ⟨J5, hJ6, rfl, hs8, q2⟩
      unfold p_ref27_class_j2 at q2
      refine bar ?_
      refine sqs ?_
      refine sqs ?_
      refine cdO q2 (fun h9 q3 => ?_) (fun h9 q4 => ?_)
      · clear q2
        refine nrmP [0, 25] [.int .u8 x0, .bool true] (ce rfl (ce rfl (rfl))) ?_
        intro e10
        refine cdO q3 (fun h11 q5 => ?_) (fun h11 q6 => ?_)
        · clear q3
          refine nrmO [0, 29, 30] [.int .u8 x0, .bool true, undef] (ce rfl (ce rfl (ce rfl (rfl)))) ?_
          intro e12
          refine barN [0, 36] [.int .u8 x0, .bool true] (ce rfl (ce rfl (rfl))) ?_
          intro e13
          refine bar ?_
          obtain rfl := Option.some.inj q5
          exact k J5 w7 (hJ2.trans hJ6) hs8
        · clear q3
          refine nrmP [0, 29] [.int .u8 x0, .bool false] (ce rfl (ce rfl (rfl))) ?_
          intro e14
          refine cdO q6 (fun h15 q7 => ?_) (fun h15 q8 => ?_)
          · clear q6
            refine barN [0, 36] [.int .u8 x0, .bool (decide (x0 ≤ (90 : Int)))] (ce rfl (ce rfl (rfl))) ?_
            intro e16
            refine cdO q7 (fun h17 q9 => ?_) (fun h17 q10 => ?_)
            · clear q7
              refine sqs ?_
              refine bar ?_
              obtain rfl := Option.some.inj q9
              exact k J5 w7 (hJ2.trans hJ6) hs8
            · clear q7
              refine bar ?_
              refine sqs ?_
              refine sqs ?_
              refine bar ?_
              refine cdO q10 (fun h18 q11 => ?_) (fun h18 q12 => ?_)
              · clear q10
                refine sqs ?_
                refine bar ?_
                obtain rfl := Option.some.inj q11
                exact k J5 w7 (hJ2.trans hJ6) hs8
              · clear q10
                refine bar ?_
                refine sqs ?_
                refine bar ?_
                obtain rfl := Option.some.inj q12
                exact k J5 w7 (hJ2.trans hJ6) hs8
          · clear q6
            refine barN [0, 36] [.int .u8 x0, .bool false] (ce rfl (ce rfl (rfl))) ?_
            intro e19
            refine bar ?_
            refine sqs ?_
            refine sqs ?_
            refine bar ?_
            refine cdO q8 (fun h20 q13 => ?_) (fun h20 q14 => ?_)
            · clear q8
              refine sqs ?_
              refine bar ?_
              obtain rfl := Option.some.inj q13
              exact k J5 w7 (hJ2.trans hJ6) hs8
            · clear q8
              refine bar ?_
              refine sqs ?_
              refine bar ?_
              obtain rfl := Option.some.inj q14
              exact k J5 w7 (hJ2.trans hJ6) hs8
      · clear q2
        refine nrmO [0, 25, 26] [.int .u8 x0, .bool false, undef] (ce rfl (ce rfl (ce rfl (rfl)))) ?_
        intro e21
        refine cdO q4 (fun h22 q15 => ?_) (fun h22 q16 => ?_)
        · clear q4
          refine nrmP [0, 29, 32] [.int .u8 x0, .bool false, .bool true] (ce rfl (ce rfl (ce rfl (rfl)))) ?_
          intro e23
          refine bar ?_
          refine cdO q15 (fun h24 q17 => ?_) (fun h24 q18 => ?_)
          · clear q15
            refine sqs ?_
            refine barN [2] [.int .i64 ((3 : Int))] (ce rfl (rfl)) ?_
            intro e25
            obtain rfl := Option.some.inj q17
            exact k J5 w7 (hJ2.trans hJ6) hs8
          · clear q15
            refine bar ?_
            refine sqs ?_
            refine sqs ?_
            refine barN [38] [.bool (decide (x0 = (45 : Int)))] (ce rfl (rfl)) ?_
            intro e26
            refine cdO q18 (fun h27 q19 => ?_) (fun h27 q20 => ?_)
            · clear q18
              refine sqs ?_
              refine bar ?_
              obtain rfl := Option.some.inj q19
              exact k J5 w7 (hJ2.trans hJ6) hs8
            · clear q18
              refine bar ?_
              refine sqs ?_
              refine bar ?_
              obtain rfl := Option.some.inj q20
              exact k J5 w7 (hJ2.trans hJ6) hs8
        · clear q4
          refine nrmO [0, 29, 32, 33] [.int .u8 x0, .bool false, .bool false, undef] (ce rfl (ce rfl (ce rfl (ce rfl (rfl))))) ?_
          intro e28
          refine bar ?_
          refine bar ?_
          refine sqs ?_
          refine sqs ?_
          refine barN [38] [.bool (decide (x0 = (45 : Int)))] (ce rfl (rfl)) ?_
          intro e29
          refine cdO q16 (fun h30 q21 => ?_) (fun h30 q22 => ?_)
          · clear q16
            refine sqs ?_
            refine bar ?_
            obtain rfl := Option.some.inj q21
            exact k J5 w7 (hJ2.trans hJ6) hs8
          · clear q16
            refine bar ?_
            refine sqs ?_
            refine bar ?_
            obtain rfl := Option.some.inj q22
            exact k J5 w7 (hJ2.trans hJ6) hs8
    · intro Q31 hN32 hX33
      refine sqs ?_
      refine cdO q1 (fun h34 q23 => ?_) (fun h34 q24 => ?_)
      · clear q1
        refine nrmP [0, 11] [.int .u8 x0, .bool true] (ce rfl (ce rfl (rfl))) ?_
        intro e35
        refine cdO q23 (fun h36 q25 => ?_) (fun h36 q26 => ?_)
        · clear q23
          refine nrmO [0, 15, 16] [.int .u8 x0, .bool true, undef] (ce rfl (ce rfl (ce rfl (rfl)))) ?_
          intro e37
          refine barN [0, 22] [.int .u8 x0, .bool true] (ce rfl (ce rfl (rfl))) ?_
          intro e38
          refine bar ?_
          refine hX33 _ _ _ (fun h => by cases h) ?_
          obtain rfl := Option.some.inj q25
          exact k J1 w3 hJ2 hs4
        · clear q23
          refine nrmP [0, 15] [.int .u8 x0, .bool false] (ce rfl (ce rfl (rfl))) ?_
          intro e39
          refine cdO q26 (fun h40 q27 => ?_) (fun h40 q28 => ?_)
          · clear q26
            refine barN [0, 22] [.int .u8 x0, .bool (decide (x0 ≤ (70 : Int)))] (ce rfl (ce rfl (rfl))) ?_
            intro e41
            refine cdO q27 (fun h42 q29 => ?_) (fun h42 q30 => ?_)
            · clear q27
              refine sqs ?_
              refine bar ?_
              refine hX33 _ _ _ (fun h => by cases h) ?_
              obtain rfl := Option.some.inj q29
              exact k J1 w3 hJ2 hs4
            · clear q27
              exact hN32 _ _ ⟨J1, (Le.refl _), ce rfl (rfl), hs4, q30⟩
          · clear q26
            refine barN [0, 22] [.int .u8 x0, .bool false] (ce rfl (ce rfl (rfl))) ?_
            intro e43
            exact hN32 _ _ ⟨J1, (Le.refl _), ce rfl (rfl), hs4, q28⟩
      · clear q1
        refine nrmO [0, 11, 12] [.int .u8 x0, .bool false, undef] (ce rfl (ce rfl (ce rfl (rfl)))) ?_
        intro e44
        refine cdO q24 (fun h45 q31 => ?_) (fun h45 q32 => ?_)
        · clear q24
          refine nrmP [0, 15, 18] [.int .u8 x0, .bool false, .bool true] (ce rfl (ce rfl (ce rfl (rfl)))) ?_
          intro e46
          refine bar ?_
          refine cdO q31 (fun h47 q33 => ?_) (fun h47 q34 => ?_)
          · clear q31
            refine sqs ?_
            refine barN [2] [.int .i64 ((2 : Int))] (ce rfl (rfl)) ?_
            intro e48
            refine hX33 _ _ _ (fun h => by cases h) ?_
            obtain rfl := Option.some.inj q33
            exact k J1 w3 hJ2 hs4
          · clear q31
            exact hN32 _ _ ⟨J1, (Le.refl _), ce rfl (rfl), hs4, q34⟩
        · clear q24
          refine nrmO [0, 15, 18, 19] [.int .u8 x0, .bool false, .bool false, undef] (ce rfl (ce rfl (ce rfl (ce rfl (rfl))))) ?_
          intro e49
          refine bar ?_
          exact hN32 _ _ ⟨J1, (Le.refl _), ce rfl (rfl), hs4, q32⟩
  · intro Q51 hN52 hX53
    refine sqs ?_
    refine cdO hf (fun h54 q35 => ?_) (fun h54 q36 => ?_)
    · clear hf
      refine barN [0, 8] [.int .u8 x0, .bool (decide (x0 ≤ (57 : Int)))] (ce rfl (ce rfl (rfl))) ?_
      intro e55
      refine cdO q35 (fun h56 q37 => ?_) (fun h56 q38 => ?_)
      · clear q35
        refine sqs ?_
        refine bar ?_
        refine hX53 _ _ _ (fun h => by cases h) ?_
        obtain rfl := Option.some.inj q37
        exact k I w (Le.refl _) hs
      · clear q35
        exact hN52 _ _ ⟨I, (Le.refl _), ce rfl (rfl), hs, q38⟩
    · clear hf
      refine barN [0, 8] [.int .u8 x0, .bool false] (ce rfl (ce rfl (rfl))) ?_
      intro e57
      exact hN52 _ _ ⟨I, (Le.refl _), ce rfl (rfl), hs, q36⟩
def p_ref27_most_b1 (x0 : (List UInt8)) (v39 : Int) (v40 : Int) : Option ((Int × Int) ⊕ (Int)) :=
  (if v40 < (x0.length : Int) then (if 0 ≤ v40 ∧ v40 < (x0.length : Int) then ((p_ref27_class ((x0.getD v40.toNat 0).toNat : Int)).bind fun z47 => (if z47 = (0 : Int) then (Option.map Sum.inr (some (9 : Int))) else (some (.inl ((if v39 < z47 then z47 else v39), (IntKind.i64.wrap (v40 + (1 : Int)))))))) else none) else (Option.map Sum.inr (some v39)))
def p_ref27_most (x0 : (List UInt8)) : Option (Int) :=
  (loopO (fun (s : Int × Int) => p_ref27_most_b1 x0 s.1 s.2) ((0 : Int), (0 : Int)))
set_option maxRecDepth 10000 in
set_option maxHeartbeats 4000000 in
theorem w_ref27_most {c : Cx} {I : Im} {L : List Ent} {w : World} {K : Value → World → Prop} (x0 : (List UInt8)) (r : Int) (hf : p_ref27_most x0 = some r) (hg : Glo I) (hX : ∀ b, ¬ c.X b) (hs : St c I L w)  
    (k : ∀  (J : Im) (w' : World), Le I J → St c J L w' → K (.int .i64 r) w') :
    callW Tryd.prog 133 [.string (bs x0)] K w := by
  unfold p_ref27_most at hf
  refine fn_of good Tryd.func133 rfl rfl rfl ?_
  refine sqs ?_
  refine bar ?_
  refine sqs ?_
  refine bar ?_
  refine sqs ?_
  refine sqs ?_
  refine bar ?_
  refine blk ?_
  refine loopP hf [0, 3, 4] (fun (s : Int × Int) vs w' => ∃ (J : Im), Le I J ∧ vs = [.string (bs x0), .int .i64 s.1, .int .i64 s.2] ∧ St c J (L) w') ⟨I, Le.refl _, ce rfl (ce rfl (ce rfl (rfl))), hs⟩ ?_
  clear hf
  rintro Z42 ⟨v39, v40⟩ t41 vs e60 w37 hI q1 hZ43
  try dsimp only at hI
  obtain ⟨J35, hJ36, rfl, hs38⟩ := hI
  replace q1 : p_ref27_most_b1 x0 v39 v40 = some t41 := q1
  unfold p_ref27_most_b1 at q1
  refine sqs ?_
  refine sqs ?_
  refine barN [0, 3, 4, 9] [.string (bs x0), .int .i64 v39, .int .i64 v40, .bool (decide (v40 < (x0.length : Int)))] (ce rfl (ce rfl (ce rfl (ce rfl (rfl))))) ?_
  intro e44
  refine cdO q1 (fun h45 q2 => ?_) (fun h45 q3 => ?_)
  · clear q1
    refine bar ?_
    refine sqs ?_
    refine blk ?_
    refine sqs ?_
    refine reqO q2 (fun h46 q4 => ?_)
    clear q2
    obtain ⟨z47, h48, q5⟩ := bindO q4
    clear q4
    refine w_ref27_class ((x0.getD v40.toNat 0).toNat : Int) z47 h48 (hg.le hJ36) hX hs38 ?_
    intro J49 w51 hJ50 hs52
    refine barN [0, 3, 4, 5] [.string (bs x0), .int .i64 v39, .int .i64 v40, .int .i64 z47] (ce rfl (ce rfl (ce rfl (ce rfl (rfl))))) ?_
    intro e53
    refine sqs ?_
    refine sqs ?_
    refine bar ?_
    refine cdO q5 (fun h54 q6 => ?_) (fun h54 q7 => ?_)
    · clear q5
      refine sqs ?_
      refine bar ?_
      obtain ⟨r55, hm56, rfl⟩ := mapO q6
      clear q6
      obtain rfl : r55 = _ := hZ43
      obtain rfl := Option.some.inj hm56
      exact k J49 w51 (hJ36.trans hJ50) hs52
    · clear q5
      refine bar ?_
      refine barN [0, 3, 4] [.string (bs x0), .int .i64 ((if v39 < z47 then z47 else v39)), .int .i64 v40] (ce rfl (ce rfl (ce rfl (rfl)))) ?_
      intro e57
      obtain rfl := Option.some.inj q7
      exact hZ43 _ _ ⟨J49, (hJ36.trans hJ50), ce rfl (ce rfl (ce rfl (rfl))), hs52⟩
  · clear q1
    obtain ⟨r58, hm59, rfl⟩ := mapO q3
    clear q3
    obtain rfl : r58 = _ := hZ43
    refine bar ?_
    refine sqs ?_
    refine bar ?_
    obtain rfl := Option.some.inj hm59
    exact k J35 w37 hJ36 hs38
def p_ref27_brackets_j2 (v47 : Int) (v181 : Int) (v182 : Int) (v252 : Int) : Option (Bool) :=
  (if v47 = (1 : Int) then (if v182 = v252 then (some (decide (v181 ≤ (7 : Int)))) else (some false)) else (some false))
def p_ref27_brackets_j1 (x0 : (List UInt8)) (v47 : Int) (v181 : Int) (v182 : Int) (v247 : Int) : Option (Bool) :=
  (if 0 ≤ (IntKind.i64.wrap (((subS x0 (1 : Int) (IntKind.i64.wrap ((x0.length : Int) - (1 : Int)))).length : Int) - (2 : Int))) ∧ (IntKind.i64.wrap (((subS x0 (1 : Int) (IntKind.i64.wrap ((x0.length : Int) - (1 : Int)))).length : Int) - (2 : Int))) ≤ ((subS x0 (1 : Int) (IntKind.i64.wrap ((x0.length : Int) - (1 : Int)))).length : Int) ∧ ((subS x0 (1 : Int) (IntKind.i64.wrap ((x0.length : Int) - (1 : Int)))).length : Int) ≤ ((subS x0 (1 : Int) (IntKind.i64.wrap ((x0.length : Int) - (1 : Int)))).length : Int) then (if (subS (subS x0 (1 : Int) (IntKind.i64.wrap ((x0.length : Int) - (1 : Int)))) (IntKind.i64.wrap (((subS x0 (1 : Int) (IntKind.i64.wrap ((x0.length : Int) - (1 : Int)))).length : Int) - (2 : Int))) ((subS x0 (1 : Int) (IntKind.i64.wrap ((x0.length : Int) - (1 : Int)))).length : Int)) = ([58, 58] : List UInt8) then (p_ref27_brackets_j2 v47 v181 v182 (IntKind.i64.wrap (v247 + (1 : Int)))) else (p_ref27_brackets_j2 v47 v181 v182 v247)) else none)
def p_ref27_brackets_b2 (x0 : (List UInt8)) (v47 : Int) (z64 : (List (List UInt8))) (v181 : Int) (v182 : Int) (v183 : Int) : Option ((Int × Int × Int) ⊕ (Bool)) :=
  (if v183 < ((z64.length : Nat) : Int) then ((getI z64 v183).bind fun x189 => (if x189 = ([] : List UInt8) then (some (.inl (v181, (IntKind.i64.wrap (v182 + (1 : Int))), (IntKind.i64.wrap (v183 + (1 : Int)))))) else ((getI z64 v183).bind fun x201 => (if (4 : Int) < (x201.length : Int) then (Option.map Sum.inr (some false)) else ((getI z64 v183).bind fun x217 => ((p_ref27_most x217).bind fun z227 => (if (2 : Int) < z227 then (Option.map Sum.inr (some false)) else (some (.inl ((IntKind.i64.wrap (v181 + (1 : Int))), v182, (IntKind.i64.wrap (v183 + (1 : Int))))))))))))) else (Option.map Sum.inr (if v47 = (0 : Int) then (if v181 = (8 : Int) then (some (decide (v182 = (0 : Int)))) else (some false)) else (if 0 ≤ (0 : Int) ∧ (0 : Int) ≤ (2 : Int) ∧ (2 : Int) ≤ ((subS x0 (1 : Int) (IntKind.i64.wrap ((x0.length : Int) - (1 : Int)))).length : Int) then (if (subS (subS x0 (1 : Int) (IntKind.i64.wrap ((x0.length : Int) - (1 : Int)))) (0 : Int) (2 : Int)) = ([58, 58] : List UInt8) then (p_ref27_brackets_j1 x0 v47 v181 v182 (IntKind.i64.wrap ((1 : Int) + (1 : Int)))) else (p_ref27_brackets_j1 x0 v47 v181 v182 (1 : Int))) else none))))
def p_ref27_brackets_b1 (x0 : (List UInt8)) (v47 : Int) (v48 : Int) : Option ((Int × Int) ⊕ (Bool)) :=
  (if (IntKind.i64.wrap (v48 + (1 : Int))) < ((subS x0 (1 : Int) (IntKind.i64.wrap ((x0.length : Int) - (1 : Int)))).length : Int) then (if 0 ≤ v48 ∧ v48 < ((subS x0 (1 : Int) (IntKind.i64.wrap ((x0.length : Int) - (1 : Int)))).length : Int) then (if (((subS x0 (1 : Int) (IntKind.i64.wrap ((x0.length : Int) - (1 : Int)))).getD v48.toNat 0).toNat : Int) = (58 : Int) then (if 0 ≤ (IntKind.i64.wrap (v48 + (1 : Int))) ∧ (IntKind.i64.wrap (v48 + (1 : Int))) < ((subS x0 (1 : Int) (IntKind.i64.wrap ((x0.length : Int) - (1 : Int)))).length : Int) then (if (((subS x0 (1 : Int) (IntKind.i64.wrap ((x0.length : Int) - (1 : Int)))).getD (IntKind.i64.wrap (v48 + (1 : Int))).toNat 0).toNat : Int) = (58 : Int) then (some (.inl ((IntKind.i64.wrap (v47 + (1 : Int))), (IntKind.i64.wrap (v48 + (1 : Int)))))) else (some (.inl (v47, (IntKind.i64.wrap (v48 + (1 : Int))))))) else none) else (some (.inl (v47, (IntKind.i64.wrap (v48 + (1 : Int))))))) else none) else (Option.map Sum.inr ((p_ref27_cut (subS x0 (1 : Int) (IntKind.i64.wrap ((x0.length : Int) - (1 : Int)))) (58 : Int)).bind fun z64 => (loopO (fun (s : Int × Int × Int) => p_ref27_brackets_b2 x0 v47 z64 s.1 s.2.1 s.2.2) ((0 : Int), (0 : Int), (0 : Int))))))
def p_ref27_brackets (x0 : (List UInt8)) : Option (Bool) :=
  (if (x0.length : Int) < (4 : Int) then (some false) else (if 0 ≤ (0 : Int) ∧ (0 : Int) < (x0.length : Int) then (if ((x0.getD (0 : Int).toNat 0).toNat : Int) = (91 : Int) then (if 0 ≤ (IntKind.i64.wrap ((x0.length : Int) - (1 : Int))) ∧ (IntKind.i64.wrap ((x0.length : Int) - (1 : Int))) < (x0.length : Int) then (if ((x0.getD (IntKind.i64.wrap ((x0.length : Int) - (1 : Int))).toNat 0).toNat : Int) = (93 : Int) then (if 0 ≤ (1 : Int) ∧ (1 : Int) ≤ (IntKind.i64.wrap ((x0.length : Int) - (1 : Int))) ∧ (IntKind.i64.wrap ((x0.length : Int) - (1 : Int))) ≤ (x0.length : Int) then (loopO (fun (s : Int × Int) => p_ref27_brackets_b1 x0 s.1 s.2) ((0 : Int), (0 : Int))) else none) else (some false)) else none) else (some false)) else none))
set_option maxRecDepth 10000 in
set_option maxHeartbeats 4000000 in
theorem w_ref27_brackets {c : Cx} {I : Im} {L : List Ent} {w : World} {K : Value → World → Prop} (x0 : (List UInt8)) (r : Bool) (hf : p_ref27_brackets x0 = some r) (hg : Glo I) (hX : ∀ b, ¬ c.X b) (hs : St c I L w)  
    (k : ∀  (J : Im) (w' : World), Le I J → St c J L w' → K (.bool r) w') :
    callW Tryd.prog 80 [.string (bs x0)] K w := by
  unfold p_ref27_brackets at hf
  refine fn_of good Tryd.func80 rfl rfl rfl ?_
  refine sqs ?_
  refine bar ?_
  refine sqs ?_
  refine sqs ?_
  refine cdO hf (fun h1 q1 => ?_) (fun h1 q2 => ?_)
  · clear hf
    refine nrmO [0, 14, 15] [.string (bs x0), .bool true, undef] (ce rfl (ce rfl (ce rfl (rfl)))) ?_
    intro e2
    refine barN [0, 26] [.string (bs x0), .bool true] (ce rfl (ce rfl (rfl))) ?_
    intro e3
    refine bar ?_
    obtain rfl := Option.some.inj q1
    exact k I w (Le.refl _) hs
  · clear hf
    refine nrmP [0, 14] [.string (bs x0), .bool false] (ce rfl (ce rfl (rfl))) ?_
    intro e4
    refine reqO q2 (fun h5 q3 => ?_)
    clear q2
    refine cnO q3 (fun h6 q4 => ?_) (fun h6 q5 => ?_)
    · clear q3
      refine nrmP [0, 19] [.string (bs x0), .bool false] (ce rfl (ce rfl (rfl))) ?_
      intro e7
      refine reqO q4 (fun h8 q6 => ?_)
      clear q4
      refine barN [0, 26] [.string (bs x0), .bool (!decide (((x0.getD (IntKind.i64.wrap ((x0.length : Int) - (1 : Int))).toNat 0).toNat : Int) = (93 : Int)))] (ce rfl (ce rfl (rfl))) ?_
      intro e9
      refine cnO q6 (fun h10 q7 => ?_) (fun h10 q8 => ?_)
      · clear q6
        refine bar ?_
        refine sqs ?_
        refine reqO q7 (fun h11 q9 => ?_)
        clear q7
        refine barN [3] [.string (bs (subS x0 (1 : Int) (IntKind.i64.wrap ((x0.length : Int) - (1 : Int)))))] (ce rfl (rfl)) ?_
        intro e12
        refine sqs ?_
        refine bar ?_
        refine sqs ?_
        refine sqs ?_
        refine bar ?_
        refine blk ?_
        refine loopP q9 [3, 4, 5] (fun (s : Int × Int) vs w' => ∃ (J : Im), Le I J ∧ vs = [.string (bs (subS x0 (1 : Int) (IntKind.i64.wrap ((x0.length : Int) - (1 : Int))))), .int .i64 s.1, .int .i64 s.2] ∧ St c J (L) w') ⟨I, Le.refl _, ce rfl (ce rfl (ce rfl (rfl))), hs⟩ ?_
        clear q9
        rintro Z50 ⟨v47, v48⟩ t49 vs e274 w45 hI q10 hZ51
        try dsimp only at hI
        obtain ⟨J43, hJ44, rfl, hs46⟩ := hI
        replace q10 : p_ref27_brackets_b1 x0 v47 v48 = some t49 := q10
        unfold p_ref27_brackets_b1 at q10
        refine sqs ?_
        refine sqs ?_
        refine barN [3, 4, 5, 36] [.string (bs (subS x0 (1 : Int) (IntKind.i64.wrap ((x0.length : Int) - (1 : Int))))), .int .i64 v47, .int .i64 v48, .bool (decide ((IntKind.i64.wrap (v48 + (1 : Int))) < ((subS x0 (1 : Int) (IntKind.i64.wrap ((x0.length : Int) - (1 : Int)))).length : Int)))] (ce rfl (ce rfl (ce rfl (ce rfl (rfl))))) ?_
        intro e52
        refine cdO q10 (fun h53 q11 => ?_) (fun h53 q12 => ?_)
        · clear q10
          refine bar ?_
          refine sqs ?_
          refine blk ?_
          refine sqs ?_
          refine reqO q11 (fun h54 q13 => ?_)
          clear q11
          refine cdO q13 (fun h55 q14 => ?_) (fun h55 q15 => ?_)
          · clear q13
            refine nrmP [3, 4, 5, 43] [.string (bs (subS x0 (1 : Int) (IntKind.i64.wrap ((x0.length : Int) - (1 : Int))))), .int .i64 v47, .int .i64 v48, .bool true] (ce rfl (ce rfl (ce rfl (ce rfl (rfl))))) ?_
            intro e56
            refine reqO q14 (fun h57 q16 => ?_)
            clear q14
            refine barN [3, 4, 5, 49] [.string (bs (subS x0 (1 : Int) (IntKind.i64.wrap ((x0.length : Int) - (1 : Int))))), .int .i64 v47, .int .i64 v48, .bool (decide ((((subS x0 (1 : Int) (IntKind.i64.wrap ((x0.length : Int) - (1 : Int)))).getD (IntKind.i64.wrap (v48 + (1 : Int))).toNat 0).toNat : Int) = (58 : Int)))] (ce rfl (ce rfl (ce rfl (ce rfl (rfl))))) ?_
            intro e58
            refine cdO q16 (fun h59 q17 => ?_) (fun h59 q18 => ?_)
            · clear q16
              refine bar ?_
              obtain rfl := Option.some.inj q17
              exact hZ51 _ _ ⟨J43, hJ44, ce rfl (ce rfl (ce rfl (rfl))), hs46⟩
            · clear q16
              refine bar ?_
              obtain rfl := Option.some.inj q18
              exact hZ51 _ _ ⟨J43, hJ44, ce rfl (ce rfl (ce rfl (rfl))), hs46⟩
          · clear q13
            refine nrmO [3, 4, 5, 43, 44] [.string (bs (subS x0 (1 : Int) (IntKind.i64.wrap ((x0.length : Int) - (1 : Int))))), .int .i64 v47, .int .i64 v48, .bool false, undef] (ce rfl (ce rfl (ce rfl (ce rfl (ce rfl (rfl)))))) ?_
            intro e60
            refine barN [3, 4, 5, 49] [.string (bs (subS x0 (1 : Int) (IntKind.i64.wrap ((x0.length : Int) - (1 : Int))))), .int .i64 v47, .int .i64 v48, .bool false] (ce rfl (ce rfl (ce rfl (ce rfl (rfl))))) ?_
            intro e61
            refine bar ?_
            obtain rfl := Option.some.inj q15
            exact hZ51 _ _ ⟨J43, hJ44, ce rfl (ce rfl (ce rfl (rfl))), hs46⟩
        · clear q10
          obtain ⟨r62, hm63, rfl⟩ := mapO q12
          clear q12
          obtain rfl : r62 = _ := hZ51
          refine bar ?_
          refine sqs ?_
          obtain ⟨z64, h65, q19⟩ := bindO hm63
          clear hm63
          refine w_ref27_cut (subS x0 (1 : Int) (IntKind.i64.wrap ((x0.length : Int) - (1 : Int)))) (58 : Int) z64 h65 (hg.le hJ44) hX hs46 ?_
          intro a70 c71 J66 w68 hJ67 hs69 h72
          refine bar ?_
          refine sqs ?_
          refine barN [3, 4, 6, 7] [.string (bs (subS x0 (1 : Int) (IntKind.i64.wrap ((x0.length : Int) - (1 : Int))))), .int .i64 v47, .slice a70 (z64.length) c71, .int .i64 ((0 : Int))] (ce rfl (ce rfl (ce rfl (ce rfl (rfl))))) ?_
          intro e73
          refine sqs ?_
          refine bar ?_
          refine sqs ?_
          refine sqs ?_
          refine bar ?_
          refine blk ?_
          refine loopP q19 [3, 4, 6, 7, 8, 9] (fun (s : Int × Int × Int) vs w' => ∃ (J : Im), Le J66 J ∧ vs = [.string (bs (subS x0 (1 : Int) (IntKind.i64.wrap ((x0.length : Int) - (1 : Int))))), .int .i64 v47, .slice a70 (z64.length) c71, .int .i64 s.1, .int .i64 s.2.1, .int .i64 s.2.2] ∧ St c J (L) w') ⟨J66, Le.refl _, ce rfl (ce rfl (ce rfl (ce rfl (ce rfl (ce rfl (rfl)))))), hs69⟩ ?_
          clear q19
          rintro Z185 ⟨v181, v182, v183⟩ t184 vs e273 w179 hI q20 hZ186
          try dsimp only at hI
          obtain ⟨J177, hJ178, rfl, hs180⟩ := hI
          replace q20 : p_ref27_brackets_b2 x0 v47 z64 v181 v182 v183 = some t184 := q20
          unfold p_ref27_brackets_b2 at q20
          refine sqs ?_
          refine sqs ?_
          refine barN [3, 4, 6, 7, 8, 9, 57] [.string (bs (subS x0 (1 : Int) (IntKind.i64.wrap ((x0.length : Int) - (1 : Int))))), .int .i64 v47, .slice a70 (z64.length) c71, .int .i64 v181, .int .i64 v182, .int .i64 v183, .bool (decide (v183 < ((z64.length : Nat) : Int)))] (ce rfl (ce rfl (ce rfl (ce rfl (ce rfl (ce rfl (ce rfl (rfl)))))))) ?_
          intro e187
          refine cdO q20 (fun h188 q21 => ?_) (fun h188 q22 => ?_)
          · clear q20
            refine bar ?_
            refine sqs ?_
            refine blk ?_
            refine sqs ?_
            obtain ⟨x189, h195, q23⟩ := bindO q21
            clear q21
            obtain ⟨ad190, r191, h192, h193, h194, h196, h197, h198⟩ := RdL.getI (RdL.mono h72 hJ178 (fun _ _ _ h => h)) h195
            obtain rfl : r191 = [.string (bs x189)] := h196
            refine idx h192 h193 h194 ?_
            refine ldc1 (h198 _ hs180.im 0 _ rfl) ?_
            refine barN [3, 4, 6, 7, 8, 9, 64] [.string (bs (subS x0 (1 : Int) (IntKind.i64.wrap ((x0.length : Int) - (1 : Int))))), .int .i64 v47, .slice a70 (z64.length) c71, .int .i64 v181, .int .i64 v182, .int .i64 v183, .bool (decide (x189 = ([] : List UInt8)))] (ce rfl (ce rfl (ce rfl (ce rfl (ce rfl (ce rfl (ce rfl (rfl)))))))) ?_
            intro e199
            refine cdO q23 (fun h200 q24 => ?_) (fun h200 q25 => ?_)
            · clear q23
              refine bar ?_
              obtain rfl := Option.some.inj q24
              exact hZ186 _ _ ⟨J177, hJ178, ce rfl (ce rfl (ce rfl (ce rfl (ce rfl (ce rfl (rfl)))))), hs180⟩
            · clear q23
              refine sqs ?_
              obtain ⟨x201, h207, q26⟩ := bindO q25
              clear q25
              obtain ⟨ad202, r203, h204, h205, h206, h208, h209, h210⟩ := RdL.getI (RdL.mono h72 hJ178 (fun _ _ _ h => h)) h207
              obtain rfl : r203 = [.string (bs x201)] := h208
              refine idx h204 h205 h206 ?_
              refine ldc1 (h210 _ hs180.im 0 _ rfl) ?_
              refine cdO q26 (fun h211 q27 => ?_) (fun h211 q28 => ?_)
              · clear q26
                refine nrmO [3, 4, 6, 7, 8, 9, 73, 74] [.string (bs (subS x0 (1 : Int) (IntKind.i64.wrap ((x0.length : Int) - (1 : Int))))), .int .i64 v47, .slice a70 (z64.length) c71, .int .i64 v181, .int .i64 v182, .int .i64 v183, .bool true, undef] (ce rfl (ce rfl (ce rfl (ce rfl (ce rfl (ce rfl (ce rfl (ce rfl (rfl))))))))) ?_
                intro e212
                refine barN [3, 4, 6, 7, 8, 9, 80] [.string (bs (subS x0 (1 : Int) (IntKind.i64.wrap ((x0.length : Int) - (1 : Int))))), .int .i64 v47, .slice a70 (z64.length) c71, .int .i64 v181, .int .i64 v182, .int .i64 v183, .bool true] (ce rfl (ce rfl (ce rfl (ce rfl (ce rfl (ce rfl (ce rfl (rfl)))))))) ?_
                intro e213
                refine bar ?_
                obtain ⟨r214, hm215, rfl⟩ := mapO q27
                clear q27
                obtain rfl : r214 = _ := hZ186
                obtain rfl := Option.some.inj hm215
                exact k J177 w179 (hJ44.trans (hJ67.trans hJ178)) hs180
              · clear q26
                refine nrmP [3, 4, 6, 7, 8, 9, 73] [.string (bs (subS x0 (1 : Int) (IntKind.i64.wrap ((x0.length : Int) - (1 : Int))))), .int .i64 v47, .slice a70 (z64.length) c71, .int .i64 v181, .int .i64 v182, .int .i64 v183, .bool false] (ce rfl (ce rfl (ce rfl (ce rfl (ce rfl (ce rfl (ce rfl (rfl)))))))) ?_
                intro e216
                obtain ⟨x217, h223, q29⟩ := bindO q28
                clear q28
                obtain ⟨ad218, r219, h220, h221, h222, h224, h225, h226⟩ := RdL.getI (RdL.mono h72 hJ178 (fun _ _ _ h => h)) h223
                obtain rfl : r219 = [.string (bs x217)] := h224
                refine idx h220 h221 h222 ?_
                refine ldc1 (h226 _ hs180.im 0 _ rfl) ?_
                obtain ⟨z227, h228, q30⟩ := bindO q29
                clear q29
                refine w_ref27_most x217 z227 h228 (hg.le (hJ44.trans (hJ67.trans hJ178))) hX hs180 ?_
                intro J229 w231 hJ230 hs232
                refine barN [3, 4, 6, 7, 8, 9, 80] [.string (bs (subS x0 (1 : Int) (IntKind.i64.wrap ((x0.length : Int) - (1 : Int))))), .int .i64 v47, .slice a70 (z64.length) c71, .int .i64 v181, .int .i64 v182, .int .i64 v183, .bool (decide ((2 : Int) < z227))] (ce rfl (ce rfl (ce rfl (ce rfl (ce rfl (ce rfl (ce rfl (rfl)))))))) ?_
                intro e233
                refine cdO q30 (fun h234 q31 => ?_) (fun h234 q32 => ?_)
                · clear q30
                  refine sqs ?_
                  refine bar ?_
                  obtain ⟨r235, hm236, rfl⟩ := mapO q31
                  clear q31
                  obtain rfl : r235 = _ := hZ186
                  obtain rfl := Option.some.inj hm236
                  exact k J229 w231 (hJ44.trans (hJ67.trans (hJ178.trans hJ230))) hs232
                · clear q30
                  refine bar ?_
                  obtain rfl := Option.some.inj q32
                  exact hZ186 _ _ ⟨J229, (hJ178.trans hJ230), ce rfl (ce rfl (ce rfl (ce rfl (ce rfl (ce rfl (rfl)))))), hs232⟩
          · clear q20
            obtain ⟨r237, hm238, rfl⟩ := mapO q22
            clear q22
            obtain rfl : r237 = _ := hZ186
            refine bar ?_
            refine sqs ?_
            refine sqs ?_
            refine bar ?_
            refine cdO hm238 (fun h239 q33 => ?_) (fun h239 q34 => ?_)
            · clear hm238
              refine sqs ?_
              refine cdO q33 (fun h240 q35 => ?_) (fun h240 q36 => ?_)
              · clear q33
                refine nrmO [87, 88] [.bool true, .int .i64 v182] (ce rfl (ce rfl (rfl))) ?_
                intro e241
                refine bar ?_
                obtain rfl := Option.some.inj q35
                exact k J177 w179 (hJ44.trans (hJ67.trans hJ178)) hs180
              · clear q33
                refine nrmO [87, 88] [.bool false, undef] (ce rfl (ce rfl (rfl))) ?_
                intro e242
                refine bar ?_
                obtain rfl := Option.some.inj q36
                exact k J177 w179 (hJ44.trans (hJ67.trans hJ178)) hs180
            · clear hm238
              refine bar ?_
              refine sqs ?_
              refine bar ?_
              refine sqs ?_
              refine cutc [3, 4, 7, 8, 10] (fun vs w' => ∃ (v247 : Int) (J : Im), Le J177 J ∧ vs = [.string (bs (subS x0 (1 : Int) (IntKind.i64.wrap ((x0.length : Int) - (1 : Int))))), .int .i64 v47, .int .i64 v181, .int .i64 v182, .int .i64 v247] ∧ St c J (L) w' ∧ p_ref27_brackets_j1 x0 v47 v181 v182 v247 = some r237) ?_ ?_
              · clear q34
                rintro vs e272 w245 ⟨v247, J243, hJ244, rfl, hs246, q37⟩
                unfold p_ref27_brackets_j1 at q37
                refine bar ?_
                refine sqs ?_
                refine cutc [10, 4, 7, 8] (fun vs w' => ∃ (v252 : Int) (J : Im), Le J243 J ∧ vs = [.int .i64 v252, .int .i64 v47, .int .i64 v181, .int .i64 v182] ∧ St c J (L) w' ∧ p_ref27_brackets_j2 v47 v181 v182 v252 = some r237) ?_ ?_
                · clear q37
                  rintro vs e266 w250 ⟨v252, J248, hJ249, rfl, hs251, q38⟩
                  unfold p_ref27_brackets_j2 at q38
                  refine bar ?_
                  refine sqs ?_
                  refine cdO q38 (fun h253 q39 => ?_) (fun h253 q40 => ?_)
                  · clear q38
                    refine nrmP [7, 8, 10, 106] [.int .i64 v181, .int .i64 v182, .int .i64 v252, .bool true] (ce rfl (ce rfl (ce rfl (ce rfl (rfl))))) ?_
                    intro e254
                    refine cdO q39 (fun h255 q41 => ?_) (fun h255 q42 => ?_)
                    · clear q39
                      refine nrmP [7, 111] [.int .i64 v181, .bool true] (ce rfl (ce rfl (rfl))) ?_
                      intro e256
                      refine bar ?_
                      obtain rfl := Option.some.inj q41
                      exact k J248 w250 (hJ44.trans (hJ67.trans (hJ178.trans (hJ244.trans hJ249)))) hs251
                    · clear q39
                      refine nrmO [111, 112] [.bool false, undef] (ce rfl (ce rfl (rfl))) ?_
                      intro e257
                      refine bar ?_
                      obtain rfl := Option.some.inj q42
                      exact k J248 w250 (hJ44.trans (hJ67.trans (hJ178.trans (hJ244.trans hJ249)))) hs251
                  · clear q38
                    refine nrmO [7, 10, 106, 107] [.int .i64 v181, .int .i64 v252, .bool false, undef] (ce rfl (ce rfl (ce rfl (ce rfl (rfl))))) ?_
                    intro e258
                    refine barN [2] [.bool false] (ce rfl (rfl)) ?_
                    intro e259
                    obtain rfl := Option.some.inj q40
                    exact k J248 w250 (hJ44.trans (hJ67.trans (hJ178.trans (hJ244.trans hJ249)))) hs251
                · intro Q260 hN261 hX262
                  refine sqs ?_
                  refine reqO q37 (fun h263 q43 => ?_)
                  clear q37
                  refine barN [4, 7, 8, 10, 101] [.int .i64 v47, .int .i64 v181, .int .i64 v182, .int .i64 v247, .bool (decide ((subS (subS x0 (1 : Int) (IntKind.i64.wrap ((x0.length : Int) - (1 : Int)))) (IntKind.i64.wrap (((subS x0 (1 : Int) (IntKind.i64.wrap ((x0.length : Int) - (1 : Int)))).length : Int) - (2 : Int))) ((subS x0 (1 : Int) (IntKind.i64.wrap ((x0.length : Int) - (1 : Int)))).length : Int)) = ([58, 58] : List UInt8)))] (ce rfl (ce rfl (ce rfl (ce rfl (ce rfl (rfl)))))) ?_
                  intro e264
                  refine cdO q43 (fun h265 q44 => ?_) (fun h265 q45 => ?_)
                  · clear q43
                    exact hN261 _ _ ⟨(IntKind.i64.wrap (v247 + (1 : Int))), J243, (Le.refl _), ce rfl (ce rfl (ce rfl (ce rfl (rfl)))), hs246, q44⟩
                  · clear q43
                    exact hN261 _ _ ⟨v247, J243, (Le.refl _), ce rfl (ce rfl (ce rfl (ce rfl (rfl)))), hs246, q45⟩
              · intro Q267 hN268 hX269
                refine sqs ?_
                refine reqO q34 (fun h270 q46 => ?_)
                clear q34
                refine bar ?_
                refine cdO q46 (fun h271 q47 => ?_) (fun h271 q48 => ?_)
                · clear q46
                  exact hN268 _ _ ⟨(IntKind.i64.wrap ((1 : Int) + (1 : Int))), J177, (Le.refl _), ce rfl (ce rfl (ce rfl (ce rfl (ce rfl (rfl))))), hs180, q47⟩
                · clear q46
                  exact hN268 _ _ ⟨(1 : Int), J177, (Le.refl _), ce rfl (ce rfl (ce rfl (ce rfl (ce rfl (rfl))))), hs180, q48⟩
      · clear q6
        refine sqs ?_
        refine bar ?_
        obtain rfl := Option.some.inj q8
        exact k I w (Le.refl _) hs
    · clear q3
      refine nrmO [0, 19, 20] [.string (bs x0), .bool true, undef] (ce rfl (ce rfl (ce rfl (rfl)))) ?_
      intro e275
      refine barN [0, 26] [.string (bs x0), .bool true] (ce rfl (ce rfl (rfl))) ?_
      intro e276
      refine bar ?_
      obtain rfl := Option.some.inj q5
      exact k I w (Le.refl _) hs
def p_ref27_word_b1 (z1 : (List (List UInt8))) (v143 : Bool) (v144 : Int) : Option ((Bool × Int) ⊕ (Bool)) :=
  (if v144 < ((z1.length : Nat) : Int) then ((getI z1 v144).bind fun x150 => (if (x150.length : Int) = (0 : Int) then (Option.map Sum.inr (some false)) else (if (63 : Int) < (x150.length : Int) then (Option.map Sum.inr (some false)) else ((p_ref27_most x150).bind fun z173 => (if (4 : Int) < z173 then (Option.map Sum.inr (some false)) else (if 0 ≤ (0 : Int) ∧ (0 : Int) < (x150.length : Int) then ((p_ref27_class ((x150.getD (0 : Int).toNat 0).toNat : Int)).bind fun z186 => (if z186 = (4 : Int) then (Option.map Sum.inr (some false)) else (if 0 ≤ (IntKind.i64.wrap ((x150.length : Int) - (1 : Int))) ∧ (IntKind.i64.wrap ((x150.length : Int) - (1 : Int))) < (x150.length : Int) then ((p_ref27_class ((x150.getD (IntKind.i64.wrap ((x150.length : Int) - (1 : Int))).toNat 0).toNat : Int)).bind fun z199 => (if z199 = (4 : Int) then (Option.map Sum.inr (some false)) else (if v143 = true then (some (.inl (true, (IntKind.i64.wrap (v144 + (1 : Int)))))) else ((p_ref27_most x150).bind fun z211 => (some (.inl ((decide ((1 : Int) < z211)), (IntKind.i64.wrap (v144 + (1 : Int)))))))))) else none))) else none)))))) else (Option.map Sum.inr (some v143)))
def p_ref27_word (x0 : (List UInt8)) : Option (Bool) :=
  ((p_ref27_cut x0 (46 : Int)).bind fun z1 => (loopO (fun (s : Bool × Int) => p_ref27_word_b1 z1 s.1 s.2) (false, (0 : Int))))
set_option maxRecDepth 10000 in
set_option maxHeartbeats 4000000 in
theorem w_ref27_word {c : Cx} {I : Im} {L : List Ent} {w : World} {K : Value → World → Prop} (x0 : (List UInt8)) (r : Bool) (hf : p_ref27_word x0 = some r) (hg : Glo I) (hX : ∀ b, ¬ c.X b) (hs : St c I L w)  
    (k : ∀  (J : Im) (w' : World), Le I J → St c J L w' → K (.bool r) w') :
    callW Tryd.prog 78 [.string (bs x0)] K w := by
  unfold p_ref27_word at hf
  refine fn_of good Tryd.func78 rfl rfl rfl ?_
  refine sqs ?_
  refine bar ?_
  refine sqs ?_
  obtain ⟨z1, h2, q1⟩ := bindO hf
  clear hf
  refine w_ref27_cut x0 (46 : Int) z1 h2 hg hX hs ?_
  intro a7 c8 J3 w5 hJ4 hs6 h9
  refine barN [3] [.slice a7 (z1.length) c8] (ce rfl (rfl)) ?_
  intro e10
  refine sqs ?_
  refine bar ?_
  refine sqs ?_
  refine sqs ?_
  refine bar ?_
  refine blk ?_
  refine loopP q1 [3, 4, 5] (fun (s : Bool × Int) vs w' => ∃ (J : Im), Le J3 J ∧ vs = [.slice a7 (z1.length) c8, .bool s.1, .int .i64 s.2] ∧ St c J (L) w') ⟨J3, Le.refl _, ce rfl (ce rfl (ce rfl (rfl))), hs6⟩ ?_
  clear q1
  rintro Z146 ⟨v143, v144⟩ t145 vs e220 w141 hI q2 hZ147
  try dsimp only at hI
  obtain ⟨J139, hJ140, rfl, hs142⟩ := hI
  replace q2 : p_ref27_word_b1 z1 v143 v144 = some t145 := q2
  unfold p_ref27_word_b1 at q2
  refine sqs ?_
  refine sqs ?_
  refine barN [3, 4, 5, 12] [.slice a7 (z1.length) c8, .bool v143, .int .i64 v144, .bool (decide (v144 < ((z1.length : Nat) : Int)))] (ce rfl (ce rfl (ce rfl (ce rfl (rfl))))) ?_
  intro e148
  refine cdO q2 (fun h149 q3 => ?_) (fun h149 q4 => ?_)
  · clear q2
    refine bar ?_
    refine sqs ?_
    refine blk ?_
    refine sqs ?_
    obtain ⟨x150, h156, q5⟩ := bindO q3
    clear q3
    obtain ⟨ad151, r152, h153, h154, h155, h157, h158, h159⟩ := RdL.getI (RdL.mono h9 hJ140 (fun _ _ _ h => h)) h156
    obtain rfl : r152 = [.string (bs x150)] := h157
    refine idx h153 h154 h155 ?_
    refine ldc1 (h159 _ hs142.im 0 _ rfl) ?_
    refine barN [3, 4, 5, 6] [.slice a7 (z1.length) c8, .bool v143, .int .i64 v144, .string (bs x150)] (ce rfl (ce rfl (ce rfl (ce rfl (rfl))))) ?_
    intro e160
    refine sqs ?_
    refine sqs ?_
    refine cdO q5 (fun h161 q6 => ?_) (fun h161 q7 => ?_)
    · clear q5
      refine nrmO [3, 4, 5, 6, 22, 23] [.slice a7 (z1.length) c8, .bool v143, .int .i64 v144, .string (bs x150), .bool true, undef] (ce rfl (ce rfl (ce rfl (ce rfl (ce rfl (ce rfl (rfl))))))) ?_
      intro e162
      refine barN [3, 4, 5, 6, 46] [.slice a7 (z1.length) c8, .bool v143, .int .i64 v144, .string (bs x150), .bool true] (ce rfl (ce rfl (ce rfl (ce rfl (ce rfl (rfl)))))) ?_
      intro e163
      refine bar ?_
      obtain ⟨r164, hm165, rfl⟩ := mapO q6
      clear q6
      obtain rfl : r164 = _ := hZ147
      obtain rfl := Option.some.inj hm165
      exact k J139 w141 (hJ4.trans hJ140) hs142
    · clear q5
      refine nrmP [3, 4, 5, 6, 22] [.slice a7 (z1.length) c8, .bool v143, .int .i64 v144, .string (bs x150), .bool false] (ce rfl (ce rfl (ce rfl (ce rfl (ce rfl (rfl)))))) ?_
      intro e166
      refine cdO q7 (fun h167 q8 => ?_) (fun h167 q9 => ?_)
      · clear q7
        refine nrmO [3, 4, 5, 6, 27, 28] [.slice a7 (z1.length) c8, .bool v143, .int .i64 v144, .string (bs x150), .bool true, undef] (ce rfl (ce rfl (ce rfl (ce rfl (ce rfl (ce rfl (rfl))))))) ?_
        intro e168
        refine barN [3, 4, 5, 6, 46] [.slice a7 (z1.length) c8, .bool v143, .int .i64 v144, .string (bs x150), .bool true] (ce rfl (ce rfl (ce rfl (ce rfl (ce rfl (rfl)))))) ?_
        intro e169
        refine bar ?_
        obtain ⟨r170, hm171, rfl⟩ := mapO q8
        clear q8
        obtain rfl : r170 = _ := hZ147
        obtain rfl := Option.some.inj hm171
        exact k J139 w141 (hJ4.trans hJ140) hs142
      · clear q7
        refine nrmP [3, 4, 5, 6, 27] [.slice a7 (z1.length) c8, .bool v143, .int .i64 v144, .string (bs x150), .bool false] (ce rfl (ce rfl (ce rfl (ce rfl (ce rfl (rfl)))))) ?_
        intro e172
        obtain ⟨z173, h174, q10⟩ := bindO q9
        clear q9
        refine w_ref27_most x150 z173 h174 (hg.le (hJ4.trans hJ140)) hX hs142 ?_
        intro J175 w177 hJ176 hs178
        refine cdO q10 (fun h179 q11 => ?_) (fun h179 q12 => ?_)
        · clear q10
          refine nrmO [3, 4, 5, 6, 32, 33] [.slice a7 (z1.length) c8, .bool v143, .int .i64 v144, .string (bs x150), .bool true, undef] (ce rfl (ce rfl (ce rfl (ce rfl (ce rfl (ce rfl (rfl))))))) ?_
          intro e180
          refine barN [3, 4, 5, 6, 46] [.slice a7 (z1.length) c8, .bool v143, .int .i64 v144, .string (bs x150), .bool true] (ce rfl (ce rfl (ce rfl (ce rfl (ce rfl (rfl)))))) ?_
          intro e181
          refine bar ?_
          obtain ⟨r182, hm183, rfl⟩ := mapO q11
          clear q11
          obtain rfl : r182 = _ := hZ147
          obtain rfl := Option.some.inj hm183
          exact k J175 w177 (hJ4.trans (hJ140.trans hJ176)) hs178
        · clear q10
          refine nrmP [3, 4, 5, 6, 32] [.slice a7 (z1.length) c8, .bool v143, .int .i64 v144, .string (bs x150), .bool false] (ce rfl (ce rfl (ce rfl (ce rfl (ce rfl (rfl)))))) ?_
          intro e184
          refine reqO q12 (fun h185 q13 => ?_)
          clear q12
          obtain ⟨z186, h187, q14⟩ := bindO q13
          clear q13
          refine w_ref27_class ((x150.getD (0 : Int).toNat 0).toNat : Int) z186 h187 (hg.le (hJ4.trans (hJ140.trans hJ176))) hX hs178 ?_
          intro J188 w190 hJ189 hs191
          refine cdO q14 (fun h192 q15 => ?_) (fun h192 q16 => ?_)
          · clear q14
            refine nrmO [3, 4, 5, 6, 38, 39] [.slice a7 (z1.length) c8, .bool v143, .int .i64 v144, .string (bs x150), .bool true, undef] (ce rfl (ce rfl (ce rfl (ce rfl (ce rfl (ce rfl (rfl))))))) ?_
            intro e193
            refine barN [3, 4, 5, 6, 46] [.slice a7 (z1.length) c8, .bool v143, .int .i64 v144, .string (bs x150), .bool true] (ce rfl (ce rfl (ce rfl (ce rfl (ce rfl (rfl)))))) ?_
            intro e194
            refine bar ?_
            obtain ⟨r195, hm196, rfl⟩ := mapO q15
            clear q15
            obtain rfl : r195 = _ := hZ147
            obtain rfl := Option.some.inj hm196
            exact k J188 w190 (hJ4.trans (hJ140.trans (hJ176.trans hJ189))) hs191
          · clear q14
            refine nrmP [3, 4, 5, 6, 38] [.slice a7 (z1.length) c8, .bool v143, .int .i64 v144, .string (bs x150), .bool false] (ce rfl (ce rfl (ce rfl (ce rfl (ce rfl (rfl)))))) ?_
            intro e197
            refine reqO q16 (fun h198 q17 => ?_)
            clear q16
            obtain ⟨z199, h200, q18⟩ := bindO q17
            clear q17
            refine w_ref27_class ((x150.getD (IntKind.i64.wrap ((x150.length : Int) - (1 : Int))).toNat 0).toNat : Int) z199 h200 (hg.le (hJ4.trans (hJ140.trans (hJ176.trans hJ189)))) hX hs191 ?_
            intro J201 w203 hJ202 hs204
            refine barN [3, 4, 5, 6, 46] [.slice a7 (z1.length) c8, .bool v143, .int .i64 v144, .string (bs x150), .bool (decide (z199 = (4 : Int)))] (ce rfl (ce rfl (ce rfl (ce rfl (ce rfl (rfl)))))) ?_
            intro e205
            refine cdO q18 (fun h206 q19 => ?_) (fun h206 q20 => ?_)
            · clear q18
              refine sqs ?_
              refine bar ?_
              obtain ⟨r207, hm208, rfl⟩ := mapO q19
              clear q19
              obtain rfl : r207 = _ := hZ147
              obtain rfl := Option.some.inj hm208
              exact k J201 w203 (hJ4.trans (hJ140.trans (hJ176.trans (hJ189.trans hJ202)))) hs204
            · clear q18
              refine bar ?_
              refine csO q20 (fun h209 q21 => ?_) (fun h209 q22 => ?_)
              · clear q20
                refine barN [3, 4, 5] [.slice a7 (z1.length) c8, .bool true, .int .i64 v144] (ce rfl (ce rfl (ce rfl (rfl)))) ?_
                intro e210
                obtain rfl := Option.some.inj q21
                exact hZ147 _ _ ⟨J201, (hJ140.trans (hJ176.trans (hJ189.trans hJ202))), ce rfl (ce rfl (ce rfl (rfl))), hs204⟩
              · clear q20
                obtain ⟨z211, h212, q23⟩ := bindO q22
                clear q22
                refine w_ref27_most x150 z211 h212 (hg.le (hJ4.trans (hJ140.trans (hJ176.trans (hJ189.trans hJ202))))) hX hs204 ?_
                intro J213 w215 hJ214 hs216
                refine barN [3, 4, 5] [.slice a7 (z1.length) c8, .bool (decide ((1 : Int) < z211)), .int .i64 v144] (ce rfl (ce rfl (ce rfl (rfl)))) ?_
                intro e217
                obtain rfl := Option.some.inj q23
                exact hZ147 _ _ ⟨J213, (hJ140.trans (hJ176.trans (hJ189.trans (hJ202.trans hJ214)))), ce rfl (ce rfl (ce rfl (rfl))), hs216⟩
  · clear q2
    obtain ⟨r218, hm219, rfl⟩ := mapO q4
    clear q4
    obtain rfl : r218 = _ := hZ147
    refine bar ?_
    refine sqs ?_
    refine bar ?_
    obtain rfl := Option.some.inj hm219
    exact k J139 w141 (hJ4.trans hJ140) hs142
def p_ref27_four_b1 (z1 : (List (List UInt8))) (v64 : Int) : Option ((Int) ⊕ (Bool)) :=
  (if v64 < (4 : Int) then ((getI z1 v64).bind fun x69 => ((p_ref27_Shown x69 (0 : Int) (255 : Int)).bind fun z80 => (if z80 < (0 : Int) then (Option.map Sum.inr (some false)) else (some (.inl ((IntKind.i64.wrap (v64 + (1 : Int))))))))) else (Option.map Sum.inr (some true)))
def p_ref27_four (x0 : (List UInt8)) : Option (Bool) :=
  ((p_ref27_cut x0 (46 : Int)).bind fun z1 => (if ((z1.length : Nat) : Int) = (4 : Int) then (loopO (fun (s : Int) => p_ref27_four_b1 z1 s) ((0 : Int))) else (some false)))
set_option maxRecDepth 10000 in
set_option maxHeartbeats 4000000 in
theorem w_ref27_four {c : Cx} {I : Im} {L : List Ent} {w : World} {K : Value → World → Prop} (x0 : (List UInt8)) (r : Bool) (hf : p_ref27_four x0 = some r) (hg : Glo I) (hX : ∀ b, ¬ c.X b) (hs : St c I L w)  
    (k : ∀  (J : Im) (w' : World), Le I J → St c J L w' → K (.bool r) w') :
    callW Tryd.prog 79 [.string (bs x0)] K w := by
  unfold p_ref27_four at hf
  refine fn_of good Tryd.func79 rfl rfl rfl ?_
  refine sqs ?_
  refine bar ?_
  refine sqs ?_
  obtain ⟨z1, h2, q1⟩ := bindO hf
  clear hf
  refine w_ref27_cut x0 (46 : Int) z1 h2 hg hX hs ?_
  intro a7 c8 J3 w5 hJ4 hs6 h9
  refine barN [3] [.slice a7 (z1.length) c8] (ce rfl (rfl)) ?_
  intro e10
  refine sqs ?_
  refine sqs ?_
  refine bar ?_
  refine cnO q1 (fun h11 q2 => ?_) (fun h11 q3 => ?_)
  · clear q1
    refine bar ?_
    refine sqs ?_
    refine sqs ?_
    refine barN [3, 4] [.slice a7 (z1.length) c8, .int .i64 ((0 : Int))] (ce rfl (ce rfl (rfl))) ?_
    intro e12
    refine blk ?_
    refine loopP q2 [3, 4] (fun (s : Int) vs w' => ∃ (J : Im), Le J3 J ∧ vs = [.slice a7 (z1.length) c8, .int .i64 s] ∧ St c J (L) w') ⟨J3, Le.refl _, ce rfl (ce rfl (rfl)), hs6⟩ ?_
    clear q2
    rintro Z66 v64 t65 vs e91 w62 hI q4 hZ67
    try dsimp only at hI
    obtain ⟨J60, hJ61, rfl, hs63⟩ := hI
    replace q4 : p_ref27_four_b1 z1 v64 = some t65 := q4
    unfold p_ref27_four_b1 at q4
    refine sqs ?_
    refine sqs ?_
    refine bar ?_
    refine cdO q4 (fun h68 q5 => ?_) (fun h68 q6 => ?_)
    · clear q4
      refine bar ?_
      refine sqs ?_
      refine blk ?_
      refine sqs ?_
      obtain ⟨x69, h75, q7⟩ := bindO q5
      clear q5
      obtain ⟨ad70, r71, h72, h73, h74, h76, h77, h78⟩ := RdL.getI (RdL.mono h9 hJ61 (fun _ _ _ h => h)) h75
      obtain rfl : r71 = [.string (bs x69)] := h76
      refine idx h72 h73 h74 ?_
      refine ldc1 (h78 _ hs63.im 0 _ rfl) ?_
      refine nrmO [3, 4, 17] [.slice a7 (z1.length) c8, .int .i64 v64, .string (bs x69)] (ce rfl (ce rfl (ce rfl (rfl)))) ?_
      intro e79
      obtain ⟨z80, h81, q8⟩ := bindO q7
      clear q7
      refine w_ref27_Shown x69 (0 : Int) (255 : Int) z80 h81 (hg.le (hJ4.trans hJ61)) hX hs63 ?_
      intro J82 w84 hJ83 hs85
      refine bar ?_
      refine cdO q8 (fun h86 q9 => ?_) (fun h86 q10 => ?_)
      · clear q8
        refine sqs ?_
        refine bar ?_
        obtain ⟨r87, hm88, rfl⟩ := mapO q9
        clear q9
        obtain rfl : r87 = _ := hZ67
        obtain rfl := Option.some.inj hm88
        exact k J82 w84 (hJ4.trans (hJ61.trans hJ83)) hs85
      · clear q8
        refine bar ?_
        obtain rfl := Option.some.inj q10
        exact hZ67 _ _ ⟨J82, (hJ61.trans hJ83), ce rfl (ce rfl (rfl)), hs85⟩
    · clear q4
      obtain ⟨r89, hm90, rfl⟩ := mapO q6
      clear q6
      obtain rfl : r89 = _ := hZ67
      refine bar ?_
      refine sqs ?_
      refine bar ?_
      obtain rfl := Option.some.inj hm90
      exact k J60 w62 (hJ4.trans hJ61) hs63
  · clear q1
    refine sqs ?_
    refine barN [2] [.bool false] (ce rfl (rfl)) ?_
    intro e92
    obtain rfl := Option.some.inj q3
    exact k J3 w5 hJ4 hs6
def p_ref27_Kind (x0 : (List UInt8)) : Option (Int) :=
  ((p_ref27_word x0).bind fun z1 => (if z1 = true then (some (1 : Int)) else ((p_ref27_four x0).bind fun z9 => (if z9 = true then (some (2 : Int)) else ((p_ref27_brackets x0).bind fun z17 => (if z17 = true then (some (3 : Int)) else (some (0 : Int))))))))
set_option maxRecDepth 10000 in
set_option maxHeartbeats 4000000 in
theorem w_ref27_Kind {c : Cx} {I : Im} {L : List Ent} {w : World} {K : Value → World → Prop} (x0 : (List UInt8)) (r : Int) (hf : p_ref27_Kind x0 = some r) (hg : Glo I) (hX : ∀ b, ¬ c.X b) (hs : St c I L w)  
    (k : ∀  (J : Im) (w' : World), Le I J → St c J L w' → K (.int .i64 r) w') :
    callW Tryd.prog 27 [.string (bs x0)] K w := by
  unfold p_ref27_Kind at hf
  refine fn_of good Tryd.func27 rfl rfl rfl ?_
  refine sqs ?_
  refine bar ?_
  refine sqs ?_
  refine sqs ?_
  obtain ⟨z1, h2, q1⟩ := bindO hf
  clear hf
  refine w_ref27_word x0 z1 h2 hg hX hs ?_
  intro J3 w5 hJ4 hs6
  refine bar ?_
  refine csO q1 (fun h7 q2 => ?_) (fun h7 q3 => ?_)
  · clear q1
    refine sqs ?_
    refine barN [2] [.int .i64 ((1 : Int))] (ce rfl (rfl)) ?_
    intro e8
    obtain rfl := Option.some.inj q2
    exact k J3 w5 hJ4 hs6
  · clear q1
    refine bar ?_
    refine sqs ?_
    refine sqs ?_
    obtain ⟨z9, h10, q4⟩ := bindO q3
    clear q3
    refine w_ref27_four x0 z9 h10 (hg.le hJ4) hX hs6 ?_
    intro J11 w13 hJ12 hs14
    refine barN [0, 6] [.string (bs x0), .bool z9] (ce rfl (ce rfl (rfl))) ?_
    intro e15
    refine csO q4 (fun h16 q5 => ?_) (fun h16 q6 => ?_)
    · clear q4
      refine sqs ?_
      refine bar ?_
      obtain rfl := Option.some.inj q5
      exact k J11 w13 (hJ4.trans hJ12) hs14
    · clear q4
      refine bar ?_
      refine sqs ?_
      refine sqs ?_
      obtain ⟨z17, h18, q7⟩ := bindO q6
      clear q6
      refine w_ref27_brackets x0 z17 h18 (hg.le (hJ4.trans hJ12)) hX hs14 ?_
      intro J19 w21 hJ20 hs22
      refine bar ?_
      refine csO q7 (fun h23 q8 => ?_) (fun h23 q9 => ?_)
      · clear q7
        refine sqs ?_
        refine bar ?_
        obtain rfl := Option.some.inj q8
        exact k J19 w21 (hJ4.trans (hJ12.trans hJ20)) hs22
      · clear q7
        refine bar ?_
        refine sqs ?_
        refine bar ?_
        obtain rfl := Option.some.inj q9
        exact k J19 w21 (hJ4.trans (hJ12.trans hJ20)) hs22
def p_ref27_Parts_b1 (x0 : (List UInt8)) (v36 : Int) (v37 : Int) : Option ((Int × Int) ⊕ ((List UInt8) × Int × Int)) :=
  (if v37 < (x0.length : Int) then (if 0 ≤ v37 ∧ v37 < (x0.length : Int) then (if ((x0.getD v37.toNat 0).toNat : Int) = (58 : Int) then (some (.inl (v37, (IntKind.i64.wrap (v37 + (1 : Int)))))) else (some (.inl (v36, (IntKind.i64.wrap (v37 + (1 : Int))))))) else none) else (Option.map Sum.inr (if v36 < (0 : Int) then (some (([] : List UInt8), (0 : Int), (25 : Int))) else (if 0 ≤ (0 : Int) ∧ (0 : Int) ≤ v36 ∧ v36 ≤ (x0.length : Int) then ((p_ref27_Kind (subS x0 (0 : Int) v36)).bind fun z53 => (if z53 = (0 : Int) then (some (([] : List UInt8), (0 : Int), (25 : Int))) else (if 0 ≤ (IntKind.i64.wrap (v36 + (1 : Int))) ∧ (IntKind.i64.wrap (v36 + (1 : Int))) ≤ (x0.length : Int) ∧ (x0.length : Int) ≤ (x0.length : Int) then ((p_ref27_Shown (subS x0 (IntKind.i64.wrap (v36 + (1 : Int))) (x0.length : Int)) (1 : Int) (65535 : Int)).bind fun z62 => (if z62 < (0 : Int) then (some (([] : List UInt8), (0 : Int), (25 : Int))) else (some ((subS x0 (0 : Int) v36), z62, (0 : Int))))) else none))) else none))))
def p_ref27_Parts (x0 : (List UInt8)) : Option ((List UInt8) × Int × Int) :=
  (if (230 : Int) < (x0.length : Int) then (some (([] : List UInt8), (0 : Int), (4 : Int))) else ((p_ref27_Kind x0).bind fun z3 => (if (0 : Int) < z3 then (some (x0, (0 : Int), (0 : Int))) else (loopO (fun (s : Int × Int) => p_ref27_Parts_b1 x0 s.1 s.2) ((-1 : Int), (0 : Int))))))
set_option maxRecDepth 10000 in
set_option maxHeartbeats 4000000 in
theorem w_ref27_Parts {c : Cx} {I : Im} {L : List Ent} {w : World} {K : Value → World → Prop} (x0 : (List UInt8)) (r : (List UInt8) × Int × Int) (hf : p_ref27_Parts x0 = some r) (hg : Glo I) (hX : ∀ b, ¬ c.X b) (hs : St c I L w)  
    (k : ∀  (J : Im) (w' : World), Le I J → St c J L w' → K (.tuple ⟨[.string (bs r.1), .int .i64 r.2.1, .int .i64 r.2.2]⟩) w') :
    callW Tryd.prog 25 [.string (bs x0)] K w := by
  unfold p_ref27_Parts at hf
  refine fn_of good Tryd.func25 rfl rfl rfl ?_
  refine sqs ?_
  refine bar ?_
  refine sqs ?_
  refine sqs ?_
  refine barN [0, 10] [.string (bs x0), .bool (decide ((230 : Int) < (x0.length : Int)))] (ce rfl (ce rfl (rfl))) ?_
  intro e1
  refine cdO hf (fun h2 q1 => ?_) (fun h2 q2 => ?_)
  · clear hf
    refine sqs ?_
    refine bar ?_
    obtain rfl := Option.some.inj q1
    exact k I w (Le.refl _) hs
  · clear hf
    refine bar ?_
    refine sqs ?_
    refine sqs ?_
    obtain ⟨z3, h4, q3⟩ := bindO q2
    clear q2
    refine w_ref27_Kind x0 z3 h4 hg hX hs ?_
    intro J5 w7 hJ6 hs8
    refine bar ?_
    refine cdO q3 (fun h9 q4 => ?_) (fun h9 q5 => ?_)
    · clear q3
      refine sqs ?_
      refine barN [2, 3, 4] [.string (bs x0), .int .i64 ((0 : Int)), .int .i64 ((0 : Int))] (ce rfl (ce rfl (ce rfl (rfl)))) ?_
      intro e10
      obtain rfl := Option.some.inj q4
      exact k J5 w7 hJ6 hs8
    · clear q3
      refine bar ?_
      refine sqs ?_
      refine barN [0, 5] [.string (bs x0), .int .i64 ((-1 : Int))] (ce rfl (ce rfl (rfl))) ?_
      intro e11
      refine sqs ?_
      refine sqs ?_
      refine bar ?_
      refine blk ?_
      refine loopP q5 [0, 5, 6] (fun (s : Int × Int) vs w' => ∃ (J : Im), Le J5 J ∧ vs = [.string (bs x0), .int .i64 s.1, .int .i64 s.2] ∧ St c J (L) w') ⟨J5, Le.refl _, ce rfl (ce rfl (ce rfl (rfl))), hs8⟩ ?_
      clear q5
      rintro Z39 ⟨v36, v37⟩ t38 vs e72 w34 hI q6 hZ40
      try dsimp only at hI
      obtain ⟨J32, hJ33, rfl, hs35⟩ := hI
      replace q6 : p_ref27_Parts_b1 x0 v36 v37 = some t38 := q6
      unfold p_ref27_Parts_b1 at q6
      refine sqs ?_
      refine sqs ?_
      refine barN [0, 5, 6, 18] [.string (bs x0), .int .i64 v36, .int .i64 v37, .bool (decide (v37 < (x0.length : Int)))] (ce rfl (ce rfl (ce rfl (ce rfl (rfl))))) ?_
      intro e41
      refine cdO q6 (fun h42 q7 => ?_) (fun h42 q8 => ?_)
      · clear q6
        refine bar ?_
        refine sqs ?_
        refine blk ?_
        refine sqs ?_
        refine reqO q7 (fun h43 q9 => ?_)
        clear q7
        refine barN [0, 5, 6, 24] [.string (bs x0), .int .i64 v36, .int .i64 v37, .bool (decide (((x0.getD v37.toNat 0).toNat : Int) = (58 : Int)))] (ce rfl (ce rfl (ce rfl (ce rfl (rfl))))) ?_
        intro e44
        refine cdO q9 (fun h45 q10 => ?_) (fun h45 q11 => ?_)
        · clear q9
          refine bar ?_
          obtain rfl := Option.some.inj q10
          exact hZ40 _ _ ⟨J32, hJ33, ce rfl (ce rfl (ce rfl (rfl))), hs35⟩
        · clear q9
          refine bar ?_
          obtain rfl := Option.some.inj q11
          exact hZ40 _ _ ⟨J32, hJ33, ce rfl (ce rfl (ce rfl (rfl))), hs35⟩
      · clear q6
        obtain ⟨r46, hm47, rfl⟩ := mapO q8
        clear q8
        obtain rfl : r46 = _ := hZ40
        refine bar ?_
        refine sqs ?_
        refine sqs ?_
        refine cdO hm47 (fun h48 q12 => ?_) (fun h48 q13 => ?_)
        · clear hm47
          refine nrmO [0, 5, 28, 29] [.string (bs x0), .int .i64 v36, .bool true, undef] (ce rfl (ce rfl (ce rfl (ce rfl (rfl))))) ?_
          intro e49
          refine barN [0, 5, 34] [.string (bs x0), .int .i64 v36, .bool true] (ce rfl (ce rfl (ce rfl (rfl)))) ?_
          intro e50
          refine bar ?_
          obtain rfl := Option.some.inj q12
          exact k J32 w34 (hJ6.trans hJ33) hs35
        · clear hm47
          refine nrmP [0, 5, 28] [.string (bs x0), .int .i64 v36, .bool false] (ce rfl (ce rfl (ce rfl (rfl)))) ?_
          intro e51
          refine reqO q13 (fun h52 q14 => ?_)
          clear q13
          obtain ⟨z53, h54, q15⟩ := bindO q14
          clear q14
          refine w_ref27_Kind (subS x0 (0 : Int) v36) z53 h54 (hg.le (hJ6.trans hJ33)) hX hs35 ?_
          intro J55 w57 hJ56 hs58
          refine barN [0, 5, 34] [.string (bs x0), .int .i64 v36, .bool (decide (z53 = (0 : Int)))] (ce rfl (ce rfl (ce rfl (rfl)))) ?_
          intro e59
          refine cdO q15 (fun h60 q16 => ?_) (fun h60 q17 => ?_)
          · clear q15
            refine sqs ?_
            refine bar ?_
            obtain rfl := Option.some.inj q16
            exact k J55 w57 (hJ6.trans (hJ33.trans hJ56)) hs58
          · clear q15
            refine bar ?_
            refine sqs ?_
            refine reqO q17 (fun h61 q18 => ?_)
            clear q17
            obtain ⟨z62, h63, q19⟩ := bindO q18
            clear q18
            refine w_ref27_Shown (subS x0 (IntKind.i64.wrap (v36 + (1 : Int))) (x0.length : Int)) (1 : Int) (65535 : Int) z62 h63 (hg.le (hJ6.trans (hJ33.trans hJ56))) hX hs58 ?_
            intro J64 w66 hJ65 hs67
            refine barN [0, 5, 7] [.string (bs x0), .int .i64 v36, .int .i64 z62] (ce rfl (ce rfl (ce rfl (rfl)))) ?_
            intro e68
            refine sqs ?_
            refine sqs ?_
            refine bar ?_
            refine cdO q19 (fun h69 q20 => ?_) (fun h69 q21 => ?_)
            · clear q19
              refine sqs ?_
              refine barN [2, 3, 4] [.string (bs ([] : List UInt8)), .int .i64 ((0 : Int)), .int .i64 ((25 : Int))] (ce rfl (ce rfl (ce rfl (rfl)))) ?_
              intro e70
              obtain rfl := Option.some.inj q20
              exact k J64 w66 (hJ6.trans (hJ33.trans (hJ56.trans hJ65))) hs67
            · clear q19
              refine bar ?_
              refine sqs ?_
              refine req h52 ?_
              refine barN [2, 3, 4] [.string (bs (subS x0 (0 : Int) v36)), .int .i64 z62, .int .i64 ((0 : Int))] (ce rfl (ce rfl (ce rfl (rfl)))) ?_
              intro e71
              obtain rfl := Option.some.inj q21
              exact k J64 w66 (hJ6.trans (hJ33.trans (hJ56.trans hJ65))) hs67
end B
end Go.Proofs.YtdbihpobfcbmeaaDoor
