/- Plain functions that stand for the program's, and the walks that show it: printed by gen.py. -/
import Derived.Test.YtdbihpobfcbmeaaDoorM4
import Derived.Test.YtdbihpobfcbmeaaDoorM2
set_option linter.unusedVariables false
set_option linter.unusedSimpArgs false
namespace Go.Proofs.YtdbihpobfcbmeaaDoor
namespace B
open Go Go.RowKit

def p_trail_Write_b1 (x0 : (List (List UInt8))) (v110 : Int) (v114 : (List UInt8)) : Option ((Int × (List UInt8)) ⊕ ((List UInt8))) :=
  (if v110 < ((x0.length : Nat) : Int) then ((getI x0 v110).bind fun x123 => ((p_strings_ReplaceAll x123 ([126] : List UInt8) ([126, 48] : List UInt8)).bind fun z134 => ((p_strings_ReplaceAll z134 ([47] : List UInt8) ([126, 49] : List UInt8)).bind fun z140 => (if ([47] : List UInt8).length + z140.length ≤ 9223372036854775807 then (if v114.length + (([47] : List UInt8) ++ z140).length ≤ 100000000000 then (some (.inl ((IntKind.i64.wrap (v110 + (1 : Int))), (v114 ++ (([47] : List UInt8) ++ z140))))) else none) else none)))) else (Option.map Sum.inr (if v114.length ≤ 100000000000 then (some v114) else none)))
def p_trail_Write (x0 : (List (List UInt8))) : Option ((List UInt8)) :=
  (loopO (fun (s : Int × (List UInt8)) => p_trail_Write_b1 x0 s.1 s.2) ((0 : Int), ([] : (List UInt8))))
set_option maxRecDepth 10000 in
set_option maxHeartbeats 4000000 in
theorem w_trail_Write {c : Cx} {I : Im} {L : List Ent} {w : World} {K : Value → World → Prop} (x0 : (List (List UInt8))) (r : (List UInt8)) (hf : p_trail_Write x0 = some r) (hg : Glo I) (hX : ∀ b, ¬ c.X b) (hs : St c I L w) {pa0 : Option Addr} {pn0 pc0 : Nat} (ph0 : RdL I 1 RdS (.slice pa0 pn0 pc0) x0)
    (k : ∀  (J : Im) (w' : World), Le I J → St c J L w' → K (.string (bs r)) w') :
    callW Tryd.prog 36 [.slice pa0 pn0 pc0] K w := by
  obtain rfl : pn0 = x0.length := ph0.lenEq
  unfold p_trail_Write at hf
  refine fn_of good Tryd.func36 rfl rfl rfl ?_
  refine sqs ?_
  refine bar ?_
  refine sqs ?_
  refine new hs ?_
  intro b1 w2 hs3
  have hs3 : St c I (.blk b1 (.cells ⟨[.pointer none, .slice none (0) 0]⟩ 115) :: L) w2 := hs3
  refine bar ?_
  refine sqs ?_
  refine sqs ?_
  refine barN [3, 6, 7, 8] [.pointer (some ⟨b1, 0, none⟩), .slice pa0 (x0.length) pc0, .int .i64 (((x0.length : Nat) : Int)), .int .i64 ((0 : Int))] (ce rfl (ce rfl (ce rfl (ce rfl (rfl))))) ?_
  intro e4
  refine blk ?_
  have hs105 := hs3.nil 5 1
  refine loopP hf [3, 6, 7, 8] (fun (s : Int × (List UInt8)) vs w' => ∃ (J : Im) (pv112 : Value) (a115 : Option Addr) (c116 : Nat) (cs117 : List Value), Le I J ∧ vs = [.pointer (some ⟨b1, 0, none⟩), .slice pa0 (x0.length) pc0, .int .i64 (((x0.length : Nat) : Int)), .int .i64 s.1] ∧ St c J (.row (.slice a115 (s.2.length) c116) 5 1 (s.2.length) cs117 :: .blk b1 (.cells ⟨[pv112, .slice a115 (s.2.length) c116]⟩ 115) :: L) w' ∧ (pv112 = .pointer none ∨ pv112 = .pointer (some ⟨b1, 0, none⟩)) ∧ RdC 1 RdU cs117 s.2) ⟨I, .pointer none, none, 0, [], Le.refl _, ce rfl (ce rfl (ce rfl (ce rfl (rfl)))), hs105, (.inl rfl), RdC.nil⟩ ?_
  clear hf
  rintro Z120 ⟨v110, v114⟩ t119 vs e263 w108 hI q1 hZ121
  try dsimp only at hI
  obtain ⟨J106, pv112, a115, c116, cs117, hJ107, rfl, hs109, h113, h118⟩ := hI
  replace q1 : p_trail_Write_b1 x0 v110 v114 = some t119 := q1
  unfold p_trail_Write_b1 at q1
  refine sqs ?_
  refine bar ?_
  refine sqs ?_
  refine cdO q1 (fun h122 q2 => ?_) (fun h122 q3 => ?_)
  · clear q1
    refine bar ?_
    refine sqs ?_
    refine blk ?_
    refine sqs ?_
    obtain ⟨x123, h129, q4⟩ := bindO q2
    clear q2
    obtain ⟨ad124, r125, h126, h127, h128, h130, h131, h132⟩ := RdL.getI (RdL.mono ph0 hJ107 (fun _ _ _ h => h)) h129
    obtain rfl : r125 = [.string (bs x123)] := h130
    refine idx h126 h127 h128 ?_
    refine ldc1 (h132 _ hs109.im 0 _ rfl) ?_
    refine barN [3, 5, 6, 7, 8] [.pointer (some ⟨b1, 0, none⟩), .string (bs x123), .slice pa0 (x0.length) pc0, .int .i64 (((x0.length : Nat) : Int)), .int .i64 v110] (ce rfl (ce rfl (ce rfl (ce rfl (ce rfl (rfl)))))) ?_
    intro e133
    obtain ⟨z134, h135, q5⟩ := bindO q4
    clear q4
    refine w_strings_ReplaceAll x123 ([126] : List UInt8) ([126, 48] : List UInt8) z134 h135 (hg.le hJ107) hX hs109 ?_
    intro J136 w138 hJ137 hs139
    obtain ⟨z140, h141, q6⟩ := bindO q5
    clear q5
    refine w_strings_ReplaceAll z134 ([47] : List UInt8) ([126, 49] : List UInt8) z140 h141 (hg.le (hJ107.trans hJ137)) hX hs139 ?_
    intro J142 w144 hJ143 hs145
    refine reqO q6 (fun h146 q7 => ?_)
    clear q6
    refine fn_of good Tryd.func90 rfl rfl rfl ?_
    refine sqs ?_
    refine bar ?_
    refine sqs ?_
    refine w_copyCheck 1 hs145 (h113) rfl ?_
    intro w147 hs148
    have hs148 : St c J142 (.row (.slice a115 (v114.length) c116) 5 1 (v114.length) cs117 :: .blk b1 (.cells ⟨[.pointer (some ⟨b1, 0, none⟩), .slice a115 (v114.length) c116]⟩ 115) :: L) w147 := hs148
    refine barN [0, 1] [.pointer (some ⟨b1, 0, none⟩), .string (bs (([47] : List UInt8) ++ z140))] (ce rfl (ce rfl (rfl))) ?_
    intro e149
    refine sqs ?_
    refine ld 1 hs148 rfl rfl rfl ?_
    obtain ⟨h154, q8⟩ := okO q7
    clear q7
    refine appS good 0 hs148 rfl h118 rfl rfl rfl rfl rfl rfl rfl h154 ?_
    intro a150 c151 cs152 w155 hs156 h153
    have hs156 : St c J142 (.row (.slice a150 ((v114 ++ (([47] : List UInt8) ++ z140)).length) c151) 5 1 ((v114 ++ (([47] : List UInt8) ++ z140)).length) cs152 :: .blk b1 (.cells ⟨[.pointer (some ⟨b1, 0, none⟩), .slice a115 (v114.length) c116]⟩ 115) :: L) w155 := hs156
    refine nrmO [1, 8, 14] [.string (bs (([47] : List UInt8) ++ z140)), .pointer (some ⟨b1, 0, none⟩), .slice a150 ((v114 ++ (([47] : List UInt8) ++ z140)).length) c151] (ce rfl (ce rfl (ce rfl (rfl)))) ?_
    intro e157
    refine sto 1 hs156 rfl rfl rfl ?_
    intro w158 hs159
    have hs159 : St c J142 (.row (.slice a150 ((v114 ++ (([47] : List UInt8) ++ z140)).length) c151) 5 1 ((v114 ++ (([47] : List UInt8) ++ z140)).length) cs152 :: .blk b1 (.cells ⟨[.pointer (some ⟨b1, 0, none⟩), .slice a150 ((v114 ++ (([47] : List UInt8) ++ z140)).length) c151]⟩ 115) :: L) w158 := hs159
    refine bar ?_
    refine sqs ?_
    refine barN [4, 5] [.int .i64 (((([47] : List UInt8) ++ z140).length : Int)), .nilIface] (ce rfl (ce rfl (rfl))) ?_
    intro e160
    refine bar ?_
    obtain rfl := Option.some.inj q8
    exact hZ121 _ _ ⟨J142, .pointer (some ⟨b1, 0, none⟩), a150, c151, cs152, (hJ107.trans (hJ137.trans hJ143)), ce rfl (ce rfl (ce rfl (ce rfl (rfl)))), hs159, (.inr rfl), h153⟩
  · clear q1
    obtain ⟨r161, hm162, rfl⟩ := mapO q3
    clear q3
    obtain rfl : r161 = _ := hZ121
    refine bar ?_
    refine sqs ?_
    refine fn_of good Tryd.func92 rfl rfl rfl ?_
    refine sqs ?_
    refine bar ?_
    refine sqs ?_
    obtain ⟨h248, q9⟩ := okO hm162
    clear hm162
    refine drawS good [0] [[], [0], [0, 1], [0, 1, 2], [0, 1, 2, 3], [], [5], [5, 6], [5, 6, 7], [5, 6, 7, 8], [0, 1, 2, 3, 4, 5, 6, 7, 8, 9], [0, 1, 2, 3, 4, 5, 6, 7, 8, 9, 10]] [pv (fun q163 => .pointer (some ⟨b1, 0, none⟩)), pv (fun q163 => .pointer (some ⟨b1, 0, none⟩)), pv (fun q163 => .pointer (some ⟨b1, 1, none⟩)), pv (fun q163 => .slice a115 (v114.length) c116), ⟨fun q163 => .pointer ((q163 4).a 0), fun q163 J => DatA a115 (v114.length) ((q163 4).a 0), fun q163 I J hl h => h, [], [0], fun _ _ => []⟩, pv (fun q163 => .pointer (some ⟨b1, 0, none⟩)), pv (fun q163 => .pointer (some ⟨b1, 0, none⟩)), pv (fun q163 => .pointer (some ⟨b1, 1, none⟩)), pv (fun q163 => .slice a115 (v114.length) c116), pv (fun q163 => .int .i64 (((v114.length : Nat) : Int))), ⟨fun q163 => .string (bs v114), fun q163 J => True, fun q163 I J hl h => h, [0], [], fun q163 _ => []⟩, pv (fun q163 => .string (bs v114))] (sel [[.row (.slice a115 (v114.length) c116) 5 1 (v114.length) cs117]] []) (R := .blk b1 (.cells ⟨[pv112, .slice a115 (v114.length) c116]⟩ 115) :: L) hs109 rfl ⟨fun _ _ _ _ _ _ _ h => ⟨Rc0, _, Le.refl _, rfl, trivial, h⟩, fun _ _ _ _ _ _ _ h => ⟨Rc0, _, Le.refl _, rfl, trivial, h⟩, fun _ _ _ _ _ _ _ h => ⟨Rc0, _, Le.refl _, rfl, trivial, h⟩, ?_, ?_, fun _ _ _ _ _ _ _ h => ⟨Rc0, _, Le.refl _, rfl, trivial, h⟩, fun _ _ _ _ _ _ _ h => ⟨Rc0, _, Le.refl _, rfl, trivial, h⟩, fun _ _ _ _ _ _ _ h => ⟨Rc0, _, Le.refl _, rfl, trivial, h⟩, ?_, fun _ _ _ _ _ _ _ h => ⟨Rc0, _, Le.refl _, rfl, trivial, h⟩, ?_, fun _ _ _ _ _ _ _ h => ⟨Rc0, _, Le.refl _, rfl, trivial, h⟩, trivial⟩ ?_
    · intro q163 J185 Lo190 e189 w188 hJ186 hF191 hs187
      have hs187 : St c J185 (.blk b1 (.cells ⟨[pv112, .slice a115 (v114.length) c116]⟩ 115) :: (L ++ Lo190)) w188 := hs187
      refine ld 0 hs187 rfl rfl rfl ?_
      exact ⟨Rc0, J185, (Le.refl _), rfl, trivial, hs187⟩
    · intro q163 J192 Lo197 e196 w195 hJ193 hF198 hs194
      have hs194 : St c J192 (.row (.slice a115 (v114.length) c116) 5 1 (v114.length) cs117 :: .blk b1 (.cells ⟨[pv112, .slice a115 (v114.length) c116]⟩ 115) :: (L ++ Lo197)) w195 := hs194
      refine uSD good 0 hs194 rfl rfl ?_
      intro a201 w199 hs200 h202
      have hs200 : St c J192 (.row (.slice a115 (v114.length) c116) 5 1 (v114.length) cs117 :: .blk b1 (.cells ⟨[pv112, .slice a115 (v114.length) c116]⟩ 115) :: (L ++ Lo197)) w199 := hs200
      exact ⟨⟨sel [a201] none, sel [] 0, sel [] []⟩, J192, (Le.refl _), rfl, h202, hs200⟩
    · intro q163 J225 Lo230 e229 w228 hJ226 hF231 hs227
      have hs227 : St c J225 (.blk b1 (.cells ⟨[pv112, .slice a115 (v114.length) c116]⟩ 115) :: (L ++ Lo230)) w228 := hs227
      refine ld 0 hs227 rfl rfl rfl ?_
      exact ⟨Rc0, J225, (Le.refl _), rfl, trivial, hs227⟩
    · intro q163 J239 Lo244 e243 w242 hJ240 hF245 hs241
      have hs241 : St c J239 (.row (.slice a115 (v114.length) c116) 5 1 (v114.length) cs117 :: .blk b1 (.cells ⟨[pv112, .slice a115 (v114.length) c116]⟩ 115) :: (L ++ Lo244)) w242 := hs241
      have h203 : DatA a115 (v114.length) ((q163 4).a 0) := (hF245 4 _ rfl rfl)
      refine uStr good 0 hs241 rfl h118 rfl h203 rfl rfl h248 ?_
      intro w246 hs247
      have hs247 : St c J239 (.blk b1 (.cells ⟨[pv112, .slice a115 (v114.length) c116]⟩ 115) :: (L ++ Lo244)) w246 := hs247
      exact ⟨Rc0, J239, (Le.refl _), rfl, trivial, hs247⟩
    intro q163 J256 e260 w259 hJ257 hF261 hs258
    have hs258 : St c J256 (.blk b1 (.cells ⟨[pv112, .slice a115 (v114.length) c116]⟩ 115) :: L) w259 := hs258
    have h203 : DatA a115 (v114.length) ((q163 4).a 0) := (hF261 4 _ rfl)
    refine barN [2] [.string (bs v114)] (ce rfl (rfl)) ?_
    intro e262
    refine bar ?_
    obtain rfl := Option.some.inj q9
    exact k J256 w259 (hJ107.trans hJ257) (hs258.drop 0)
def p_trail_Read_b1 (z7 : (List (List UInt8))) (v149 : (List (List UInt8))) (v154 : Int) : Option (((List (List UInt8)) × Int) ⊕ ((List (List UInt8)) × Int)) :=
  (if v154 < ((z7.length : Nat) : Int) then ((getI z7 v154).bind fun x159 => ((p_strings_ReplaceAll x159 ([126, 49] : List UInt8) ([47] : List UInt8)).bind fun z170 => ((p_strings_ReplaceAll z170 ([126, 48] : List UInt8) ([126] : List UInt8)).bind fun z176 => ((p_trail_Write [z176]).bind fun z191 => (if ([47] : List UInt8).length + x159.length ≤ 9223372036854775807 then (if z191 = (([47] : List UInt8) ++ x159) then (if v149.length + ([z176] : List (List UInt8)).length ≤ 100000000000 then (some (.inl ((v149 ++ [z176]), (IntKind.i64.wrap (v154 + (1 : Int)))))) else none) else (Option.map Sum.inr (some (([] : List (List UInt8)), (6 : Int))))) else none))))) else (Option.map Sum.inr (some (v149, (0 : Int)))))
def p_trail_Read (x0 : (List UInt8)) : Option ((List (List UInt8)) × Int) :=
  (if x0 = ([] : List UInt8) then (some (([] : List (List UInt8)), (0 : Int))) else (if 0 ≤ (0 : Int) ∧ (0 : Int) < (x0.length : Int) then (if ((x0.getD (0 : Int).toNat 0).toNat : Int) = (47 : Int) then (if 0 ≤ (1 : Int) ∧ (1 : Int) ≤ (x0.length : Int) ∧ (x0.length : Int) ≤ (x0.length : Int) then ((p_strings_Split (subS x0 (1 : Int) (x0.length : Int)) ([47] : List UInt8)).bind fun z7 => (loopO (fun (s : (List (List UInt8)) × Int) => p_trail_Read_b1 z7 s.1 s.2) (([] : (List (List UInt8))), (0 : Int)))) else none) else (some (([] : List (List UInt8)), (6 : Int)))) else none))
set_option maxRecDepth 10000 in
set_option maxHeartbeats 4000000 in
theorem w_trail_Read {c : Cx} {I : Im} {L : List Ent} {w : World} {K : Value → World → Prop} (x0 : (List UInt8)) (r : (List (List UInt8)) × Int) (hf : p_trail_Read x0 = some r) (hg : Glo I) (hX : ∀ b, ¬ c.X b) (hs : St c I L w)  
    (k : ∀ (ra0 : Option Addr) (rc0 : Nat) (J : Im) (w' : World), Le I J → St c J L w' → RdL J 1 RdS (.slice ra0 r.1.length rc0) r.1 → K (.tuple ⟨[.slice ra0 r.1.length rc0, .int .i64 r.2]⟩) w') :
    callW Tryd.prog 37 [.string (bs x0)] K w := by
  unfold p_trail_Read at hf
  refine fn_of good Tryd.func37 rfl rfl rfl ?_
  refine sqs ?_
  refine bar ?_
  refine sqs ?_
  refine sqs ?_
  refine barN [0, 9] [.string (bs x0), .bool (decide (x0 = ([] : List UInt8)))] (ce rfl (ce rfl (rfl))) ?_
  intro e1
  refine cdO hf (fun h2 q1 => ?_) (fun h2 q2 => ?_)
  · clear hf
    refine sqs ?_
    refine bar ?_
    obtain rfl := Option.some.inj q1
    exact k _ _ I w (Le.refl _) hs (RdL.nil 0 none)
  · clear hf
    refine bar ?_
    refine sqs ?_
    refine sqs ?_
    refine reqO q2 (fun h3 q3 => ?_)
    clear q2
    refine bar ?_
    refine cnO q3 (fun h4 q4 => ?_) (fun h4 q5 => ?_)
    · clear q3
      refine bar ?_
      refine sqs ?_
      refine barN [0, 4] [.string (bs x0), .slice none (0) 0] (ce rfl (ce rfl (rfl))) ?_
      intro e5
      refine sqs ?_
      refine sqs ?_
      refine reqO q4 (fun h6 q6 => ?_)
      clear q4
      obtain ⟨z7, h8, q7⟩ := bindO q6
      clear q6
      refine w_strings_Split (subS x0 (1 : Int) (x0.length : Int)) ([47] : List UInt8) z7 h8 hg hX hs ?_
      intro a13 c14 J9 w11 hJ10 hs12 h15
      refine barN [4, 15, 16, 17] [.slice none (0) 0, .slice a13 (z7.length) c14, .int .i64 (((z7.length : Nat) : Int)), .int .i64 ((0 : Int))] (ce rfl (ce rfl (ce rfl (ce rfl (rfl))))) ?_
      intro e16
      refine blk ?_
      have hs144 := hs12.nil 9 1
      refine loopP q7 [4, 15, 16, 17] (fun (s : (List (List UInt8)) × Int) vs w' => ∃ (J : Im) (a150 : Option Addr) (c151 : Nat) (cs152 : List Value), Le J9 J ∧ vs = [.slice a150 (s.1.length) c151, .slice a13 (z7.length) c14, .int .i64 (((z7.length : Nat) : Int)), .int .i64 s.2] ∧ St c J (.row (.slice a150 (s.1.length) c151) 9 1 (s.1.length) cs152 :: L) w' ∧ RdC 1 RdS cs152 s.1) ⟨J9, none, 0, [], Le.refl _, ce rfl (ce rfl (ce rfl (ce rfl (rfl)))), hs144, RdC.nil⟩ ?_
      clear q7
      rintro Z156 ⟨v149, v154⟩ t155 vs e221 w147 hI q8 hZ157
      try dsimp only at hI
      obtain ⟨J145, a150, c151, cs152, hJ146, rfl, hs148, h153⟩ := hI
      replace q8 : p_trail_Read_b1 z7 v149 v154 = some t155 := q8
      unfold p_trail_Read_b1 at q8
      refine sqs ?_
      refine bar ?_
      refine sqs ?_
      refine cdO q8 (fun h158 q9 => ?_) (fun h158 q10 => ?_)
      · clear q8
        refine bar ?_
        refine sqs ?_
        refine blk ?_
        refine sqs ?_
        obtain ⟨x159, h165, q11⟩ := bindO q9
        clear q9
        obtain ⟨ad160, r161, h162, h163, h164, h166, h167, h168⟩ := RdL.getI (RdL.mono h15 hJ146 (fun _ _ _ h => h)) h165
        obtain rfl : r161 = [.string (bs x159)] := h166
        refine idx h162 h163 h164 ?_
        refine ldc1 (h168 _ hs148.im 0 _ rfl) ?_
        refine barN [4, 6, 15, 16, 17] [.slice a150 (v149.length) c151, .string (bs x159), .slice a13 (z7.length) c14, .int .i64 (((z7.length : Nat) : Int)), .int .i64 v154] (ce rfl (ce rfl (ce rfl (ce rfl (ce rfl (rfl)))))) ?_
        intro e169
        refine sqs ?_
        obtain ⟨z170, h171, q12⟩ := bindO q11
        clear q11
        refine w_strings_ReplaceAll x159 ([126, 49] : List UInt8) ([47] : List UInt8) z170 h171 (hg.le (hJ10.trans hJ146)) hX hs148 ?_
        intro J172 w174 hJ173 hs175
        obtain ⟨z176, h177, q13⟩ := bindO q12
        clear q12
        refine w_strings_ReplaceAll z170 ([126, 48] : List UInt8) ([126] : List UInt8) z176 h177 (hg.le (hJ10.trans (hJ146.trans hJ173))) hX hs175 ?_
        intro J178 w180 hJ179 hs181
        refine barN [4, 6, 7, 15, 16, 17] [.slice a150 (v149.length) c151, .string (bs x159), .string (bs z176), .slice a13 (z7.length) c14, .int .i64 (((z7.length : Nat) : Int)), .int .i64 v154] (ce rfl (ce rfl (ce rfl (ce rfl (ce rfl (ce rfl (rfl))))))) ?_
        intro e182
        refine sqs ?_
        refine sqs ?_
        refine new hs181 ?_
        intro b183 w184 hs185
        have hs185 : St c J178 (.blk b183 (.cells ⟨[.string (bs z176)]⟩ 9) :: .row (.slice a150 (v149.length) c151) 9 1 (v149.length) cs152 :: L) w184 := hs185
        have h190 : RdC 1 RdS [.string (bs z176)] [z176] := (RdC.snoc (sz := 1) (R := RdS) (RdC.nil (sz := 1) (R := RdS)) rfl rfl)
        obtain ⟨J186, hJ187, hs188, h189⟩ := hs185.fixBlk (i := 0) rfl hX
        have h190 := RdL.lit h189 h190 1 (Nat.le_refl _)
        obtain ⟨z191, h192, q14⟩ := bindO q13
        clear q13
        refine w_trail_Write [z176] z191 h192 (hg.le (hJ10.trans (hJ146.trans (hJ173.trans (hJ179.trans hJ187))))) hX hs188 h190 ?_
        intro J193 w195 hJ194 hs196
        refine reqO q14 (fun h197 q15 => ?_)
        clear q14
        refine barN [4, 7, 15, 16, 17, 29] [.slice a150 (v149.length) c151, .string (bs z176), .slice a13 (z7.length) c14, .int .i64 (((z7.length : Nat) : Int)), .int .i64 v154, .bool (!decide (z191 = (([47] : List UInt8) ++ x159)))] (ce rfl (ce rfl (ce rfl (ce rfl (ce rfl (ce rfl (rfl))))))) ?_
        intro e198
        refine cnO q15 (fun h199 q16 => ?_) (fun h199 q17 => ?_)
        · clear q15
          refine bar ?_
          refine new hs196 ?_
          intro b200 w201 hs202
          have hs202 : St c J193 (.blk b200 (.cells ⟨[.string (bs z176)]⟩ 9) :: .row (.slice a150 (v149.length) c151) 9 1 (v149.length) cs152 :: L) w201 := hs202
          have h203 : RdC 1 RdS [.string (bs z176)] [z176] := (RdC.snoc (sz := 1) (R := RdS) (RdC.nil (sz := 1) (R := RdS)) rfl rfl)
          obtain ⟨h208, q18⟩ := okO q16
          clear q16
          refine appO good 1 0 hs202 rfl rfl h153 rfl h203 rfl rfl rfl rfl rfl rfl rfl h208 ?_
          intro a204 c205 cs206 w209 hs210 h207
          have hs210 : St c J193 (.row (.slice a204 ((v149 ++ [z176]).length) c205) 9 1 ((v149 ++ [z176]).length) cs206 :: L) w209 := hs210.drop 0
          refine barN [4, 15, 16, 17] [.slice a204 ((v149 ++ [z176]).length) c205, .slice a13 (z7.length) c14, .int .i64 (((z7.length : Nat) : Int)), .int .i64 v154] (ce rfl (ce rfl (ce rfl (ce rfl (rfl))))) ?_
          intro e211
          obtain rfl := Option.some.inj q18
          exact hZ157 _ _ ⟨J193, a204, c205, cs206, (hJ146.trans (hJ173.trans (hJ179.trans (hJ187.trans hJ194)))), ce rfl (ce rfl (ce rfl (ce rfl (rfl)))), hs210, h207⟩
        · clear q15
          refine sqs ?_
          refine bar ?_
          obtain ⟨r212, hm213, rfl⟩ := mapO q17
          clear q17
          obtain rfl : r212 = _ := hZ157
          obtain rfl := Option.some.inj hm213
          exact k _ _ J193 w195 (hJ10.trans (hJ146.trans (hJ173.trans (hJ179.trans (hJ187.trans hJ194))))) (hs196.drop 0) (RdL.nil 0 none)
      · clear q8
        obtain ⟨r214, hm215, rfl⟩ := mapO q10
        clear q10
        obtain rfl : r214 = _ := hZ157
        refine bar ?_
        refine sqs ?_
        refine barN [2, 3] [.slice a150 (v149.length) c151, .int .i64 ((0 : Int))] (ce rfl (ce rfl (rfl))) ?_
        intro e216
        obtain ⟨J217, hJ218, hs219, h220⟩ := hs148.fixRow (i := 0) rfl hX h153 rfl
        obtain rfl := Option.some.inj hm215
        exact k _ _ J217 w147 (hJ10.trans (hJ146.trans hJ218)) hs219 h220
    · clear q3
      refine sqs ?_
      refine barN [2, 3] [.slice none (0) 0, .int .i64 ((6 : Int))] (ce rfl (ce rfl (rfl))) ?_
      intro e222
      obtain rfl := Option.some.inj q5
      exact k _ _ I w (Le.refl _) hs (RdL.nil 0 none)
def p_tree_Map_b1 (x0 : (List Nd)) (v509 : Int) (v510 : (List (List UInt8))) (v515 : (List Nd)) : Option ((Int × (List (List UInt8)) × (List Nd)) ⊕ (Nd)) :=
  (if (IntKind.i64.wrap (v509 + (1 : Int))) < ((x0.length : Nat) : Int) then ((getI x0 v509).bind fun x561 => (if v510.length + ([x561.s] : List (List UInt8)).length ≤ 100000000000 then ((getI x0 (IntKind.i64.wrap (v509 + (1 : Int)))).bind fun x683 => (if v515.length + ([x683] : List Nd).length ≤ 100000000000 then (some (.inl ((IntKind.i64.wrap (v509 + (2 : Int))), (v510 ++ [x561.s]), (v515 ++ [x683])))) else none)) else none)) else (Option.map Sum.inr (some (Nd.mk (6 : Int) (0 : Int) ([] : List UInt8) v510 v515))))
def p_tree_Map (x0 : (List Nd)) : Option (Nd) :=
  (loopO (fun (s : Int × (List (List UInt8)) × (List Nd)) => p_tree_Map_b1 x0 s.1 s.2.1 s.2.2) ((0 : Int), ([] : (List (List UInt8))), ([] : (List Nd))))
set_option maxRecDepth 10000 in
set_option maxHeartbeats 4000000 in
theorem w_tree_Map {c : Cx} {I : Im} {L : List Ent} {w : World} {K : Value → World → Prop} (x0 : (List Nd)) (r : Nd) (hf : p_tree_Map x0 = some r) (hg : Glo I) (hX : ∀ b, ¬ c.X b) (hs : St c I L w) {pa0 : Option Addr} {pn0 pc0 : Nat} (ph0 : RdL I 5 (RdN I) (.slice pa0 pn0 pc0) x0)
    (k : ∀ (rs0 : List Value) (J : Im) (w' : World), Le I J → St c J L w' → (RdN J) rs0 r → K (.agg ⟨rs0⟩) w') :
    callW Tryd.prog 87 [.slice pa0 pn0 pc0] K w := by
  obtain rfl : pn0 = x0.length := ph0.lenEq
  unfold p_tree_Map at hf
  refine fn_of good Tryd.func87 rfl rfl rfl ?_
  refine sqs ?_
  refine new hs ?_
  intro b1 w2 hs3
  have hs3 : St c I (.blk b1 (.cells ⟨[.int .i64 ((0 : Int)), .int .i64 ((0 : Int)), .string (bs ([] : List UInt8)), .slice none (0) 0, .slice none (0) 0]⟩ 30) :: L) w2 := hs3
  refine bar ?_
  refine sqs ?_
  refine new hs3 ?_
  intro b4 w5 hs6
  have hs6 : St c I (.blk b4 (.cells ⟨[.int .i64 ((0 : Int)), .int .i64 ((0 : Int)), .string (bs ([] : List UInt8)), .slice none (0) 0, .slice none (0) 0]⟩ 30) :: .blk b1 (.cells ⟨[.int .i64 ((0 : Int)), .int .i64 ((0 : Int)), .string (bs ([] : List UInt8)), .slice none (0) 0, .slice none (0) 0]⟩ 30) :: L) w5 := hs6
  refine sto 0 hs6 rfl rfl rfl ?_
  intro w7 hs8
  have hs8 : St c I (.blk b4 (.cells ⟨[.int .i64 ((6 : Int)), .int .i64 ((0 : Int)), .string (bs ([] : List UInt8)), .slice none (0) 0, .slice none (0) 0]⟩ 30) :: .blk b1 (.cells ⟨[.int .i64 ((0 : Int)), .int .i64 ((0 : Int)), .string (bs ([] : List UInt8)), .slice none (0) 0, .slice none (0) 0]⟩ 30) :: L) w7 := hs8
  refine barN [0, 2, 3] [.slice pa0 (x0.length) pc0, .pointer (some ⟨b1, 0, none⟩), .pointer (some ⟨b4, 0, none⟩)] (ce rfl (ce rfl (ce rfl (rfl)))) ?_
  intro e9
  refine sqs ?_
  refine sqs ?_
  refine bar ?_
  refine blk ?_
  have hs502 := hs8.nil 9 1
  have hs504 := hs502.nil 30 5
  refine loopP hf [0, 2, 3, 4] (fun (s : Int × (List (List UInt8)) × (List Nd)) vs w' => ∃ (J : Im) (a511 : Option Addr) (c512 : Nat) (cs513 : List Value) (a516 : Option Addr) (c517 : Nat) (cs518 : List Value), Le I J ∧ vs = [.slice pa0 (x0.length) pc0, .pointer (some ⟨b1, 0, none⟩), .pointer (some ⟨b4, 0, none⟩), .int .i64 s.1] ∧ St c J (.row (.slice a516 (s.2.2.length) c517) 30 5 (s.2.2.length) cs518 :: .row (.slice a511 (s.2.1.length) c512) 9 1 (s.2.1.length) cs513 :: .blk b4 (.cells ⟨[.int .i64 ((6 : Int)), .int .i64 ((0 : Int)), .string (bs ([] : List UInt8)), .slice a511 (s.2.1.length) c512, .slice a516 (s.2.2.length) c517]⟩ 30) :: .blk b1 (.cells ⟨[.int .i64 ((0 : Int)), .int .i64 ((0 : Int)), .string (bs ([] : List UInt8)), .slice none (0) 0, .slice none (0) 0]⟩ 30) :: L) w' ∧ RdC 1 RdS cs513 s.2.1 ∧ RdC 5 (RdN J) cs518 s.2.2) ⟨I, none, 0, [], none, 0, [], Le.refl _, ce rfl (ce rfl (ce rfl (ce rfl (rfl)))), hs504, RdC.nil, RdC.nil⟩ ?_
  clear hf
  rintro Z521 ⟨v509, v510, v515⟩ t520 vs e767 w507 hI q1 hZ522
  try dsimp only at hI
  obtain ⟨J505, a511, c512, cs513, a516, c517, cs518, hJ506, rfl, hs508, h514, h519⟩ := hI
  replace q1 : p_tree_Map_b1 x0 v509 v510 v515 = some t520 := q1
  unfold p_tree_Map_b1 at q1
  refine sqs ?_
  refine sqs ?_
  refine barN [0, 2, 3, 4, 10] [.slice pa0 (x0.length) pc0, .pointer (some ⟨b1, 0, none⟩), .pointer (some ⟨b4, 0, none⟩), .int .i64 v509, .bool (decide ((IntKind.i64.wrap (v509 + (1 : Int))) < ((x0.length : Nat) : Int)))] (ce rfl (ce rfl (ce rfl (ce rfl (ce rfl (rfl)))))) ?_
  intro e523
  refine cdO q1 (fun h524 q2 => ?_) (fun h524 q3 => ?_)
  · clear q1
    refine bar ?_
    refine sqs ?_
    refine blk ?_
    refine sqs ?_
    obtain ⟨x561, h567, q4⟩ := bindO q2
    clear q2
    obtain ⟨ad562, r563, h564, h565, h566, h568, h569, h570⟩ := RdL.getI (RdL.mono ph0 hJ506 (fun _ _ _ h => RdN.up hJ506 h)) h567
    obtain ⟨a571, c572, a574, c575, rfl, h573, h576⟩ := h568.open
    obtain ⟨h613, q5⟩ := okO q4
    clear q4
    refine drawS good [2, 0, 1] [[], [0], [], [], [2, 3], [2, 3, 4], [2, 3, 4, 5], [2, 3, 4, 5, 6], [0, 1, 2, 3, 4, 5, 6, 7], [0, 1, 2, 3, 4, 5, 6, 7, 8], [0, 1, 2, 3, 4, 5, 6, 7, 8, 9]] [pv (fun q525 => .pointer (some ⟨b4, 3, none⟩)), ⟨fun q525 => .slice a511 (v510.length) c512, fun q525 J => True, fun q525 I J hl h => h, [], [1], fun _ _ => []⟩, pv (fun q525 => .slice pa0 (x0.length) pc0), pv (fun q525 => .int .i64 v509), pv (fun q525 => .pointer (some (ad562.add ((v509).toNat * 5)))), pv (fun q525 => .pointer (some (addA (ad562.add ((v509).toNat * 5)) 2))), pv (fun q525 => .string (bs x561.s)), ⟨fun q525 => .slice (some ⟨((q525 7).n 0), 0, none⟩) 1 1, fun q525 J => True, fun q525 I J hl h => h, [2], [], fun q525 _ => [.blk ((q525 7).n 0) (.cells ⟨[.string (bs x561.s)]⟩ 9)]⟩, ⟨fun q525 => .slice ((q525 8).a 0) ((v510 ++ [x561.s]).length) ((q525 8).n 0), fun q525 J => RdC 1 RdS ((q525 8).l 0) (v510 ++ [x561.s]), fun q525 I J hl h => h, [0, 2], [], fun q525 r => match Nat.beq r 0 with | true => [.row (.slice ((q525 8).a 0) ((v510 ++ [x561.s]).length) ((q525 8).n 0)) 9 1 ((v510 ++ [x561.s]).length) ((q525 8).l 0)] | false => []⟩, pv (fun q525 => .pointer (some ⟨b4, 3, none⟩)), ⟨fun q525 => undef, fun q525 J => True, fun q525 I J hl h => h, [1], [], fun q525 _ => [.blk b4 (.cells ⟨[.int .i64 ((6 : Int)), .int .i64 ((0 : Int)), .string (bs ([] : List UInt8)), .slice ((q525 8).a 0) ((v510 ++ [x561.s]).length) ((q525 8).n 0), .slice a516 (v515.length) c517]⟩ 30)]⟩] (sel [[.row (.slice a511 (v510.length) c512) 9 1 (v510.length) cs513], [.blk b4 (.cells ⟨[.int .i64 ((6 : Int)), .int .i64 ((0 : Int)), .string (bs ([] : List UInt8)), .slice a511 (v510.length) c512, .slice a516 (v515.length) c517]⟩ 30)]] []) (R := .row (.slice a516 (v515.length) c517) 30 5 (v515.length) cs518 :: .blk b1 (.cells ⟨[.int .i64 ((0 : Int)), .int .i64 ((0 : Int)), .string (bs ([] : List UInt8)), .slice none (0) 0, .slice none (0) 0]⟩ 30) :: L) ((((hs508.front 3 rfl).front 1 rfl).front 3 rfl).front 3 rfl) rfl ⟨fun _ _ _ _ _ _ _ h => ⟨Rc0, _, Le.refl _, rfl, trivial, h⟩, ?_, fun _ _ _ _ _ _ _ h => ⟨Rc0, _, Le.refl _, rfl, trivial, h⟩, fun _ _ _ _ _ _ _ h => ⟨Rc0, _, Le.refl _, rfl, trivial, h⟩, ?_, fun _ _ _ _ _ _ _ h => ⟨Rc0, _, Le.refl _, rfl, trivial, h⟩, ?_, ?_, ?_, fun _ _ _ _ _ _ _ h => ⟨Rc0, _, Le.refl _, rfl, trivial, h⟩, ?_, trivial⟩ ?_
    · intro q525 J533 Lo538 e537 w536 hJ534 hF539 hs535
      have hs535 : St c J533 (.blk b4 (.cells ⟨[.int .i64 ((6 : Int)), .int .i64 ((0 : Int)), .string (bs ([] : List UInt8)), .slice a511 (v510.length) c512, .slice a516 (v515.length) c517]⟩ 30) :: .row (.slice a516 (v515.length) c517) 30 5 (v515.length) cs518 :: .blk b1 (.cells ⟨[.int .i64 ((0 : Int)), .int .i64 ((0 : Int)), .string (bs ([] : List UInt8)), .slice none (0) 0, .slice none (0) 0]⟩ 30) :: (L ++ Lo538)) w536 := hs535
      refine ld 0 hs535 rfl rfl rfl ?_
      exact ⟨Rc0, J533, (Le.refl _), rfl, trivial, hs535⟩
    · intro q525 J554 Lo559 e558 w557 hJ555 hF560 hs556
      have hs556 : St c J554 (.row (.slice a516 (v515.length) c517) 30 5 (v515.length) cs518 :: .blk b1 (.cells ⟨[.int .i64 ((0 : Int)), .int .i64 ((0 : Int)), .string (bs ([] : List UInt8)), .slice none (0) 0, .slice none (0) 0]⟩ 30) :: (L ++ Lo559)) w557 := hs556
      refine idx h564 h565 h566 ?_
      exact ⟨Rc0, J554, (Le.refl _), rfl, trivial, hs556⟩
    · intro q525 J584 Lo589 e588 w587 hJ585 hF590 hs586
      have hs586 : St c J584 (.row (.slice a516 (v515.length) c517) 30 5 (v515.length) cs518 :: .blk b1 (.cells ⟨[.int .i64 ((0 : Int)), .int .i64 ((0 : Int)), .string (bs ([] : List UInt8)), .slice none (0) 0, .slice none (0) 0]⟩ 30) :: (L ++ Lo589)) w587 := hs586
      refine ldc1 (h570 _ (Imm.le hJ585 hs586.im) 2 _ rfl) ?_
      exact ⟨Rc0, J584, (Le.refl _), rfl, trivial, hs586⟩
    · intro q525 J591 Lo596 e595 w594 hJ592 hF597 hs593
      have hs593 : St c J591 (.row (.slice a516 (v515.length) c517) 30 5 (v515.length) cs518 :: .blk b1 (.cells ⟨[.int .i64 ((0 : Int)), .int .i64 ((0 : Int)), .string (bs ([] : List UInt8)), .slice none (0) 0, .slice none (0) 0]⟩ 30) :: (L ++ Lo596)) w594 := hs593
      refine new hs593 ?_
      intro b598 w599 hs600
      have hs600 : St c J591 (.blk b598 (.cells ⟨[.string (bs x561.s)]⟩ 9) :: .row (.slice a516 (v515.length) c517) 30 5 (v515.length) cs518 :: .blk b1 (.cells ⟨[.int .i64 ((0 : Int)), .int .i64 ((0 : Int)), .string (bs ([] : List UInt8)), .slice none (0) 0, .slice none (0) 0]⟩ 30) :: (L ++ Lo596)) w599 := hs600
      exact ⟨⟨sel [] none, sel [b598] 0, sel [] []⟩, J591, (Le.refl _), rfl, trivial, hs600⟩
    · intro q525 J601 Lo606 e605 w604 hJ602 hF607 hs603
      have hs603 : St c J601 (.row (.slice a511 (v510.length) c512) 9 1 (v510.length) cs513 :: .blk ((q525 7).n 0) (.cells ⟨[.string (bs x561.s)]⟩ 9) :: .row (.slice a516 (v515.length) c517) 30 5 (v515.length) cs518 :: .blk b1 (.cells ⟨[.int .i64 ((0 : Int)), .int .i64 ((0 : Int)), .string (bs ([] : List UInt8)), .slice none (0) 0, .slice none (0) 0]⟩ 30) :: (L ++ Lo606)) w604 := hs603
      have h608 : RdC 1 RdS [.string (bs x561.s)] [x561.s] := (RdC.snoc (sz := 1) (R := RdS) (RdC.nil (sz := 1) (R := RdS)) rfl rfl)
      refine appO good 0 1 hs603 rfl rfl h514 rfl h608 rfl rfl rfl rfl rfl rfl rfl h613 ?_
      intro a609 c610 cs611 w614 hs615 h612
      have hs615 : St c J601 (.row (.slice a609 ((v510 ++ [x561.s]).length) c610) 9 1 ((v510 ++ [x561.s]).length) cs611 :: .row (.slice a516 (v515.length) c517) 30 5 (v515.length) cs518 :: .blk b1 (.cells ⟨[.int .i64 ((0 : Int)), .int .i64 ((0 : Int)), .string (bs ([] : List UInt8)), .slice none (0) 0, .slice none (0) 0]⟩ 30) :: (L ++ Lo606)) w614 := hs615.drop 1
      exact ⟨⟨sel [a609] none, sel [c610] 0, sel [cs611] []⟩, J601, (Le.refl _), rfl, h612, hs615⟩
    · intro q525 J624 Lo629 e628 w627 hJ625 hF630 hs626
      have hs626 : St c J624 (.blk b4 (.cells ⟨[.int .i64 ((6 : Int)), .int .i64 ((0 : Int)), .string (bs ([] : List UInt8)), .slice a511 (v510.length) c512, .slice a516 (v515.length) c517]⟩ 30) :: .row (.slice a516 (v515.length) c517) 30 5 (v515.length) cs518 :: .blk b1 (.cells ⟨[.int .i64 ((0 : Int)), .int .i64 ((0 : Int)), .string (bs ([] : List UInt8)), .slice none (0) 0, .slice none (0) 0]⟩ 30) :: (L ++ Lo629)) w627 := hs626
      refine sto 0 hs626 rfl rfl rfl ?_
      intro w631 hs632
      have hs632 : St c J624 (.blk b4 (.cells ⟨[.int .i64 ((6 : Int)), .int .i64 ((0 : Int)), .string (bs ([] : List UInt8)), .slice ((q525 8).a 0) ((v510 ++ [x561.s]).length) ((q525 8).n 0), .slice a516 (v515.length) c517]⟩ 30) :: .row (.slice a516 (v515.length) c517) 30 5 (v515.length) cs518 :: .blk b1 (.cells ⟨[.int .i64 ((0 : Int)), .int .i64 ((0 : Int)), .string (bs ([] : List UInt8)), .slice none (0) 0, .slice none (0) 0]⟩ 30) :: (L ++ Lo629)) w631 := hs632
      exact ⟨Rc0, J624, (Le.refl _), rfl, trivial, hs632⟩
    intro q525 J633 e637 w636 hJ634 hF638 hs635
    have hs635 : St c J633 (.row (.slice ((q525 8).a 0) ((v510 ++ [x561.s]).length) ((q525 8).n 0)) 9 1 ((v510 ++ [x561.s]).length) ((q525 8).l 0) :: .blk b4 (.cells ⟨[.int .i64 ((6 : Int)), .int .i64 ((0 : Int)), .string (bs ([] : List UInt8)), .slice ((q525 8).a 0) ((v510 ++ [x561.s]).length) ((q525 8).n 0), .slice a516 (v515.length) c517]⟩ 30) :: .row (.slice a516 (v515.length) c517) 30 5 (v515.length) cs518 :: .blk b1 (.cells ⟨[.int .i64 ((0 : Int)), .int .i64 ((0 : Int)), .string (bs ([] : List UInt8)), .slice none (0) 0, .slice none (0) 0]⟩ 30) :: L) w636 := hs635
    have h616 : RdC 1 RdS ((q525 8).l 0) (v510 ++ [x561.s]) := (hF638 8 _ rfl)
    refine barN [0, 2, 3, 4] [.slice pa0 (x0.length) pc0, .pointer (some ⟨b1, 0, none⟩), .pointer (some ⟨b4, 0, none⟩), .int .i64 v509] (ce rfl (ce rfl (ce rfl (ce rfl (rfl))))) ?_
    intro e639
    obtain ⟨x683, h689, q6⟩ := bindO q5
    clear q5
    obtain ⟨ad684, r685, h686, h687, h688, h690, h691, h692⟩ := RdL.getI (RdL.mono ph0 (hJ506.trans hJ634) (fun _ _ _ h => RdN.up (hJ506.trans hJ634) h)) h689
    obtain ⟨a693, c694, a696, c697, rfl, h695, h698⟩ := h690.open
    obtain ⟨h728, q7⟩ := okO q6
    clear q6
    refine drawS good [2, 0, 1] [[], [0], [], [], [3], [2, 3, 4], [2, 3, 4, 5], [2, 3, 4, 5, 6], [0, 1, 2, 3, 4, 5, 6, 7], [0, 1, 2, 3, 4, 5, 6, 7, 8], [0, 1, 2, 3, 4, 5, 6, 7, 8, 9]] [pv (fun q640 => .pointer (some ⟨b4, 4, none⟩)), ⟨fun q640 => .slice a516 (v515.length) c517, fun q640 J => True, fun q640 I J hl h => h, [], [0], fun _ _ => []⟩, pv (fun q640 => .slice pa0 (x0.length) pc0), pv (fun q640 => .int .i64 v509), pv (fun q640 => .int .i64 ((IntKind.i64.wrap (v509 + (1 : Int))))), pv (fun q640 => .pointer (some (ad684.add (((IntKind.i64.wrap (v509 + (1 : Int)))).toNat * 5)))), pv (fun q640 => .agg ⟨[.int .i64 x683.kind, .int .i64 x683.n, .string (bs x683.s), .slice a693 (x683.k.length) c694, .slice a696 (x683.l.length) c697]⟩), ⟨fun q640 => .slice (some ⟨((q640 7).n 0), 0, none⟩) 1 1, fun q640 J => True, fun q640 I J hl h => h, [2], [], fun q640 _ => [.blk ((q640 7).n 0) (.cells ⟨[.int .i64 x683.kind, .int .i64 x683.n, .string (bs x683.s), .slice a693 (x683.k.length) c694, .slice a696 (x683.l.length) c697]⟩ 30)]⟩, ⟨fun q640 => .slice ((q640 8).a 0) ((v515 ++ [x683]).length) ((q640 8).n 0), fun q640 J => RdC 5 (RdN J) ((q640 8).l 0) (v515 ++ [x683]), fun q640 I J hl h => RdC.mono h (fun _ _ _ h => RdN.up hl h), [1, 2], [], fun q640 r => match Nat.beq r 1 with | true => [.row (.slice ((q640 8).a 0) ((v515 ++ [x683]).length) ((q640 8).n 0)) 30 5 ((v515 ++ [x683]).length) ((q640 8).l 0)] | false => []⟩, pv (fun q640 => .pointer (some ⟨b4, 4, none⟩)), ⟨fun q640 => undef, fun q640 J => True, fun q640 I J hl h => h, [0], [], fun q640 _ => [.blk b4 (.cells ⟨[.int .i64 ((6 : Int)), .int .i64 ((0 : Int)), .string (bs ([] : List UInt8)), .slice ((q525 8).a 0) ((v510 ++ [x561.s]).length) ((q525 8).n 0), .slice ((q640 8).a 0) ((v515 ++ [x683]).length) ((q640 8).n 0)]⟩ 30)]⟩] (sel [[.blk b4 (.cells ⟨[.int .i64 ((6 : Int)), .int .i64 ((0 : Int)), .string (bs ([] : List UInt8)), .slice ((q525 8).a 0) ((v510 ++ [x561.s]).length) ((q525 8).n 0), .slice a516 (v515.length) c517]⟩ 30)], [.row (.slice a516 (v515.length) c517) 30 5 (v515.length) cs518]] []) (R := .row (.slice ((q525 8).a 0) ((v510 ++ [x561.s]).length) ((q525 8).n 0)) 9 1 ((v510 ++ [x561.s]).length) ((q525 8).l 0) :: .blk b1 (.cells ⟨[.int .i64 ((0 : Int)), .int .i64 ((0 : Int)), .string (bs ([] : List UInt8)), .slice none (0) 0, .slice none (0) 0]⟩ 30) :: L) ((((hs635.front 3 rfl).front 1 rfl).front 3 rfl).front 3 rfl) rfl ⟨fun _ _ _ _ _ _ _ h => ⟨Rc0, _, Le.refl _, rfl, trivial, h⟩, ?_, fun _ _ _ _ _ _ _ h => ⟨Rc0, _, Le.refl _, rfl, trivial, h⟩, fun _ _ _ _ _ _ _ h => ⟨Rc0, _, Le.refl _, rfl, trivial, h⟩, fun _ _ _ _ _ _ _ h => ⟨Rc0, _, Le.refl _, rfl, trivial, h⟩, ?_, ?_, ?_, ?_, fun _ _ _ _ _ _ _ h => ⟨Rc0, _, Le.refl _, rfl, trivial, h⟩, ?_, trivial⟩ ?_
    · intro q640 J648 Lo653 e652 w651 hJ649 hF654 hs650
      have hs650 : St c J648 (.blk b4 (.cells ⟨[.int .i64 ((6 : Int)), .int .i64 ((0 : Int)), .string (bs ([] : List UInt8)), .slice ((q525 8).a 0) ((v510 ++ [x561.s]).length) ((q525 8).n 0), .slice a516 (v515.length) c517]⟩ 30) :: .row (.slice ((q525 8).a 0) ((v510 ++ [x561.s]).length) ((q525 8).n 0)) 9 1 ((v510 ++ [x561.s]).length) ((q525 8).l 0) :: .blk b1 (.cells ⟨[.int .i64 ((0 : Int)), .int .i64 ((0 : Int)), .string (bs ([] : List UInt8)), .slice none (0) 0, .slice none (0) 0]⟩ 30) :: (L ++ Lo653)) w651 := hs650
      refine ld 0 hs650 rfl rfl rfl ?_
      exact ⟨Rc0, J648, (Le.refl _), rfl, trivial, hs650⟩
    · intro q640 J676 Lo681 e680 w679 hJ677 hF682 hs678
      have hs678 : St c J676 (.row (.slice ((q525 8).a 0) ((v510 ++ [x561.s]).length) ((q525 8).n 0)) 9 1 ((v510 ++ [x561.s]).length) ((q525 8).l 0) :: .blk b1 (.cells ⟨[.int .i64 ((0 : Int)), .int .i64 ((0 : Int)), .string (bs ([] : List UInt8)), .slice none (0) 0, .slice none (0) 0]⟩ 30) :: (L ++ Lo681)) w679 := hs678
      refine idx h686 h687 h688 ?_
      exact ⟨Rc0, J676, (Le.refl _), rfl, trivial, hs678⟩
    · intro q640 J699 Lo704 e703 w702 hJ700 hF705 hs701
      have hs701 : St c J699 (.row (.slice ((q525 8).a 0) ((v510 ++ [x561.s]).length) ((q525 8).n 0)) 9 1 ((v510 ++ [x561.s]).length) ((q525 8).l 0) :: .blk b1 (.cells ⟨[.int .i64 ((0 : Int)), .int .i64 ((0 : Int)), .string (bs ([] : List UInt8)), .slice none (0) 0, .slice none (0) 0]⟩ 30) :: (L ++ Lo704)) w702 := hs701
      refine ldc (h692 _ (Imm.le hJ700 hs701.im)) rfl ?_
      exact ⟨Rc0, J699, (Le.refl _), rfl, trivial, hs701⟩
    · intro q640 J706 Lo711 e710 w709 hJ707 hF712 hs708
      have hs708 : St c J706 (.row (.slice ((q525 8).a 0) ((v510 ++ [x561.s]).length) ((q525 8).n 0)) 9 1 ((v510 ++ [x561.s]).length) ((q525 8).l 0) :: .blk b1 (.cells ⟨[.int .i64 ((0 : Int)), .int .i64 ((0 : Int)), .string (bs ([] : List UInt8)), .slice none (0) 0, .slice none (0) 0]⟩ 30) :: (L ++ Lo711)) w709 := hs708
      refine new hs708 ?_
      intro b713 w714 hs715
      have hs715 : St c J706 (.blk b713 (.cells ⟨[.int .i64 x683.kind, .int .i64 x683.n, .string (bs x683.s), .slice a693 (x683.k.length) c694, .slice a696 (x683.l.length) c697]⟩ 30) :: .row (.slice ((q525 8).a 0) ((v510 ++ [x561.s]).length) ((q525 8).n 0)) 9 1 ((v510 ++ [x561.s]).length) ((q525 8).l 0) :: .blk b1 (.cells ⟨[.int .i64 ((0 : Int)), .int .i64 ((0 : Int)), .string (bs ([] : List UInt8)), .slice none (0) 0, .slice none (0) 0]⟩ 30) :: (L ++ Lo711)) w714 := hs715
      exact ⟨⟨sel [] none, sel [b713] 0, sel [] []⟩, J706, (Le.refl _), rfl, trivial, hs715⟩
    · intro q640 J716 Lo721 e720 w719 hJ717 hF722 hs718
      have hs718 : St c J716 (.row (.slice a516 (v515.length) c517) 30 5 (v515.length) cs518 :: .blk ((q640 7).n 0) (.cells ⟨[.int .i64 x683.kind, .int .i64 x683.n, .string (bs x683.s), .slice a693 (x683.k.length) c694, .slice a696 (x683.l.length) c697]⟩ 30) :: .row (.slice ((q525 8).a 0) ((v510 ++ [x561.s]).length) ((q525 8).n 0)) 9 1 ((v510 ++ [x561.s]).length) ((q525 8).l 0) :: .blk b1 (.cells ⟨[.int .i64 ((0 : Int)), .int .i64 ((0 : Int)), .string (bs ([] : List UInt8)), .slice none (0) 0, .slice none (0) 0]⟩ 30) :: (L ++ Lo721)) w719 := hs718
      have h723 : RdC 5 (RdN J716) [.int .i64 x683.kind, .int .i64 x683.n, .string (bs x683.s), .slice a693 (x683.k.length) c694, .slice a696 (x683.l.length) c697] [x683] := (RdC.snoc (sz := 5) (R := (RdN J716)) (RdC.nil (sz := 5) (R := (RdN J716))) rfl (show (RdN J716) [.int .i64 x683.kind, .int .i64 x683.n, .string (bs x683.s), .slice a693 (x683.k.length) c694, .slice a696 (x683.l.length) c697] x683 from (RdN.of (RdL.mono h695 hJ717 (fun _ _ _ h => h)) (RdL.mono h698 hJ717 (fun _ _ _ h => RdN.up hJ717 h)))))
      refine appO good 0 1 hs718 rfl rfl (h519.mono (fun _ _ _ h => RdN.up (hJ634.trans hJ717) h)) rfl h723 rfl rfl rfl rfl rfl rfl rfl h728 ?_
      intro a724 c725 cs726 w729 hs730 h727
      have hs730 : St c J716 (.row (.slice a724 ((v515 ++ [x683]).length) c725) 30 5 ((v515 ++ [x683]).length) cs726 :: .row (.slice ((q525 8).a 0) ((v510 ++ [x561.s]).length) ((q525 8).n 0)) 9 1 ((v510 ++ [x561.s]).length) ((q525 8).l 0) :: .blk b1 (.cells ⟨[.int .i64 ((0 : Int)), .int .i64 ((0 : Int)), .string (bs ([] : List UInt8)), .slice none (0) 0, .slice none (0) 0]⟩ 30) :: (L ++ Lo721)) w729 := hs730.drop 1
      exact ⟨⟨sel [a724] none, sel [c725] 0, sel [cs726] []⟩, J716, (Le.refl _), rfl, h727, hs730⟩
    · intro q640 J739 Lo744 e743 w742 hJ740 hF745 hs741
      have hs741 : St c J739 (.blk b4 (.cells ⟨[.int .i64 ((6 : Int)), .int .i64 ((0 : Int)), .string (bs ([] : List UInt8)), .slice ((q525 8).a 0) ((v510 ++ [x561.s]).length) ((q525 8).n 0), .slice a516 (v515.length) c517]⟩ 30) :: .row (.slice ((q525 8).a 0) ((v510 ++ [x561.s]).length) ((q525 8).n 0)) 9 1 ((v510 ++ [x561.s]).length) ((q525 8).l 0) :: .blk b1 (.cells ⟨[.int .i64 ((0 : Int)), .int .i64 ((0 : Int)), .string (bs ([] : List UInt8)), .slice none (0) 0, .slice none (0) 0]⟩ 30) :: (L ++ Lo744)) w742 := hs741
      refine sto 0 hs741 rfl rfl rfl ?_
      intro w746 hs747
      have hs747 : St c J739 (.blk b4 (.cells ⟨[.int .i64 ((6 : Int)), .int .i64 ((0 : Int)), .string (bs ([] : List UInt8)), .slice ((q525 8).a 0) ((v510 ++ [x561.s]).length) ((q525 8).n 0), .slice ((q640 8).a 0) ((v515 ++ [x683]).length) ((q640 8).n 0)]⟩ 30) :: .row (.slice ((q525 8).a 0) ((v510 ++ [x561.s]).length) ((q525 8).n 0)) 9 1 ((v510 ++ [x561.s]).length) ((q525 8).l 0) :: .blk b1 (.cells ⟨[.int .i64 ((0 : Int)), .int .i64 ((0 : Int)), .string (bs ([] : List UInt8)), .slice none (0) 0, .slice none (0) 0]⟩ 30) :: (L ++ Lo744)) w746 := hs747
      exact ⟨Rc0, J739, (Le.refl _), rfl, trivial, hs747⟩
    intro q640 J748 e752 w751 hJ749 hF753 hs750
    have hs750 : St c J748 (.blk b4 (.cells ⟨[.int .i64 ((6 : Int)), .int .i64 ((0 : Int)), .string (bs ([] : List UInt8)), .slice ((q525 8).a 0) ((v510 ++ [x561.s]).length) ((q525 8).n 0), .slice ((q640 8).a 0) ((v515 ++ [x683]).length) ((q640 8).n 0)]⟩ 30) :: .row (.slice ((q640 8).a 0) ((v515 ++ [x683]).length) ((q640 8).n 0)) 30 5 ((v515 ++ [x683]).length) ((q640 8).l 0) :: .row (.slice ((q525 8).a 0) ((v510 ++ [x561.s]).length) ((q525 8).n 0)) 9 1 ((v510 ++ [x561.s]).length) ((q525 8).l 0) :: .blk b1 (.cells ⟨[.int .i64 ((0 : Int)), .int .i64 ((0 : Int)), .string (bs ([] : List UInt8)), .slice none (0) 0, .slice none (0) 0]⟩ 30) :: L) w751 := hs750
    have h731 : RdC 5 (RdN J748) ((q640 8).l 0) (v515 ++ [x683]) := (hF753 8 _ rfl)
    refine barN [0, 2, 3, 4] [.slice pa0 (x0.length) pc0, .pointer (some ⟨b1, 0, none⟩), .pointer (some ⟨b4, 0, none⟩), .int .i64 v509] (ce rfl (ce rfl (ce rfl (ce rfl (rfl))))) ?_
    intro e754
    obtain rfl := Option.some.inj q7
    exact hZ522 _ _ ⟨J748, ((q525 8).a 0), ((q525 8).n 0), ((q525 8).l 0), ((q640 8).a 0), ((q640 8).n 0), ((q640 8).l 0), (hJ506.trans (hJ634.trans hJ749)), ce rfl (ce rfl (ce rfl (ce rfl (rfl)))), ((((hs750.front 3 rfl).front 1 rfl).front 3 rfl).front 3 rfl), h616, h731⟩
  · clear q1
    obtain ⟨r755, hm756, rfl⟩ := mapO q3
    clear q3
    obtain rfl : r755 = _ := hZ522
    refine bar ?_
    refine sqs ?_
    refine ld 2 hs508 rfl rfl rfl ?_
    refine sto 3 hs508 rfl rfl rfl ?_
    intro w757 hs758
    have hs758 : St c J505 (.row (.slice a516 (v515.length) c517) 30 5 (v515.length) cs518 :: .row (.slice a511 (v510.length) c512) 9 1 (v510.length) cs513 :: .blk b4 (.cells ⟨[.int .i64 ((6 : Int)), .int .i64 ((0 : Int)), .string (bs ([] : List UInt8)), .slice a511 (v510.length) c512, .slice a516 (v515.length) c517]⟩ 30) :: .blk b1 (.cells ⟨[.int .i64 ((6 : Int)), .int .i64 ((0 : Int)), .string (bs ([] : List UInt8)), .slice a511 (v510.length) c512, .slice a516 (v515.length) c517]⟩ 30) :: L) w757 := hs758
    refine bar ?_
    refine ld 3 hs758 rfl rfl rfl ?_
    obtain ⟨J759, hJ760, hs761, h762⟩ := hs758.fixRow (i := 1) rfl hX h514 rfl
    obtain ⟨J763, hJ764, hs765, h766⟩ := hs761.fixRow (i := 0) rfl hX h519 rfl
    have h766 := RdL.mono h766 (Le.refl _) (fun _ _ _ h => RdN.up (hJ760.trans hJ764) h)
    obtain rfl := Option.some.inj hm756
    exact k _ J763 w757 (hJ506.trans (hJ760.trans hJ764)) ((hs765.drop 0).drop 0) (RdN.in (RdL.mono h762 hJ764 (fun _ _ _ h => h)) h766)
def p_tree_Text (x0 : (List UInt8)) : Option (Nd) :=
  (some (Nd.mk (4 : Int) (0 : Int) x0 [] []))
set_option maxRecDepth 10000 in
set_option maxHeartbeats 4000000 in
theorem w_tree_Text {c : Cx} {I : Im} {L : List Ent} {w : World} {K : Value → World → Prop} (x0 : (List UInt8)) (r : Nd) (hf : p_tree_Text x0 = some r) (hg : Glo I) (hX : ∀ b, ¬ c.X b) (hs : St c I L w)  
    (k : ∀ (rs0 : List Value) (J : Im) (w' : World), Le I J → St c J L w' → (RdN J) rs0 r → K (.agg ⟨rs0⟩) w') :
    callW Tryd.prog 88 [.string (bs x0)] K w := by
  unfold p_tree_Text at hf
  refine fn_of good Tryd.func88 rfl rfl rfl ?_
  refine sqs ?_
  refine new hs ?_
  intro b1 w2 hs3
  have hs3 : St c I (.blk b1 (.cells ⟨[.int .i64 ((0 : Int)), .int .i64 ((0 : Int)), .string (bs ([] : List UInt8)), .slice none (0) 0, .slice none (0) 0]⟩ 30) :: L) w2 := hs3
  refine bar ?_
  refine sqs ?_
  refine sto 0 hs3 rfl rfl rfl ?_
  intro w4 hs5
  have hs5 : St c I (.blk b1 (.cells ⟨[.int .i64 ((4 : Int)), .int .i64 ((0 : Int)), .string (bs x0), .slice none (0) 0, .slice none (0) 0]⟩ 30) :: L) w4 := hs5
  refine barN [2] [.pointer (some ⟨b1, 0, none⟩)] (ce rfl (rfl)) ?_
  intro e6
  refine ld 0 hs5 rfl rfl rfl ?_
  obtain rfl := Option.some.inj hf
  exact k _ I w4 (Le.refl _) (hs5.drop 0) (RdN.in (RdL.nil 0 none) (RdL.nil 0 none))
theorem w_slices_Clone_api_Node_api_Node {c : Cx} {I : Im} {L : List Ent} {w : World} {K : Value → World → Prop} (x0 : List Nd) {pa0 : Option Addr} {pn0 pc0 : Nat} (ph0 : RdL I 5 (RdN I) (.slice pa0 pn0 pc0) x0) (hs : St c I L w) (hl : x0.length ≤ 100000000000)
    (k : ∀ (a' : Option Addr) (c' : Nat) (cs' : List Value) w', St c I (.row (.slice a' x0.length c') 30 5 x0.length cs' :: L) w' → RdC 5 (RdN I) cs' x0 → K (.slice a' x0.length c') w') :
    callW Tryd.prog 116 [.slice pa0 pn0 pc0] K w := by
  obtain rfl := ph0.lenEq
  refine fn_of good Tryd.func116 rfl rfl rfl ?_
  refine sqs ?_
  refine bar ?_
  refine sqs ?_
  refine sqs ?_
  cases pa0 with
  | none =>
    obtain rfl := nilC ph0
    refine bar ?_
    refine sqs ?_
    refine bar ?_
    exact k none 0 [] w (hs.nil _ 5) RdC.nil
  | some ad =>
    refine bar ?_
    refine bar ?_
    refine sqs ?_
    refine new hs ?_
    intro b w2 hs2
    have hs3 := St.toRow (sz := 5) (n := 0) hs2 0 rfl rfl (by decide)
    refine appA good 0 hs3 rfl RdC.nil rfl ph0 rfl rfl rfl rfl rfl (by simpa using hl) RdN_one ?_
    intro a c' cs w3 hs4 hC
    refine bar ?_
    exact k a c' cs w3 hs4 hC

def p_tree_List (x0 : (List Nd)) : Option (Nd) :=
  (if x0.length ≤ 100000000000 then (some (Nd.mk (5 : Int) (0 : Int) ([] : List UInt8) [] x0)) else none)
set_option maxRecDepth 10000 in
set_option maxHeartbeats 4000000 in
theorem w_tree_List {c : Cx} {I : Im} {L : List Ent} {w : World} {K : Value → World → Prop} (x0 : (List Nd)) (r : Nd) (hf : p_tree_List x0 = some r) (hg : Glo I) (hX : ∀ b, ¬ c.X b) (hs : St c I L w) {pa0 : Option Addr} {pn0 pc0 : Nat} (ph0 : RdL I 5 (RdN I) (.slice pa0 pn0 pc0) x0)
    (k : ∀ (rs0 : List Value) (J : Im) (w' : World), Le I J → St c J L w' → (RdN J) rs0 r → K (.agg ⟨rs0⟩) w') :
    callW Tryd.prog 89 [.slice pa0 pn0 pc0] K w := by
  obtain rfl : pn0 = x0.length := ph0.lenEq
  unfold p_tree_List at hf
  refine fn_of good Tryd.func89 rfl rfl rfl ?_
  refine sqs ?_
  refine new hs ?_
  intro b1 w2 hs3
  have hs3 : St c I (.blk b1 (.cells ⟨[.int .i64 ((0 : Int)), .int .i64 ((0 : Int)), .string (bs ([] : List UInt8)), .slice none (0) 0, .slice none (0) 0]⟩ 30) :: L) w2 := hs3
  refine bar ?_
  refine sqs ?_
  obtain ⟨h4, q1⟩ := okO hf
  clear hf
  refine w_slices_Clone_api_Node_api_Node x0 ph0 hs3 h4 ?_
  intro a8 c9 cs10 w5 hs6 h11
  have hs6 : St c I (.row (.slice a8 (x0.length) c9) 30 5 (x0.length) cs10 :: .blk b1 (.cells ⟨[.int .i64 ((0 : Int)), .int .i64 ((0 : Int)), .string (bs ([] : List UInt8)), .slice none (0) 0, .slice none (0) 0]⟩ 30) :: L) w5 := hs6
  refine sto 1 hs6 rfl rfl rfl ?_
  intro w12 hs13
  have hs13 : St c I (.row (.slice a8 (x0.length) c9) 30 5 (x0.length) cs10 :: .blk b1 (.cells ⟨[.int .i64 ((5 : Int)), .int .i64 ((0 : Int)), .string (bs ([] : List UInt8)), .slice none (0) 0, .slice a8 (x0.length) c9]⟩ 30) :: L) w12 := hs13
  refine barN [2] [.pointer (some ⟨b1, 0, none⟩)] (ce rfl (rfl)) ?_
  intro e14
  refine ld 1 hs13 rfl rfl rfl ?_
  obtain ⟨J15, hJ16, hs17, h18⟩ := hs13.fixRow (i := 0) rfl hX h11 rfl
  have h18 := RdL.mono h18 (Le.refl _) (fun _ _ _ h => RdN.up hJ16 h)
  obtain rfl := Option.some.inj q1
  exact k _ J15 w12 hJ16 (hs17.drop 0) (RdN.in (RdL.nil 0 none) h18)
def p_num_Scan_j3 (x1 : Int) (v16 : Int) (v32 : Int) (v33 : Int) (v34 : Bool) : Option (Int × Int × Int) :=
  (if v34 = true then (some ((0 : Int), (0 : Int), (2 : Int))) else (if x1 < v16 then (some ((IntKind.i64.wrap (0 - v32)), v33, (0 : Int))) else (some (v32, v33, (0 : Int)))))
def p_num_Scan_j2 (x0 : (List UInt8)) (x1 : Int) (v16 : Int) (v32 : Int) (v33 : Int) (v34 : Bool) : Option (Int × Int × Int) :=
  (if ((x0.getD v16.toNat 0).toNat : Int) = (48 : Int) then (if (IntKind.i64.wrap (v16 + (1 : Int))) < v33 then (some ((0 : Int), (0 : Int), (12 : Int))) else (if x1 < v16 then (some ((0 : Int), (0 : Int), (12 : Int))) else (if v33 < (x0.length : Int) then (if 0 ≤ v33 ∧ v33 < (x0.length : Int) then (if ((x0.getD v33.toNat 0).toNat : Int) = (46 : Int) then (some ((0 : Int), (0 : Int), (12 : Int))) else (if ((x0.getD v33.toNat 0).toNat : Int) = (101 : Int) then (some ((0 : Int), (0 : Int), (12 : Int))) else (if ((x0.getD v33.toNat 0).toNat : Int) = (69 : Int) then (some ((0 : Int), (0 : Int), (12 : Int))) else (p_num_Scan_j3 x1 v16 v32 v33 v34)))) else none) else (p_num_Scan_j3 x1 v16 v32 v33 v34)))) else (if v33 < (x0.length : Int) then (if 0 ≤ v33 ∧ v33 < (x0.length : Int) then (if ((x0.getD v33.toNat 0).toNat : Int) = (46 : Int) then (some ((0 : Int), (0 : Int), (12 : Int))) else (if ((x0.getD v33.toNat 0).toNat : Int) = (101 : Int) then (some ((0 : Int), (0 : Int), (12 : Int))) else (if ((x0.getD v33.toNat 0).toNat : Int) = (69 : Int) then (some ((0 : Int), (0 : Int), (12 : Int))) else (p_num_Scan_j3 x1 v16 v32 v33 v34)))) else none) else (p_num_Scan_j3 x1 v16 v32 v33 v34)))
def p_num_Scan_b1 (x0 : (List UInt8)) (x1 : Int) (v16 : Int) (v148 : Int) (v149 : Int) (v150 : Bool) : Option ((Int × Int × Bool) ⊕ (Int × Int × Int)) :=
  (if v149 < (x0.length : Int) then (if 0 ≤ v149 ∧ v149 < (x0.length : Int) then (if (48 : Int) ≤ ((x0.getD v149.toNat 0).toNat : Int) then (if ((x0.getD v149.toNat 0).toNat : Int) ≤ (57 : Int) then (if (9007199254740991 : Int) < (IntKind.i64.wrap ((IntKind.i64.wrap ((10 : Int) * v148)) + (IntKind.i64.wrap (IntKind.u8.wrap (((x0.getD v149.toNat 0).toNat : Int) - (48 : Int)))))) then (some (.inl ((9007199254740991 : Int), (IntKind.i64.wrap (v149 + (1 : Int))), true))) else (some (.inl ((IntKind.i64.wrap ((IntKind.i64.wrap ((10 : Int) * v148)) + (IntKind.i64.wrap (IntKind.u8.wrap (((x0.getD v149.toNat 0).toNat : Int) - (48 : Int)))))), (IntKind.i64.wrap (v149 + (1 : Int))), v150)))) else (Option.map Sum.inr (p_num_Scan_j2 x0 x1 v16 v148 v149 v150))) else (Option.map Sum.inr (p_num_Scan_j2 x0 x1 v16 v148 v149 v150))) else none) else (Option.map Sum.inr (p_num_Scan_j2 x0 x1 v16 v148 v149 v150)))
def p_num_Scan_j1 (x0 : (List UInt8)) (x1 : Int) (v16 : Int) : Option (Int × Int × Int) :=
  (if v16 = (x0.length : Int) then (some ((0 : Int), (0 : Int), (5 : Int))) else (if v16 < (x0.length : Int) then (if 0 ≤ v16 ∧ v16 < (x0.length : Int) then (if (48 : Int) ≤ ((x0.getD v16.toNat 0).toNat : Int) then (if ((x0.getD v16.toNat 0).toNat : Int) ≤ (57 : Int) then (loopO (fun (s : Int × Int × Bool) => p_num_Scan_b1 x0 x1 v16 s.1 s.2.1 s.2.2) ((0 : Int), v16, false)) else (some ((0 : Int), (0 : Int), (6 : Int)))) else (some ((0 : Int), (0 : Int), (6 : Int)))) else none) else (some ((0 : Int), (0 : Int), (6 : Int)))))
def p_num_Scan (x0 : (List UInt8)) (x1 : Int) : Option (Int × Int × Int) :=
  (if x1 < (0 : Int) then (some ((0 : Int), (0 : Int), (1 : Int))) else (if (x0.length : Int) < x1 then (some ((0 : Int), (0 : Int), (1 : Int))) else (if x1 < (x0.length : Int) then (if 0 ≤ x1 ∧ x1 < (x0.length : Int) then (if ((x0.getD x1.toNat 0).toNat : Int) = (45 : Int) then (p_num_Scan_j1 x0 x1 (IntKind.i64.wrap (x1 + (1 : Int)))) else (p_num_Scan_j1 x0 x1 x1)) else none) else (p_num_Scan_j1 x0 x1 x1))))
set_option maxRecDepth 10000 in
set_option maxHeartbeats 4000000 in
theorem w_num_Scan {c : Cx} {I : Im} {L : List Ent} {w : World} {K : Value → World → Prop} (x0 : (List UInt8)) (x1 : Int) (r : Int × Int × Int) (hf : p_num_Scan x0 x1 = some r) (hg : Glo I) (hX : ∀ b, ¬ c.X b) (hs : St c I L w)  
    (k : ∀  (J : Im) (w' : World), Le I J → St c J L w' → K (.tuple ⟨[.int .i64 r.1, .int .i64 r.2.1, .int .i64 r.2.2]⟩) w') :
    callW Tryd.prog 126 [.string (bs x0), .int .i64 x1] K w := by
  unfold p_num_Scan at hf
  refine fn_of good Tryd.func126 rfl rfl rfl ?_
  refine sqs ?_
  refine new hs ?_
  intro b1 w2 hs3
  have hs3 : St c I (.blk b1 (.cells ⟨[.string (bs x0)]⟩ 9) :: L) w2 := hs3
  refine barN [1, 2, 4] [.int .i64 x1, .pointer (some ⟨b1, 0, none⟩), .int .i64 ((0 : Int))] (ce rfl (ce rfl (ce rfl (rfl)))) ?_
  intro e4
  refine scp good 0 rfl rfl rfl ?_
  refine sqs ?_
  refine sqs ?_
  refine cdO hf (fun h5 q1 => ?_) (fun h5 q2 => ?_)
  · clear hf
    refine nrmO [1, 2, 4, 12, 13] [.int .i64 x1, .pointer (some ⟨b1, 0, none⟩), .int .i64 ((0 : Int)), .bool true, undef] (ce rfl (ce rfl (ce rfl (ce rfl (ce rfl (rfl)))))) ?_
    intro e6
    refine barN [1, 2, 4, 17] [.int .i64 x1, .pointer (some ⟨b1, 0, none⟩), .int .i64 ((0 : Int)), .bool true] (ce rfl (ce rfl (ce rfl (ce rfl (rfl))))) ?_
    intro e7
    refine bar ?_
    obtain rfl := Option.some.inj q1
    exact k I w2 (Le.refl _) (hs3.drop 0)
  · clear hf
    refine nrmP [1, 2, 4, 12] [.int .i64 x1, .pointer (some ⟨b1, 0, none⟩), .int .i64 ((0 : Int)), .bool false] (ce rfl (ce rfl (ce rfl (ce rfl (rfl))))) ?_
    intro e8
    refine ld 0 hs3 rfl rfl rfl ?_
    refine barN [1, 2, 4, 17] [.int .i64 x1, .pointer (some ⟨b1, 0, none⟩), .int .i64 ((0 : Int)), .bool (decide ((x0.length : Int) < x1))] (ce rfl (ce rfl (ce rfl (ce rfl (rfl))))) ?_
    intro e9
    refine cdO q2 (fun h10 q3 => ?_) (fun h10 q4 => ?_)
    · clear q2
      refine sqs ?_
      refine bar ?_
      obtain rfl := Option.some.inj q3
      exact k I w2 (Le.refl _) (hs3.drop 0)
    · clear q2
      refine bar ?_
      refine sqs ?_
      refine bar ?_
      refine sqs ?_
      refine barN [1, 2, 4, 7, 8] [.int .i64 x1, .pointer (some ⟨b1, 0, none⟩), .int .i64 ((0 : Int)), .func (.func 167) ⟨[]⟩ ⟨[.pointer (some ⟨b1, 0, none⟩)]⟩, .int .i64 x1] (ce rfl (ce rfl (ce rfl (ce rfl (ce rfl (rfl)))))) ?_
      intro e11
      refine sqs ?_
      refine cutc [1, 2, 4, 7, 8] (fun vs w' => ∃ (v16 : Int) (J : Im), Le I J ∧ vs = [.int .i64 x1, .pointer (some ⟨b1, 0, none⟩), .int .i64 ((0 : Int)), .func (.func 167) ⟨[]⟩ ⟨[.pointer (some ⟨b1, 0, none⟩)]⟩, .int .i64 v16] ∧ St c J (.blk b1 (.cells ⟨[.string (bs x0)]⟩ 9) :: L) w' ∧ p_num_Scan_j1 x0 x1 v16 = some r) ?_ ?_
      · clear q4
        rintro vs e197 w14 ⟨v16, J12, hJ13, rfl, hs15, q5⟩
        unfold p_num_Scan_j1 at q5
        refine bar ?_
        refine sqs ?_
        refine bar ?_
        refine sqs ?_
        refine bar ?_
        refine sqs ?_
        refine sqs ?_
        refine ld 0 hs15 rfl rfl rfl ?_
        refine barN [1, 2, 4, 5, 7, 8, 9, 36] [.int .i64 x1, .pointer (some ⟨b1, 0, none⟩), .int .i64 ((0 : Int)), .int .i64 v16, .func (.func 167) ⟨[]⟩ ⟨[.pointer (some ⟨b1, 0, none⟩)]⟩, .int .i64 v16, .bool false, .bool (decide (v16 = (x0.length : Int)))] (ce rfl (ce rfl (ce rfl (ce rfl (ce rfl (ce rfl (ce rfl (ce rfl (rfl))))))))) ?_
        intro e17
        refine cdO q5 (fun h18 q6 => ?_) (fun h18 q7 => ?_)
        · clear q5
          refine sqs ?_
          refine bar ?_
          refine nrmW [6] [.int .i64 ((5 : Int))] (ce rfl (rfl)) ?_
          intro e19
          refine bar ?_
          refine barN [4, 5, 6] [.int .i64 ((0 : Int)), .int .i64 ((0 : Int)), .int .i64 ((5 : Int))] (ce rfl (ce rfl (ce rfl (rfl)))) ?_
          intro e20
          obtain rfl := Option.some.inj q6
          exact k J12 w14 hJ13 (hs15.drop 0)
        · clear q5
          refine bar ?_
          refine sqs ?_
          refine sqs ?_
          refine fn_of good Tryd.func167 rfl rfl rfl ?_
          refine sqs ?_
          refine bar ?_
          refine sqs ?_
          refine ld 0 hs15 rfl rfl rfl ?_
          refine cdO q7 (fun h21 q8 => ?_) (fun h21 q9 => ?_)
          · clear q7
            refine nrmP [0, 1, 8] [.int .i64 v16, .pointer (some ⟨b1, 0, none⟩), .bool true] (ce rfl (ce rfl (ce rfl (rfl)))) ?_
            intro e22
            refine ld 0 hs15 rfl rfl rfl ?_
            refine reqO q8 (fun h23 q10 => ?_)
            clear q8
            refine cdO q10 (fun h24 q11 => ?_) (fun h24 q12 => ?_)
            · clear q10
              refine nrmP [0, 1, 14] [.int .i64 v16, .pointer (some ⟨b1, 0, none⟩), .bool true] (ce rfl (ce rfl (ce rfl (rfl)))) ?_
              intro e25
              refine ld 0 hs15 rfl rfl rfl ?_
              refine req h23 ?_
              refine barN [3] [.bool (decide (((x0.getD v16.toNat 0).toNat : Int) ≤ (57 : Int)))] (ce rfl (rfl)) ?_
              intro e26
              refine bar ?_
              refine cnO q11 (fun h27 q13 => ?_) (fun h27 q14 => ?_)
              · clear q11
                refine bar ?_
                refine sqs ?_
                refine bar ?_
                refine sqs ?_
                refine cutc [1, 2, 4, 5, 8, 9] (fun vs w' => ∃ (v32 : Int) (v33 : Int) (v34 : Bool) (J : Im), Le J12 J ∧ vs = [.int .i64 x1, .pointer (some ⟨b1, 0, none⟩), .int .i64 v32, .int .i64 v33, .int .i64 v16, .bool v34] ∧ St c J (.blk b1 (.cells ⟨[.string (bs x0)]⟩ 9) :: L) w' ∧ p_num_Scan_j2 x0 x1 v16 v32 v33 v34 = some r) ?_ ?_
                · clear q13
                  rintro vs e176 w30 ⟨v32, v33, v34, J28, hJ29, rfl, hs31, q15⟩
                  unfold p_num_Scan_j2 at q15
                  refine bar ?_
                  refine sqs ?_
                  refine cutc [1, 4, 5, 8, 9] (fun vs w' => ∃ (J : Im), Le J28 J ∧ vs = [.int .i64 x1, .int .i64 v32, .int .i64 v33, .int .i64 v16, .bool v34] ∧ St c J (.blk b1 (.cells ⟨[.string (bs x0)]⟩ 9) :: L) w' ∧ p_num_Scan_j3 x1 v16 v32 v33 v34 = some r) ?_ ?_
                  · clear q15
                    rintro vs e107 w37 ⟨J35, hJ36, rfl, hs38, q16⟩
                    unfold p_num_Scan_j3 at q16
                    refine bar ?_
                    refine sqs ?_
                    refine sqs ?_
                    refine bar ?_
                    refine csO q16 (fun h39 q17 => ?_) (fun h39 q18 => ?_)
                    · clear q16
                      refine sqs ?_
                      refine bar ?_
                      refine nrmW [6] [.int .i64 ((2 : Int))] (ce rfl (rfl)) ?_
                      intro e40
                      refine bar ?_
                      refine barN [4, 5, 6] [.int .i64 ((0 : Int)), .int .i64 ((0 : Int)), .int .i64 ((2 : Int))] (ce rfl (ce rfl (ce rfl (rfl)))) ?_
                      intro e41
                      obtain rfl := Option.some.inj q17
                      exact k J35 w37 (hJ13.trans (hJ29.trans hJ36)) (hs38.drop 0)
                    · clear q16
                      refine bar ?_
                      refine sqs ?_
                      refine sqs ?_
                      refine barN [4, 5, 99] [.int .i64 v32, .int .i64 v33, .bool (decide (x1 < v16))] (ce rfl (ce rfl (ce rfl (rfl)))) ?_
                      intro e42
                      refine cdO q18 (fun h43 q19 => ?_) (fun h43 q20 => ?_)
                      · clear q18
                        refine bar ?_
                        refine sqs ?_
                        refine sqs ?_
                        refine barN [4, 5, 6] [.int .i64 ((IntKind.i64.wrap (0 - v32))), .int .i64 v33, .int .i64 ((0 : Int))] (ce rfl (ce rfl (ce rfl (rfl)))) ?_
                        intro e44
                        obtain rfl := Option.some.inj q19
                        exact k J35 w37 (hJ13.trans (hJ29.trans hJ36)) (hs38.drop 0)
                      · clear q18
                        refine bar ?_
                        refine sqs ?_
                        refine sqs ?_
                        refine barN [4, 5, 6] [.int .i64 v32, .int .i64 v33, .int .i64 ((0 : Int))] (ce rfl (ce rfl (ce rfl (rfl)))) ?_
                        intro e45
                        obtain rfl := Option.some.inj q20
                        exact k J35 w37 (hJ13.trans (hJ29.trans hJ36)) (hs38.drop 0)
                  · intro Q46 hN47 hX48
                    refine sqs ?_
                    refine ld 0 hs31 rfl rfl rfl ?_
                    refine req h23 ?_
                    refine cdO q15 (fun h49 q21 => ?_) (fun h49 q22 => ?_)
                    · clear q15
                      refine nrmP [1, 2, 4, 5, 8, 9, 61] [.int .i64 x1, .pointer (some ⟨b1, 0, none⟩), .int .i64 v32, .int .i64 v33, .int .i64 v16, .bool v34, .bool true] (ce rfl (ce rfl (ce rfl (ce rfl (ce rfl (ce rfl (ce rfl (rfl)))))))) ?_
                      intro e50
                      refine cdO q21 (fun h51 q23 => ?_) (fun h51 q24 => ?_)
                      · clear q21
                        refine nrmO [1, 2, 4, 5, 8, 9, 61, 66, 67] [.int .i64 x1, .pointer (some ⟨b1, 0, none⟩), .int .i64 v32, .int .i64 v33, .int .i64 v16, .bool v34, .bool true, .bool true, undef] (ce rfl (ce rfl (ce rfl (ce rfl (ce rfl (ce rfl (ce rfl (ce rfl (ce rfl (rfl)))))))))) ?_
                        intro e52
                        refine barN [1, 4, 5, 8, 9, 95] [.int .i64 x1, .int .i64 v32, .int .i64 v33, .int .i64 v16, .bool v34, .bool true] (ce rfl (ce rfl (ce rfl (ce rfl (ce rfl (ce rfl (rfl))))))) ?_
                        intro e53
                        refine bar ?_
                        refine hX48 _ _ _ (fun h => by cases h) ?_
                        refine nrmW [6] [.int .i64 ((12 : Int))] (ce rfl (rfl)) ?_
                        intro e54
                        refine bar ?_
                        refine barN [4, 5, 6] [.int .i64 ((0 : Int)), .int .i64 ((0 : Int)), .int .i64 ((12 : Int))] (ce rfl (ce rfl (ce rfl (rfl)))) ?_
                        intro e55
                        obtain rfl := Option.some.inj q23
                        exact k J28 w30 (hJ13.trans hJ29) (hs31.drop 0)
                      · clear q21
                        refine nrmP [1, 2, 4, 5, 8, 9, 61, 66] [.int .i64 x1, .pointer (some ⟨b1, 0, none⟩), .int .i64 v32, .int .i64 v33, .int .i64 v16, .bool v34, .bool true, .bool false] (ce rfl (ce rfl (ce rfl (ce rfl (ce rfl (ce rfl (ce rfl (ce rfl (rfl))))))))) ?_
                        intro e56
                        refine cdO q24 (fun h57 q25 => ?_) (fun h57 q26 => ?_)
                        · clear q24
                          refine nrmO [1, 2, 4, 5, 8, 9, 72, 73] [.int .i64 x1, .pointer (some ⟨b1, 0, none⟩), .int .i64 v32, .int .i64 v33, .int .i64 v16, .bool v34, .bool true, undef] (ce rfl (ce rfl (ce rfl (ce rfl (ce rfl (ce rfl (ce rfl (ce rfl (rfl))))))))) ?_
                          intro e58
                          refine barN [1, 4, 5, 8, 9, 95] [.int .i64 x1, .int .i64 v32, .int .i64 v33, .int .i64 v16, .bool v34, .bool true] (ce rfl (ce rfl (ce rfl (ce rfl (ce rfl (ce rfl (rfl))))))) ?_
                          intro e59
                          refine bar ?_
                          refine hX48 _ _ _ (fun h => by cases h) ?_
                          refine nrmW [6] [.int .i64 ((12 : Int))] (ce rfl (rfl)) ?_
                          intro e60
                          refine bar ?_
                          refine barN [4, 5, 6] [.int .i64 ((0 : Int)), .int .i64 ((0 : Int)), .int .i64 ((12 : Int))] (ce rfl (ce rfl (ce rfl (rfl)))) ?_
                          intro e61
                          obtain rfl := Option.some.inj q25
                          exact k J28 w30 (hJ13.trans hJ29) (hs31.drop 0)
                        · clear q24
                          refine nrmP [1, 2, 4, 5, 8, 9, 72] [.int .i64 x1, .pointer (some ⟨b1, 0, none⟩), .int .i64 v32, .int .i64 v33, .int .i64 v16, .bool v34, .bool false] (ce rfl (ce rfl (ce rfl (ce rfl (ce rfl (ce rfl (ce rfl (rfl)))))))) ?_
                          intro e62
                          refine ld 0 hs31 rfl rfl rfl ?_
                          refine cdO q26 (fun h63 q27 => ?_) (fun h63 q28 => ?_)
                          · clear q26
                            refine nrmP [1, 2, 4, 5, 8, 9, 72, 77] [.int .i64 x1, .pointer (some ⟨b1, 0, none⟩), .int .i64 v32, .int .i64 v33, .int .i64 v16, .bool v34, .bool false, .bool true] (ce rfl (ce rfl (ce rfl (ce rfl (ce rfl (ce rfl (ce rfl (ce rfl (rfl))))))))) ?_
                            intro e64
                            refine ld 0 hs31 rfl rfl rfl ?_
                            refine reqO q27 (fun h65 q29 => ?_)
                            clear q27
                            refine cdO q29 (fun h66 q30 => ?_) (fun h66 q31 => ?_)
                            · clear q29
                              refine nrmO [1, 2, 4, 5, 8, 9, 72, 77, 82, 83] [.int .i64 x1, .pointer (some ⟨b1, 0, none⟩), .int .i64 v32, .int .i64 v33, .int .i64 v16, .bool v34, .bool false, .bool true, .bool true, undef] (ce rfl (ce rfl (ce rfl (ce rfl (ce rfl (ce rfl (ce rfl (ce rfl (ce rfl (ce rfl (rfl))))))))))) ?_
                              intro e67
                              refine barN [1, 4, 5, 8, 9, 95] [.int .i64 x1, .int .i64 v32, .int .i64 v33, .int .i64 v16, .bool v34, .bool true] (ce rfl (ce rfl (ce rfl (ce rfl (ce rfl (ce rfl (rfl))))))) ?_
                              intro e68
                              refine bar ?_
                              refine hX48 _ _ _ (fun h => by cases h) ?_
                              refine nrmW [6] [.int .i64 ((12 : Int))] (ce rfl (rfl)) ?_
                              intro e69
                              refine bar ?_
                              refine barN [4, 5, 6] [.int .i64 ((0 : Int)), .int .i64 ((0 : Int)), .int .i64 ((12 : Int))] (ce rfl (ce rfl (ce rfl (rfl)))) ?_
                              intro e70
                              obtain rfl := Option.some.inj q30
                              exact k J28 w30 (hJ13.trans hJ29) (hs31.drop 0)
                            · clear q29
                              refine nrmP [1, 2, 4, 5, 8, 9, 72, 77, 82] [.int .i64 x1, .pointer (some ⟨b1, 0, none⟩), .int .i64 v32, .int .i64 v33, .int .i64 v16, .bool v34, .bool false, .bool true, .bool false] (ce rfl (ce rfl (ce rfl (ce rfl (ce rfl (ce rfl (ce rfl (ce rfl (ce rfl (rfl)))))))))) ?_
                              intro e71
                              refine ld 0 hs31 rfl rfl rfl ?_
                              refine req h65 ?_
                              refine cdO q31 (fun h72 q32 => ?_) (fun h72 q33 => ?_)
                              · clear q31
                                refine nrmO [1, 4, 5, 8, 9, 72, 77, 88, 89] [.int .i64 x1, .int .i64 v32, .int .i64 v33, .int .i64 v16, .bool v34, .bool false, .bool true, .bool true, undef] (ce rfl (ce rfl (ce rfl (ce rfl (ce rfl (ce rfl (ce rfl (ce rfl (ce rfl (rfl)))))))))) ?_
                                intro e73
                                refine barN [1, 4, 5, 8, 9, 95] [.int .i64 x1, .int .i64 v32, .int .i64 v33, .int .i64 v16, .bool v34, .bool true] (ce rfl (ce rfl (ce rfl (ce rfl (ce rfl (ce rfl (rfl))))))) ?_
                                intro e74
                                refine bar ?_
                                refine hX48 _ _ _ (fun h => by cases h) ?_
                                refine nrmW [6] [.int .i64 ((12 : Int))] (ce rfl (rfl)) ?_
                                intro e75
                                refine bar ?_
                                refine barN [4, 5, 6] [.int .i64 ((0 : Int)), .int .i64 ((0 : Int)), .int .i64 ((12 : Int))] (ce rfl (ce rfl (ce rfl (rfl)))) ?_
                                intro e76
                                obtain rfl := Option.some.inj q32
                                exact k J28 w30 (hJ13.trans hJ29) (hs31.drop 0)
                              · clear q31
                                refine nrmP [1, 2, 4, 5, 8, 9, 72, 77, 88] [.int .i64 x1, .pointer (some ⟨b1, 0, none⟩), .int .i64 v32, .int .i64 v33, .int .i64 v16, .bool v34, .bool false, .bool true, .bool false] (ce rfl (ce rfl (ce rfl (ce rfl (ce rfl (ce rfl (ce rfl (ce rfl (ce rfl (rfl)))))))))) ?_
                                intro e77
                                refine ld 0 hs31 rfl rfl rfl ?_
                                refine req h65 ?_
                                refine barN [1, 4, 5, 8, 9, 95] [.int .i64 x1, .int .i64 v32, .int .i64 v33, .int .i64 v16, .bool v34, .bool (decide (((x0.getD v33.toNat 0).toNat : Int) = (69 : Int)))] (ce rfl (ce rfl (ce rfl (ce rfl (ce rfl (ce rfl (rfl))))))) ?_
                                intro e78
                                refine cdO q33 (fun h79 q34 => ?_) (fun h79 q35 => ?_)
                                · clear q33
                                  refine sqs ?_
                                  refine bar ?_
                                  refine hX48 _ _ _ (fun h => by cases h) ?_
                                  refine nrmW [6] [.int .i64 ((12 : Int))] (ce rfl (rfl)) ?_
                                  intro e80
                                  refine bar ?_
                                  refine barN [4, 5, 6] [.int .i64 ((0 : Int)), .int .i64 ((0 : Int)), .int .i64 ((12 : Int))] (ce rfl (ce rfl (ce rfl (rfl)))) ?_
                                  intro e81
                                  obtain rfl := Option.some.inj q34
                                  exact k J28 w30 (hJ13.trans hJ29) (hs31.drop 0)
                                · clear q33
                                  exact hN47 _ _ ⟨J28, (Le.refl _), ce rfl (ce rfl (ce rfl (ce rfl (ce rfl (rfl))))), hs31, q35⟩
                          · clear q26
                            refine nrmO [1, 2, 4, 5, 8, 9, 72, 77, 78] [.int .i64 x1, .pointer (some ⟨b1, 0, none⟩), .int .i64 v32, .int .i64 v33, .int .i64 v16, .bool v34, .bool false, .bool false, undef] (ce rfl (ce rfl (ce rfl (ce rfl (ce rfl (ce rfl (ce rfl (ce rfl (ce rfl (rfl)))))))))) ?_
                            intro e82
                            refine barN [1, 4, 5, 8, 9, 95] [.int .i64 x1, .int .i64 v32, .int .i64 v33, .int .i64 v16, .bool v34, .bool false] (ce rfl (ce rfl (ce rfl (ce rfl (ce rfl (ce rfl (rfl))))))) ?_
                            intro e83
                            exact hN47 _ _ ⟨J28, (Le.refl _), ce rfl (ce rfl (ce rfl (ce rfl (ce rfl (rfl))))), hs31, q28⟩
                    · clear q15
                      refine nrmO [1, 2, 4, 5, 8, 9, 61, 62] [.int .i64 x1, .pointer (some ⟨b1, 0, none⟩), .int .i64 v32, .int .i64 v33, .int .i64 v16, .bool v34, .bool false, undef] (ce rfl (ce rfl (ce rfl (ce rfl (ce rfl (ce rfl (ce rfl (ce rfl (rfl))))))))) ?_
                      intro e84
                      refine ld 0 hs31 rfl rfl rfl ?_
                      refine nrmO [1, 2, 4, 5, 8, 9, 72, 73, 74] [.int .i64 x1, .pointer (some ⟨b1, 0, none⟩), .int .i64 v32, .int .i64 v33, .int .i64 v16, .bool v34, .bool false, .int .i64 v33, .string (bs x0)] (ce rfl (ce rfl (ce rfl (ce rfl (ce rfl (ce rfl (ce rfl (ce rfl (ce rfl (rfl)))))))))) ?_
                      intro e85
                      refine cdO q22 (fun h86 q36 => ?_) (fun h86 q37 => ?_)
                      · clear q22
                        refine nrmP [1, 2, 4, 5, 8, 9, 72, 77] [.int .i64 x1, .pointer (some ⟨b1, 0, none⟩), .int .i64 v32, .int .i64 v33, .int .i64 v16, .bool v34, .bool false, .bool true] (ce rfl (ce rfl (ce rfl (ce rfl (ce rfl (ce rfl (ce rfl (ce rfl (rfl))))))))) ?_
                        intro e87
                        refine ld 0 hs31 rfl rfl rfl ?_
                        refine reqO q36 (fun h88 q38 => ?_)
                        clear q36
                        refine cdO q38 (fun h89 q39 => ?_) (fun h89 q40 => ?_)
                        · clear q38
                          refine nrmO [1, 2, 4, 5, 8, 9, 72, 77, 82, 83] [.int .i64 x1, .pointer (some ⟨b1, 0, none⟩), .int .i64 v32, .int .i64 v33, .int .i64 v16, .bool v34, .bool false, .bool true, .bool true, undef] (ce rfl (ce rfl (ce rfl (ce rfl (ce rfl (ce rfl (ce rfl (ce rfl (ce rfl (ce rfl (rfl))))))))))) ?_
                          intro e90
                          refine barN [1, 4, 5, 8, 9, 95] [.int .i64 x1, .int .i64 v32, .int .i64 v33, .int .i64 v16, .bool v34, .bool true] (ce rfl (ce rfl (ce rfl (ce rfl (ce rfl (ce rfl (rfl))))))) ?_
                          intro e91
                          refine bar ?_
                          refine hX48 _ _ _ (fun h => by cases h) ?_
                          refine nrmW [6] [.int .i64 ((12 : Int))] (ce rfl (rfl)) ?_
                          intro e92
                          refine bar ?_
                          refine barN [4, 5, 6] [.int .i64 ((0 : Int)), .int .i64 ((0 : Int)), .int .i64 ((12 : Int))] (ce rfl (ce rfl (ce rfl (rfl)))) ?_
                          intro e93
                          obtain rfl := Option.some.inj q39
                          exact k J28 w30 (hJ13.trans hJ29) (hs31.drop 0)
                        · clear q38
                          refine nrmP [1, 2, 4, 5, 8, 9, 72, 77, 82] [.int .i64 x1, .pointer (some ⟨b1, 0, none⟩), .int .i64 v32, .int .i64 v33, .int .i64 v16, .bool v34, .bool false, .bool true, .bool false] (ce rfl (ce rfl (ce rfl (ce rfl (ce rfl (ce rfl (ce rfl (ce rfl (ce rfl (rfl)))))))))) ?_
                          intro e94
                          refine ld 0 hs31 rfl rfl rfl ?_
                          refine req h88 ?_
                          refine cdO q40 (fun h95 q41 => ?_) (fun h95 q42 => ?_)
                          · clear q40
                            refine nrmO [1, 4, 5, 8, 9, 72, 77, 88, 89] [.int .i64 x1, .int .i64 v32, .int .i64 v33, .int .i64 v16, .bool v34, .bool false, .bool true, .bool true, undef] (ce rfl (ce rfl (ce rfl (ce rfl (ce rfl (ce rfl (ce rfl (ce rfl (ce rfl (rfl)))))))))) ?_
                            intro e96
                            refine barN [1, 4, 5, 8, 9, 95] [.int .i64 x1, .int .i64 v32, .int .i64 v33, .int .i64 v16, .bool v34, .bool true] (ce rfl (ce rfl (ce rfl (ce rfl (ce rfl (ce rfl (rfl))))))) ?_
                            intro e97
                            refine bar ?_
                            refine hX48 _ _ _ (fun h => by cases h) ?_
                            refine nrmW [6] [.int .i64 ((12 : Int))] (ce rfl (rfl)) ?_
                            intro e98
                            refine bar ?_
                            refine barN [4, 5, 6] [.int .i64 ((0 : Int)), .int .i64 ((0 : Int)), .int .i64 ((12 : Int))] (ce rfl (ce rfl (ce rfl (rfl)))) ?_
                            intro e99
                            obtain rfl := Option.some.inj q41
                            exact k J28 w30 (hJ13.trans hJ29) (hs31.drop 0)
                          · clear q40
                            refine nrmP [1, 2, 4, 5, 8, 9, 72, 77, 88] [.int .i64 x1, .pointer (some ⟨b1, 0, none⟩), .int .i64 v32, .int .i64 v33, .int .i64 v16, .bool v34, .bool false, .bool true, .bool false] (ce rfl (ce rfl (ce rfl (ce rfl (ce rfl (ce rfl (ce rfl (ce rfl (ce rfl (rfl)))))))))) ?_
                            intro e100
                            refine ld 0 hs31 rfl rfl rfl ?_
                            refine req h88 ?_
                            refine barN [1, 4, 5, 8, 9, 95] [.int .i64 x1, .int .i64 v32, .int .i64 v33, .int .i64 v16, .bool v34, .bool (decide (((x0.getD v33.toNat 0).toNat : Int) = (69 : Int)))] (ce rfl (ce rfl (ce rfl (ce rfl (ce rfl (ce rfl (rfl))))))) ?_
                            intro e101
                            refine cdO q42 (fun h102 q43 => ?_) (fun h102 q44 => ?_)
                            · clear q42
                              refine sqs ?_
                              refine bar ?_
                              refine hX48 _ _ _ (fun h => by cases h) ?_
                              refine nrmW [6] [.int .i64 ((12 : Int))] (ce rfl (rfl)) ?_
                              intro e103
                              refine bar ?_
                              refine barN [4, 5, 6] [.int .i64 ((0 : Int)), .int .i64 ((0 : Int)), .int .i64 ((12 : Int))] (ce rfl (ce rfl (ce rfl (rfl)))) ?_
                              intro e104
                              obtain rfl := Option.some.inj q43
                              exact k J28 w30 (hJ13.trans hJ29) (hs31.drop 0)
                            · clear q42
                              exact hN47 _ _ ⟨J28, (Le.refl _), ce rfl (ce rfl (ce rfl (ce rfl (ce rfl (rfl))))), hs31, q44⟩
                      · clear q22
                        refine nrmO [1, 2, 4, 5, 8, 9, 72, 77, 78] [.int .i64 x1, .pointer (some ⟨b1, 0, none⟩), .int .i64 v32, .int .i64 v33, .int .i64 v16, .bool v34, .bool false, .bool false, undef] (ce rfl (ce rfl (ce rfl (ce rfl (ce rfl (ce rfl (ce rfl (ce rfl (ce rfl (rfl)))))))))) ?_
                        intro e105
                        refine barN [1, 4, 5, 8, 9, 95] [.int .i64 x1, .int .i64 v32, .int .i64 v33, .int .i64 v16, .bool v34, .bool false] (ce rfl (ce rfl (ce rfl (ce rfl (ce rfl (ce rfl (rfl))))))) ?_
                        intro e106
                        exact hN47 _ _ ⟨J28, (Le.refl _), ce rfl (ce rfl (ce rfl (ce rfl (ce rfl (rfl))))), hs31, q37⟩
                · intro Q108 hN109 hX110
                  refine blk ?_
                  refine loopP q13 [1, 2, 4, 7, 8, 5, 9] (fun (s : Int × Int × Bool) vs w' => ∃ (J : Im), Le J12 J ∧ vs = [.int .i64 x1, .pointer (some ⟨b1, 0, none⟩), .int .i64 s.1, .func (.func 167) ⟨[]⟩ ⟨[.pointer (some ⟨b1, 0, none⟩)]⟩, .int .i64 v16, .int .i64 s.2.1, .bool s.2.2] ∧ St c J (.blk b1 (.cells ⟨[.string (bs x0)]⟩ 9) :: L) w') ⟨J12, Le.refl _, ce rfl (ce rfl (ce rfl (ce rfl (ce rfl (ce rfl (ce rfl (rfl))))))), hs15⟩ ?_
                  clear q13
                  rintro Z152 ⟨v148, v149, v150⟩ t151 vs e175 w146 hI q45 hZ153
                  try dsimp only at hI
                  obtain ⟨J144, hJ145, rfl, hs147⟩ := hI
                  replace q45 : p_num_Scan_b1 x0 x1 v16 v148 v149 v150 = some t151 := q45
                  unfold p_num_Scan_b1 at q45
                  refine blk ?_
                  refine sqs ?_
                  refine sqs ?_
                  refine fn_of good Tryd.func167 rfl rfl rfl ?_
                  refine sqs ?_
                  refine bar ?_
                  refine sqs ?_
                  refine ld 0 hs147 rfl rfl rfl ?_
                  refine cdO q45 (fun h154 q46 => ?_) (fun h154 q47 => ?_)
                  · clear q45
                    refine nrmP [0, 1, 8] [.int .i64 v149, .pointer (some ⟨b1, 0, none⟩), .bool true] (ce rfl (ce rfl (ce rfl (rfl)))) ?_
                    intro e155
                    refine ld 0 hs147 rfl rfl rfl ?_
                    refine reqO q46 (fun h156 q48 => ?_)
                    clear q46
                    refine cdO q48 (fun h157 q49 => ?_) (fun h157 q50 => ?_)
                    · clear q48
                      refine nrmP [0, 1, 14] [.int .i64 v149, .pointer (some ⟨b1, 0, none⟩), .bool true] (ce rfl (ce rfl (ce rfl (rfl)))) ?_
                      intro e158
                      refine ld 0 hs147 rfl rfl rfl ?_
                      refine req h156 ?_
                      refine barN [3] [.bool (decide (((x0.getD v149.toNat 0).toNat : Int) ≤ (57 : Int)))] (ce rfl (rfl)) ?_
                      intro e159
                      refine bar ?_
                      refine cnO q49 (fun h160 q51 => ?_) (fun h160 q52 => ?_)
                      · clear q49
                        refine bar ?_
                        refine sqs ?_
                        refine ld 0 hs147 rfl rfl rfl ?_
                        refine req h156 ?_
                        refine nrmO [1, 2, 5, 7, 8, 9, 46, 49] [.int .i64 x1, .pointer (some ⟨b1, 0, none⟩), .int .i64 v149, .func (.func 167) ⟨[]⟩ ⟨[.pointer (some ⟨b1, 0, none⟩)]⟩, .int .i64 v16, .bool v150, .int .i64 ((IntKind.i64.wrap ((10 : Int) * v148))), .int .u8 (((x0.getD v149.toNat 0).toNat : Int))] (ce rfl (ce rfl (ce rfl (ce rfl (ce rfl (ce rfl (ce rfl (ce rfl (rfl))))))))) ?_
                        intro e161
                        refine barN [1, 2, 4, 5, 7, 8, 9] [.int .i64 x1, .pointer (some ⟨b1, 0, none⟩), .int .i64 ((IntKind.i64.wrap ((IntKind.i64.wrap ((10 : Int) * v148)) + (IntKind.i64.wrap (IntKind.u8.wrap (((x0.getD v149.toNat 0).toNat : Int) - (48 : Int))))))), .int .i64 v149, .func (.func 167) ⟨[]⟩ ⟨[.pointer (some ⟨b1, 0, none⟩)]⟩, .int .i64 v16, .bool v150] (ce rfl (ce rfl (ce rfl (ce rfl (ce rfl (ce rfl (ce rfl (rfl)))))))) ?_
                        intro e162
                        refine sqs ?_
                        refine sqs ?_
                        refine bar ?_
                        refine cdO q51 (fun h163 q53 => ?_) (fun h163 q54 => ?_)
                        · clear q51
                          refine sqs ?_
                          refine bar ?_
                          refine barN [1, 2, 4, 5, 7, 8, 9] [.int .i64 x1, .pointer (some ⟨b1, 0, none⟩), .int .i64 ((9007199254740991 : Int)), .int .i64 v149, .func (.func 167) ⟨[]⟩ ⟨[.pointer (some ⟨b1, 0, none⟩)]⟩, .int .i64 v16, .bool true] (ce rfl (ce rfl (ce rfl (ce rfl (ce rfl (ce rfl (ce rfl (rfl)))))))) ?_
                          intro e164
                          obtain rfl := Option.some.inj q53
                          exact hZ153 _ _ ⟨J144, hJ145, ce rfl (ce rfl (ce rfl (ce rfl (ce rfl (ce rfl (ce rfl (rfl))))))), hs147⟩
                        · clear q51
                          refine bar ?_
                          obtain rfl := Option.some.inj q54
                          exact hZ153 _ _ ⟨J144, hJ145, ce rfl (ce rfl (ce rfl (ce rfl (ce rfl (ce rfl (ce rfl (rfl))))))), hs147⟩
                      · clear q49
                        obtain ⟨r165, hm166, rfl⟩ := mapO q52
                        clear q52
                        obtain rfl : r165 = _ := hZ153
                        exact hN109 _ _ ⟨v148, v149, v150, J144, hJ145, ce rfl (ce rfl (ce rfl (ce rfl (ce rfl (ce rfl (rfl)))))), hs147, hm166⟩
                    · clear q48
                      refine nrmO [0, 14, 15] [.int .i64 v149, .bool false, undef] (ce rfl (ce rfl (ce rfl (rfl)))) ?_
                      intro e167
                      refine barN [3] [.bool false] (ce rfl (rfl)) ?_
                      intro e168
                      refine bar ?_
                      obtain ⟨r169, hm170, rfl⟩ := mapO q50
                      clear q50
                      obtain rfl : r169 = _ := hZ153
                      exact hN109 _ _ ⟨v148, v149, v150, J144, hJ145, ce rfl (ce rfl (ce rfl (ce rfl (ce rfl (ce rfl (rfl)))))), hs147, hm170⟩
                  · clear q45
                    refine nrmO [0, 1, 8, 9] [.int .i64 v149, .pointer (some ⟨b1, 0, none⟩), .bool false, undef] (ce rfl (ce rfl (ce rfl (ce rfl (rfl))))) ?_
                    intro e171
                    refine barN [3] [.bool false] (ce rfl (rfl)) ?_
                    intro e172
                    refine bar ?_
                    obtain ⟨r173, hm174, rfl⟩ := mapO q47
                    clear q47
                    obtain rfl : r173 = _ := hZ153
                    exact hN109 _ _ ⟨v148, v149, v150, J144, hJ145, ce rfl (ce rfl (ce rfl (ce rfl (ce rfl (ce rfl (rfl)))))), hs147, hm174⟩
              · clear q11
                refine sqs ?_
                refine bar ?_
                refine nrmW [6] [.int .i64 ((6 : Int))] (ce rfl (rfl)) ?_
                intro e177
                refine bar ?_
                refine barN [4, 5, 6] [.int .i64 ((0 : Int)), .int .i64 ((0 : Int)), .int .i64 ((6 : Int))] (ce rfl (ce rfl (ce rfl (rfl)))) ?_
                intro e178
                obtain rfl := Option.some.inj q14
                exact k J12 w14 hJ13 (hs15.drop 0)
            · clear q10
              refine nrmO [0, 14, 15] [.int .i64 v16, .bool false, undef] (ce rfl (ce rfl (ce rfl (rfl)))) ?_
              intro e179
              refine barN [3] [.bool false] (ce rfl (rfl)) ?_
              intro e180
              refine bar ?_
              refine bar ?_
              refine nrmW [6] [.int .i64 ((6 : Int))] (ce rfl (rfl)) ?_
              intro e181
              refine bar ?_
              refine barN [4, 5, 6] [.int .i64 ((0 : Int)), .int .i64 ((0 : Int)), .int .i64 ((6 : Int))] (ce rfl (ce rfl (ce rfl (rfl)))) ?_
              intro e182
              obtain rfl := Option.some.inj q12
              exact k J12 w14 hJ13 (hs15.drop 0)
          · clear q7
            refine nrmO [0, 1, 8, 9] [.int .i64 v16, .pointer (some ⟨b1, 0, none⟩), .bool false, undef] (ce rfl (ce rfl (ce rfl (ce rfl (rfl))))) ?_
            intro e183
            refine barN [3] [.bool false] (ce rfl (rfl)) ?_
            intro e184
            refine bar ?_
            refine bar ?_
            refine nrmW [6] [.int .i64 ((6 : Int))] (ce rfl (rfl)) ?_
            intro e185
            refine bar ?_
            refine barN [4, 5, 6] [.int .i64 ((0 : Int)), .int .i64 ((0 : Int)), .int .i64 ((6 : Int))] (ce rfl (ce rfl (ce rfl (rfl)))) ?_
            intro e186
            obtain rfl := Option.some.inj q9
            exact k J12 w14 hJ13 (hs15.drop 0)
      · intro Q187 hN188 hX189
        refine sqs ?_
        refine ld 0 hs3 rfl rfl rfl ?_
        refine cdO q4 (fun h190 q55 => ?_) (fun h190 q56 => ?_)
        · clear q4
          refine nrmP [1, 2, 4, 7, 8, 24] [.int .i64 x1, .pointer (some ⟨b1, 0, none⟩), .int .i64 ((0 : Int)), .func (.func 167) ⟨[]⟩ ⟨[.pointer (some ⟨b1, 0, none⟩)]⟩, .int .i64 x1, .bool true] (ce rfl (ce rfl (ce rfl (ce rfl (ce rfl (ce rfl (rfl))))))) ?_
          intro e191
          refine ld 0 hs3 rfl rfl rfl ?_
          refine reqO q55 (fun h192 q57 => ?_)
          clear q55
          refine barN [1, 2, 4, 7, 8, 29] [.int .i64 x1, .pointer (some ⟨b1, 0, none⟩), .int .i64 ((0 : Int)), .func (.func 167) ⟨[]⟩ ⟨[.pointer (some ⟨b1, 0, none⟩)]⟩, .int .i64 x1, .bool (decide (((x0.getD x1.toNat 0).toNat : Int) = (45 : Int)))] (ce rfl (ce rfl (ce rfl (ce rfl (ce rfl (ce rfl (rfl))))))) ?_
          intro e193
          refine cdO q57 (fun h194 q58 => ?_) (fun h194 q59 => ?_)
          · clear q57
            exact hN188 _ _ ⟨(IntKind.i64.wrap (x1 + (1 : Int))), I, (Le.refl _), ce rfl (ce rfl (ce rfl (ce rfl (ce rfl (rfl))))), hs3, q58⟩
          · clear q57
            exact hN188 _ _ ⟨x1, I, (Le.refl _), ce rfl (ce rfl (ce rfl (ce rfl (ce rfl (rfl))))), hs3, q59⟩
        · clear q4
          refine nrmO [1, 2, 4, 7, 8, 24, 25] [.int .i64 x1, .pointer (some ⟨b1, 0, none⟩), .int .i64 ((0 : Int)), .func (.func 167) ⟨[]⟩ ⟨[.pointer (some ⟨b1, 0, none⟩)]⟩, .int .i64 x1, .bool false, undef] (ce rfl (ce rfl (ce rfl (ce rfl (ce rfl (ce rfl (ce rfl (rfl)))))))) ?_
          intro e195
          refine barN [1, 2, 4, 7, 8, 29] [.int .i64 x1, .pointer (some ⟨b1, 0, none⟩), .int .i64 ((0 : Int)), .func (.func 167) ⟨[]⟩ ⟨[.pointer (some ⟨b1, 0, none⟩)]⟩, .int .i64 x1, .bool false] (ce rfl (ce rfl (ce rfl (ce rfl (ce rfl (ce rfl (rfl))))))) ?_
          intro e196
          exact hN188 _ _ ⟨x1, I, (Le.refl _), ce rfl (ce rfl (ce rfl (ce rfl (ce rfl (rfl))))), hs3, q56⟩
def p_trail_place (x0 : Nd) (x1 : (List UInt8)) : Option (Int × Bool) :=
  ((p_num_Scan x1 (0 : Int)).bind fun z10 => (if z10.2.2 = (0 : Int) then (if z10.2.1 = (x1.length : Int) then (if z10.1 < (0 : Int) then (some ((0 : Int), false)) else (if ((x0.l.length : Nat) : Int) ≤ z10.1 then (some ((0 : Int), false)) else (some (z10.1, true)))) else (some ((0 : Int), false))) else (some ((0 : Int), false))))
set_option maxRecDepth 10000 in
set_option maxHeartbeats 4000000 in
theorem w_trail_place {c : Cx} {I : Im} {L : List Ent} {w : World} {K : Value → World → Prop} (x0 : Nd) (x1 : (List UInt8)) (r : Int × Bool) (hf : p_trail_place x0 x1 = some r) (hg : Glo I) (hX : ∀ b, ¬ c.X b) (hs : St c I L w) {cs0 : List Value} (ph0 : (RdN I) cs0 x0)
    (k : ∀  (J : Im) (w' : World), Le I J → St c J L w' → K (.tuple ⟨[.int .i64 r.1, .bool r.2]⟩) w') :
    callW Tryd.prog 115 [.agg ⟨cs0⟩, .string (bs x1)] K w := by
  obtain ⟨a1, c2, a4, c5, rfl, h3, h6⟩ := ph0.open
  unfold p_trail_place at hf
  refine fn_of good Tryd.func115 rfl rfl rfl ?_
  refine sqs ?_
  refine new hs ?_
  intro b7 w8 hs9
  have hs9 : St c I (.blk b7 (.cells ⟨[.int .i64 x0.kind, .int .i64 x0.n, .string (bs x0.s), .slice a1 (x0.k.length) c2, .slice a4 (x0.l.length) c5]⟩ 30) :: L) w8 := hs9
  refine bar ?_
  refine sqs ?_
  obtain ⟨z10, h11, q1⟩ := bindO hf
  clear hf
  refine w_num_Scan x1 (0 : Int) z10 h11 hg hX hs9 ?_
  intro J12 w14 hJ13 hs15
  refine barN [1, 2, 6, 7, 8] [.string (bs x1), .pointer (some ⟨b7, 0, none⟩), .int .i64 z10.1, .int .i64 z10.2.1, .int .i64 z10.2.2] (ce rfl (ce rfl (ce rfl (ce rfl (ce rfl (rfl)))))) ?_
  intro e16
  refine sqs ?_
  refine sqs ?_
  refine cnO q1 (fun h17 q2 => ?_) (fun h17 q3 => ?_)
  · clear q1
    refine nrmP [1, 2, 6, 7, 17] [.string (bs x1), .pointer (some ⟨b7, 0, none⟩), .int .i64 z10.1, .int .i64 z10.2.1, .bool false] (ce rfl (ce rfl (ce rfl (ce rfl (ce rfl (rfl)))))) ?_
    intro e18
    refine cnO q2 (fun h19 q4 => ?_) (fun h19 q5 => ?_)
    · clear q2
      refine nrmP [2, 6, 23] [.pointer (some ⟨b7, 0, none⟩), .int .i64 z10.1, .bool false] (ce rfl (ce rfl (ce rfl (rfl)))) ?_
      intro e20
      refine cdO q4 (fun h21 q6 => ?_) (fun h21 q7 => ?_)
      · clear q4
        refine nrmO [2, 6, 27, 28] [.pointer (some ⟨b7, 0, none⟩), .int .i64 z10.1, .bool true, undef] (ce rfl (ce rfl (ce rfl (ce rfl (rfl))))) ?_
        intro e22
        refine barN [6, 33] [.int .i64 z10.1, .bool true] (ce rfl (ce rfl (rfl))) ?_
        intro e23
        refine bar ?_
        obtain rfl := Option.some.inj q6
        exact k J12 w14 hJ13 (hs15.drop 0)
      · clear q4
        refine nrmP [2, 6, 27] [.pointer (some ⟨b7, 0, none⟩), .int .i64 z10.1, .bool false] (ce rfl (ce rfl (ce rfl (rfl)))) ?_
        intro e24
        refine ld 0 hs15 rfl rfl rfl ?_
        refine barN [6, 33] [.int .i64 z10.1, .bool (decide (((x0.l.length : Nat) : Int) ≤ z10.1))] (ce rfl (ce rfl (rfl))) ?_
        intro e25
        refine cdO q7 (fun h26 q8 => ?_) (fun h26 q9 => ?_)
        · clear q7
          refine sqs ?_
          refine bar ?_
          obtain rfl := Option.some.inj q8
          exact k J12 w14 hJ13 (hs15.drop 0)
        · clear q7
          refine bar ?_
          refine sqs ?_
          refine bar ?_
          obtain rfl := Option.some.inj q9
          exact k J12 w14 hJ13 (hs15.drop 0)
    · clear q2
      refine nrmO [2, 6, 23, 24] [.pointer (some ⟨b7, 0, none⟩), .int .i64 z10.1, .bool true, undef] (ce rfl (ce rfl (ce rfl (ce rfl (rfl))))) ?_
      intro e27
      refine barN [6, 33] [.int .i64 z10.1, .bool true] (ce rfl (ce rfl (rfl))) ?_
      intro e28
      refine bar ?_
      obtain rfl := Option.some.inj q5
      exact k J12 w14 hJ13 (hs15.drop 0)
  · clear q1
    refine nrmO [1, 2, 6, 17, 18] [.string (bs x1), .pointer (some ⟨b7, 0, none⟩), .int .i64 z10.1, .bool true, undef] (ce rfl (ce rfl (ce rfl (ce rfl (ce rfl (rfl)))))) ?_
    intro e29
    refine barN [6, 33] [.int .i64 z10.1, .bool true] (ce rfl (ce rfl (rfl))) ?_
    intro e30
    refine bar ?_
    obtain rfl := Option.some.inj q3
    exact k J12 w14 hJ13 (hs15.drop 0)
structure S_tree_entry where
  key : (List UInt8)
  value : Nd
def R_tree_entry (I : Im) (cs : List Value) (x : S_tree_entry) : Prop := ∃ a0 c0 a1 c1, cs = [.string (bs x.key), .int .i64 x.value.kind, .int .i64 x.value.n, .string (bs x.value.s), .slice a0 x.value.k.length c0, .slice a1 x.value.l.length c1] ∧ RdL I 1 RdS (.slice a0 x.value.k.length c0) x.value.k ∧ RdL I 5 (RdN I) (.slice a1 x.value.l.length c1) x.value.l
theorem R_tree_entry.up {I J : Im} (hl : Le I J) {cs : List Value} {x : S_tree_entry} (h : R_tree_entry I cs x) : R_tree_entry J cs x := by
  obtain ⟨a0, c0, a1, c1, rfl, h0, h1⟩ := h
  exact ⟨a0, c0, a1, c1, rfl, RdL.mono h0 hl (fun _ _ _ h => h), RdL.mono h1 hl (fun _ _ _ h => RdN.up hl h)⟩
theorem R_tree_entry.len {I : Im} {cs : List Value} {x : S_tree_entry} (h : R_tree_entry I cs x) : cs.length = 6 := by
  obtain ⟨a0, c0, a1, c1, rfl, h0, h1⟩ := h; rfl
theorem R_tree_entry_one {I : Im} : ∀ r x, R_tree_entry I r x → ∀ u ∈ r, u.oneCell' = true := by
  intro cs x h u hu
  obtain ⟨a0, c0, a1, c1, rfl, h0, h1⟩ := h
  simp at hu
  rcases hu with rfl | rfl | rfl | rfl | rfl | rfl <;> rfl
def p_tree_entries_b1 (x0 : Nd) (v339 : (List S_tree_entry)) (v344 : Int) : Option (((List S_tree_entry) × Int) ⊕ ((List S_tree_entry))) :=
  (if v344 < (if ((x0.l.length : Nat) : Int) < ((x0.k.length : Nat) : Int) then ((x0.l.length : Nat) : Int) else ((x0.k.length : Nat) : Int)) then ((getI x0.k v344).bind fun x385 => ((getI x0.l v344).bind fun x430 => (if v339.length + ([(S_tree_entry.mk x385 x430)] : List S_tree_entry).length ≤ 100000000000 then (some (.inl ((v339 ++ [(S_tree_entry.mk x385 x430)]), (IntKind.i64.wrap (v344 + (1 : Int)))))) else none))) else (Option.map Sum.inr (some v339)))
def p_tree_entries (x0 : Nd) : Option ((List S_tree_entry)) :=
  (loopO (fun (s : (List S_tree_entry) × Int) => p_tree_entries_b1 x0 s.1 s.2) (([] : (List S_tree_entry)), (0 : Int)))
set_option maxRecDepth 10000 in
set_option maxHeartbeats 4000000 in
theorem w_tree_entries {c : Cx} {I : Im} {L : List Ent} {w : World} {K : Value → World → Prop} (x0 : Nd) (r : (List S_tree_entry)) (hf : p_tree_entries x0 = some r) (hg : Glo I) (hX : ∀ b, ¬ c.X b) (hs : St c I L w) {cs0 : List Value} (ph0 : (RdN I) cs0 x0)
    (k : ∀ (ra0 : Option Addr) (rc0 : Nat) (J : Im) (w' : World), Le I J → St c J L w' → RdL J 6 (R_tree_entry J) (.slice ra0 r.length rc0) r → K (.slice ra0 r.length rc0) w') :
    callW Tryd.prog 124 [.agg ⟨cs0⟩] K w := by
  obtain ⟨a1, c2, a4, c5, rfl, h3, h6⟩ := ph0.open
  unfold p_tree_entries at hf
  refine fn_of good Tryd.func124 rfl rfl rfl ?_
  refine sqs ?_
  refine new hs ?_
  intro b7 w8 hs9
  have hs9 : St c I (.blk b7 (.cells ⟨[.int .i64 x0.kind, .int .i64 x0.n, .string (bs x0.s), .slice a1 (x0.k.length) c2, .slice a4 (x0.l.length) c5]⟩ 30) :: L) w8 := hs9
  refine bar ?_
  refine sqs ?_
  refine bar ?_
  refine sqs ?_
  refine sqs ?_
  refine ld 0 hs9 rfl rfl rfl ?_
  refine ld 0 hs9 rfl rfl rfl ?_
  refine nrmO [1, 3, 7, 9] [.pointer (some ⟨b7, 0, none⟩), .slice none (0) 0, .int .i64 (((x0.k.length : Nat) : Int)), .slice a4 (x0.l.length) c5] (ce rfl (ce rfl (ce rfl (ce rfl (rfl))))) ?_
  intro e10
  refine bar ?_
  refine blk ?_
  have hs334 := hs9.nil 154 6
  refine loopP hf [1, 3, 11, 12] (fun (s : (List S_tree_entry) × Int) vs w' => ∃ (J : Im) (a340 : Option Addr) (c341 : Nat) (cs342 : List Value), Le I J ∧ vs = [.pointer (some ⟨b7, 0, none⟩), .slice a340 (s.1.length) c341, .int .i64 ((if ((x0.l.length : Nat) : Int) < ((x0.k.length : Nat) : Int) then ((x0.l.length : Nat) : Int) else ((x0.k.length : Nat) : Int))), .int .i64 s.2] ∧ St c J (.row (.slice a340 (s.1.length) c341) 154 6 (s.1.length) cs342 :: .blk b7 (.cells ⟨[.int .i64 x0.kind, .int .i64 x0.n, .string (bs x0.s), .slice a1 (x0.k.length) c2, .slice a4 (x0.l.length) c5]⟩ 30) :: L) w' ∧ RdC 6 (R_tree_entry J) cs342 s.1) ⟨I, none, 0, [], Le.refl _, ce rfl (ce rfl (ce rfl (ce rfl (rfl)))), hs334, RdC.nil⟩ ?_
  clear hf
  rintro Z346 ⟨v339, v344⟩ t345 vs e506 w337 hI q1 hZ347
  try dsimp only at hI
  obtain ⟨J335, a340, c341, cs342, hJ336, rfl, hs338, h343⟩ := hI
  replace q1 : p_tree_entries_b1 x0 v339 v344 = some t345 := q1
  unfold p_tree_entries_b1 at q1
  refine sqs ?_
  refine bar ?_
  refine sqs ?_
  refine cdO q1 (fun h348 q2 => ?_) (fun h348 q3 => ?_)
  · clear q1
    refine bar ?_
    refine sqs ?_
    refine blk ?_
    refine sqs ?_
    refine bar ?_
    obtain ⟨x385, h391, q4⟩ := bindO q2
    clear q2
    obtain ⟨ad386, r387, h388, h389, h390, h392, h393, h394⟩ := RdL.getI (RdL.mono h3 hJ336 (fun _ _ _ h => h)) h391
    obtain rfl : r387 = [.string (bs x385)] := h392
    obtain ⟨x430, h436, q5⟩ := bindO q4
    clear q4
    obtain ⟨ad431, r432, h433, h434, h435, h437, h438, h439⟩ := RdL.getI (RdL.mono h6 hJ336 (fun _ _ _ h => RdN.up hJ336 h)) h436
    obtain ⟨a440, c441, a443, c444, rfl, h442, h445⟩ := h437.open
    obtain ⟨h482, q6⟩ := okO q5
    clear q5
    refine drawS good [1, 0] [[], [], [1], [], [1, 2, 3], [1, 2, 3, 4], [], [6], [], [6, 7, 8], [6, 7, 8, 9], [1, 2, 3, 4, 5, 6, 7, 8, 9, 10], [1, 2, 3, 4, 5, 6, 7, 8, 9, 10, 11], [0, 1, 2, 3, 4, 5, 6, 7, 8, 9, 10, 11, 12], [0, 1, 2, 3, 4, 5, 6, 7, 8, 9, 10, 11, 12, 13]] [pv (fun q349 => .slice a340 (v339.length) c341), pv (fun q349 => .pointer (some ⟨b7, 3, none⟩)), pv (fun q349 => .slice a1 (x0.k.length) c2), pv (fun q349 => .int .i64 v344), pv (fun q349 => .pointer (some (ad386.add ((v344).toNat * 1)))), pv (fun q349 => .string (bs x385)), pv (fun q349 => .pointer (some ⟨b7, 4, none⟩)), pv (fun q349 => .slice a4 (x0.l.length) c5), pv (fun q349 => .int .i64 v344), pv (fun q349 => .pointer (some (ad431.add ((v344).toNat * 5)))), pv (fun q349 => .agg ⟨[.int .i64 x430.kind, .int .i64 x430.n, .string (bs x430.s), .slice a440 (x430.k.length) c441, .slice a443 (x430.l.length) c444]⟩), pv (fun q349 => .agg ⟨[.string (bs x385), .int .i64 x430.kind, .int .i64 x430.n, .string (bs x430.s), .slice a440 (x430.k.length) c441, .slice a443 (x430.l.length) c444]⟩), ⟨fun q349 => .slice (some ⟨((q349 12).n 0), 0, none⟩) 1 1, fun q349 J => True, fun q349 I J hl h => h, [1], [], fun q349 _ => [.blk ((q349 12).n 0) (.cells ⟨[.string (bs x385), .int .i64 x430.kind, .int .i64 x430.n, .string (bs x430.s), .slice a440 (x430.k.length) c441, .slice a443 (x430.l.length) c444]⟩ 154)]⟩, ⟨fun q349 => .slice ((q349 13).a 0) ((v339 ++ [(S_tree_entry.mk x385 x430)]).length) ((q349 13).n 0), fun q349 J => RdC 6 (R_tree_entry J) ((q349 13).l 0) (v339 ++ [(S_tree_entry.mk x385 x430)]), fun q349 I J hl h => RdC.mono h (fun _ _ _ h => R_tree_entry.up hl h), [0, 1], [], fun q349 r => match Nat.beq r 0 with | true => [.row (.slice ((q349 13).a 0) ((v339 ++ [(S_tree_entry.mk x385 x430)]).length) ((q349 13).n 0)) 154 6 ((v339 ++ [(S_tree_entry.mk x385 x430)]).length) ((q349 13).l 0)] | false => []⟩, pv (fun q349 => .slice ((q349 13).a 0) ((v339 ++ [(S_tree_entry.mk x385 x430)]).length) ((q349 13).n 0))] (sel [[.row (.slice a340 (v339.length) c341) 154 6 (v339.length) cs342]] []) (R := .blk b7 (.cells ⟨[.int .i64 x0.kind, .int .i64 x0.n, .string (bs x0.s), .slice a1 (x0.k.length) c2, .slice a4 (x0.l.length) c5]⟩ 30) :: L) hs338 rfl ⟨fun _ _ _ _ _ _ _ h => ⟨Rc0, _, Le.refl _, rfl, trivial, h⟩, fun _ _ _ _ _ _ _ h => ⟨Rc0, _, Le.refl _, rfl, trivial, h⟩, ?_, fun _ _ _ _ _ _ _ h => ⟨Rc0, _, Le.refl _, rfl, trivial, h⟩, ?_, ?_, fun _ _ _ _ _ _ _ h => ⟨Rc0, _, Le.refl _, rfl, trivial, h⟩, ?_, fun _ _ _ _ _ _ _ h => ⟨Rc0, _, Le.refl _, rfl, trivial, h⟩, ?_, ?_, fun _ _ _ _ _ _ _ h => ⟨Rc0, _, Le.refl _, rfl, trivial, h⟩, ?_, ?_, fun _ _ _ _ _ _ _ h => ⟨Rc0, _, Le.refl _, rfl, trivial, h⟩, trivial⟩ ?_
    · intro q349 J364 Lo369 e368 w367 hJ365 hF370 hs366
      have hs366 : St c J364 (.blk b7 (.cells ⟨[.int .i64 x0.kind, .int .i64 x0.n, .string (bs x0.s), .slice a1 (x0.k.length) c2, .slice a4 (x0.l.length) c5]⟩ 30) :: (L ++ Lo369)) w367 := hs366
      refine ld 0 hs366 rfl rfl rfl ?_
      exact ⟨Rc0, J364, (Le.refl _), rfl, trivial, hs366⟩
    · intro q349 J378 Lo383 e382 w381 hJ379 hF384 hs380
      have hs380 : St c J378 (.blk b7 (.cells ⟨[.int .i64 x0.kind, .int .i64 x0.n, .string (bs x0.s), .slice a1 (x0.k.length) c2, .slice a4 (x0.l.length) c5]⟩ 30) :: (L ++ Lo383)) w381 := hs380
      refine idx h388 h389 h390 ?_
      exact ⟨Rc0, J378, (Le.refl _), rfl, trivial, hs380⟩
    · intro q349 J395 Lo400 e399 w398 hJ396 hF401 hs397
      have hs397 : St c J395 (.blk b7 (.cells ⟨[.int .i64 x0.kind, .int .i64 x0.n, .string (bs x0.s), .slice a1 (x0.k.length) c2, .slice a4 (x0.l.length) c5]⟩ 30) :: (L ++ Lo400)) w398 := hs397
      refine ldc1 (h394 _ (Imm.le hJ396 hs397.im) 0 _ rfl) ?_
      exact ⟨Rc0, J395, (Le.refl _), rfl, trivial, hs397⟩
    · intro q349 J409 Lo414 e413 w412 hJ410 hF415 hs411
      have hs411 : St c J409 (.blk b7 (.cells ⟨[.int .i64 x0.kind, .int .i64 x0.n, .string (bs x0.s), .slice a1 (x0.k.length) c2, .slice a4 (x0.l.length) c5]⟩ 30) :: (L ++ Lo414)) w412 := hs411
      refine ld 0 hs411 rfl rfl rfl ?_
      exact ⟨Rc0, J409, (Le.refl _), rfl, trivial, hs411⟩
    · intro q349 J423 Lo428 e427 w426 hJ424 hF429 hs425
      have hs425 : St c J423 (.blk b7 (.cells ⟨[.int .i64 x0.kind, .int .i64 x0.n, .string (bs x0.s), .slice a1 (x0.k.length) c2, .slice a4 (x0.l.length) c5]⟩ 30) :: (L ++ Lo428)) w426 := hs425
      refine idx h433 h434 h435 ?_
      exact ⟨Rc0, J423, (Le.refl _), rfl, trivial, hs425⟩
    · intro q349 J446 Lo451 e450 w449 hJ447 hF452 hs448
      have hs448 : St c J446 (.blk b7 (.cells ⟨[.int .i64 x0.kind, .int .i64 x0.n, .string (bs x0.s), .slice a1 (x0.k.length) c2, .slice a4 (x0.l.length) c5]⟩ 30) :: (L ++ Lo451)) w449 := hs448
      refine ldc (h439 _ (Imm.le hJ447 hs448.im)) rfl ?_
      exact ⟨Rc0, J446, (Le.refl _), rfl, trivial, hs448⟩
    · intro q349 J460 Lo465 e464 w463 hJ461 hF466 hs462
      have hs462 : St c J460 (.blk b7 (.cells ⟨[.int .i64 x0.kind, .int .i64 x0.n, .string (bs x0.s), .slice a1 (x0.k.length) c2, .slice a4 (x0.l.length) c5]⟩ 30) :: (L ++ Lo465)) w463 := hs462
      refine new hs462 ?_
      intro b467 w468 hs469
      have hs469 : St c J460 (.blk b467 (.cells ⟨[.string (bs x385), .int .i64 x430.kind, .int .i64 x430.n, .string (bs x430.s), .slice a440 (x430.k.length) c441, .slice a443 (x430.l.length) c444]⟩ 154) :: .blk b7 (.cells ⟨[.int .i64 x0.kind, .int .i64 x0.n, .string (bs x0.s), .slice a1 (x0.k.length) c2, .slice a4 (x0.l.length) c5]⟩ 30) :: (L ++ Lo465)) w468 := hs469
      exact ⟨⟨sel [] none, sel [b467] 0, sel [] []⟩, J460, (Le.refl _), rfl, trivial, hs469⟩
    · intro q349 J470 Lo475 e474 w473 hJ471 hF476 hs472
      have hs472 : St c J470 (.row (.slice a340 (v339.length) c341) 154 6 (v339.length) cs342 :: .blk ((q349 12).n 0) (.cells ⟨[.string (bs x385), .int .i64 x430.kind, .int .i64 x430.n, .string (bs x430.s), .slice a440 (x430.k.length) c441, .slice a443 (x430.l.length) c444]⟩ 154) :: .blk b7 (.cells ⟨[.int .i64 x0.kind, .int .i64 x0.n, .string (bs x0.s), .slice a1 (x0.k.length) c2, .slice a4 (x0.l.length) c5]⟩ 30) :: (L ++ Lo475)) w473 := hs472
      have h477 : RdC 6 (R_tree_entry J470) [.string (bs x385), .int .i64 x430.kind, .int .i64 x430.n, .string (bs x430.s), .slice a440 (x430.k.length) c441, .slice a443 (x430.l.length) c444] [(S_tree_entry.mk x385 x430)] := (RdC.snoc (sz := 6) (R := (R_tree_entry J470)) (RdC.nil (sz := 6) (R := (R_tree_entry J470))) rfl (show (R_tree_entry J470) [.string (bs x385), .int .i64 x430.kind, .int .i64 x430.n, .string (bs x430.s), .slice a440 (x430.k.length) c441, .slice a443 (x430.l.length) c444] (S_tree_entry.mk x385 x430) from ⟨a440, c441, a443, c444, rfl, (RdL.mono h442 hJ471 (fun _ _ _ h => h)), (RdL.mono h445 hJ471 (fun _ _ _ h => RdN.up hJ471 h))⟩))
      refine appO good 0 1 hs472 rfl rfl (h343.mono (fun _ _ _ h => R_tree_entry.up hJ471 h)) rfl h477 rfl rfl rfl rfl rfl rfl rfl h482 ?_
      intro a478 c479 cs480 w483 hs484 h481
      have hs484 : St c J470 (.row (.slice a478 ((v339 ++ [(S_tree_entry.mk x385 x430)]).length) c479) 154 6 ((v339 ++ [(S_tree_entry.mk x385 x430)]).length) cs480 :: .blk b7 (.cells ⟨[.int .i64 x0.kind, .int .i64 x0.n, .string (bs x0.s), .slice a1 (x0.k.length) c2, .slice a4 (x0.l.length) c5]⟩ 30) :: (L ++ Lo475)) w483 := hs484.drop 1
      exact ⟨⟨sel [a478] none, sel [c479] 0, sel [cs480] []⟩, J470, (Le.refl _), rfl, h481, hs484⟩
    intro q349 J493 e497 w496 hJ494 hF498 hs495
    have hs495 : St c J493 (.row (.slice ((q349 13).a 0) ((v339 ++ [(S_tree_entry.mk x385 x430)]).length) ((q349 13).n 0)) 154 6 ((v339 ++ [(S_tree_entry.mk x385 x430)]).length) ((q349 13).l 0) :: .blk b7 (.cells ⟨[.int .i64 x0.kind, .int .i64 x0.n, .string (bs x0.s), .slice a1 (x0.k.length) c2, .slice a4 (x0.l.length) c5]⟩ 30) :: L) w496 := hs495
    have h485 : RdC 6 (R_tree_entry J493) ((q349 13).l 0) (v339 ++ [(S_tree_entry.mk x385 x430)]) := (hF498 13 _ rfl)
    refine barN [1, 3, 11, 12] [.pointer (some ⟨b7, 0, none⟩), .slice ((q349 13).a 0) ((v339 ++ [(S_tree_entry.mk x385 x430)]).length) ((q349 13).n 0), .int .i64 ((if ((x0.l.length : Nat) : Int) < ((x0.k.length : Nat) : Int) then ((x0.l.length : Nat) : Int) else ((x0.k.length : Nat) : Int))), .int .i64 v344] (ce rfl (ce rfl (ce rfl (ce rfl (rfl))))) ?_
    intro e499
    obtain rfl := Option.some.inj q6
    exact hZ347 _ _ ⟨J493, ((q349 13).a 0), ((q349 13).n 0), ((q349 13).l 0), (hJ336.trans hJ494), ce rfl (ce rfl (ce rfl (ce rfl (rfl)))), hs495, h485⟩
  · clear q1
    obtain ⟨r500, hm501, rfl⟩ := mapO q3
    clear q3
    obtain rfl : r500 = _ := hZ347
    refine bar ?_
    refine sqs ?_
    refine bar ?_
    obtain ⟨J502, hJ503, hs504, h505⟩ := hs338.fixRow (i := 0) rfl hX h343 rfl
    have h505 := RdL.mono h505 (Le.refl _) (fun _ _ _ h => R_tree_entry.up hJ503 h)
    obtain rfl := Option.some.inj hm501
    exact k _ _ J502 w337 (hJ336.trans hJ503) (hs504.drop 0) h505
def p_tree_Get_b1 (x1 : (List UInt8)) (z15 : (List S_tree_entry)) (v94 : Int) : Option ((Int) ⊕ (Nd × Bool)) :=
  (if v94 < ((z15.length : Nat) : Int) then ((getI z15 v94).bind fun x99 => (if x99.key = x1 then (Option.map Sum.inr (some (x99.value, true))) else (some (.inl ((IntKind.i64.wrap (v94 + (1 : Int)))))))) else (Option.map Sum.inr (some ((Nd.mk (0 : Int) (0 : Int) ([] : List UInt8) [] []), false))))
def p_tree_Get (x0 : Nd) (x1 : (List UInt8)) : Option (Nd × Bool) :=
  (if x0.kind = (6 : Int) then ((p_tree_entries x0).bind fun z15 => (loopO (fun (s : Int) => p_tree_Get_b1 x1 z15 s) ((0 : Int)))) else (some ((Nd.mk (0 : Int) (0 : Int) ([] : List UInt8) [] []), false)))
set_option maxRecDepth 10000 in
set_option maxHeartbeats 4000000 in
theorem w_tree_Get {c : Cx} {I : Im} {L : List Ent} {w : World} {K : Value → World → Prop} (x0 : Nd) (x1 : (List UInt8)) (r : Nd × Bool) (hf : p_tree_Get x0 x1 = some r) (hg : Glo I) (hX : ∀ b, ¬ c.X b) (hs : St c I L w) {cs0 : List Value} (ph0 : (RdN I) cs0 x0)
    (k : ∀ (rs0 : List Value) (J : Im) (w' : World), Le I J → St c J L w' → (RdN J) rs0 r.1 → K (.tuple ⟨[.agg ⟨rs0⟩, .bool r.2]⟩) w') :
    callW Tryd.prog 71 [.agg ⟨cs0⟩, .string (bs x1)] K w := by
  obtain ⟨a1, c2, a4, c5, rfl, h3, h6⟩ := ph0.open
  unfold p_tree_Get at hf
  refine fn_of good Tryd.func71 rfl rfl rfl ?_
  refine sqs ?_
  refine new hs ?_
  intro b7 w8 hs9
  have hs9 : St c I (.blk b7 (.cells ⟨[.int .i64 x0.kind, .int .i64 x0.n, .string (bs x0.s), .slice a1 (x0.k.length) c2, .slice a4 (x0.l.length) c5]⟩ 30) :: L) w8 := hs9
  refine new hs9 ?_
  intro b10 w11 hs12
  have hs12 : St c I (.blk b10 (.cells ⟨[.int .i64 ((0 : Int)), .int .i64 ((0 : Int)), .string (bs ([] : List UInt8)), .slice none (0) 0, .slice none (0) 0]⟩ 30) :: .blk b7 (.cells ⟨[.int .i64 x0.kind, .int .i64 x0.n, .string (bs x0.s), .slice a1 (x0.k.length) c2, .slice a4 (x0.l.length) c5]⟩ 30) :: L) w11 := hs12
  refine bar ?_
  refine sqs ?_
  refine sqs ?_
  refine ld 1 hs12 rfl rfl rfl ?_
  refine barN [1, 2, 4, 10] [.string (bs x1), .pointer (some ⟨b7, 0, none⟩), .pointer (some ⟨b10, 0, none⟩), .bool (decide (x0.kind = (6 : Int)))] (ce rfl (ce rfl (ce rfl (ce rfl (rfl))))) ?_
  intro e13
  refine cdO hf (fun h14 q1 => ?_) (fun h14 q2 => ?_)
  · clear hf
    refine sqs ?_
    refine ld 1 hs12 rfl rfl rfl ?_
    obtain ⟨z15, h16, q3⟩ := bindO q1
    clear q1
    refine w_tree_entries x0 z15 h16 hg hX hs12 (RdN.of h3 h6) ?_
    intro a21 c22 J17 w19 hJ18 hs20 h23
    refine barN [1, 4, 12, 13, 14] [.string (bs x1), .pointer (some ⟨b10, 0, none⟩), .slice a21 (z15.length) c22, .int .i64 (((z15.length : Nat) : Int)), .int .i64 ((0 : Int))] (ce rfl (ce rfl (ce rfl (ce rfl (ce rfl (rfl)))))) ?_
    intro e24
    refine blk ?_
    refine loopP q3 [1, 4, 12, 13, 14] (fun (s : Int) vs w' => ∃ (J : Im), Le J17 J ∧ vs = [.string (bs x1), .pointer (some ⟨b10, 0, none⟩), .slice a21 (z15.length) c22, .int .i64 (((z15.length : Nat) : Int)), .int .i64 s] ∧ St c J (.blk b10 (.cells ⟨[.int .i64 ((0 : Int)), .int .i64 ((0 : Int)), .string (bs ([] : List UInt8)), .slice none (0) 0, .slice none (0) 0]⟩ 30) :: .blk b7 (.cells ⟨[.int .i64 x0.kind, .int .i64 x0.n, .string (bs x0.s), .slice a1 (x0.k.length) c2, .slice a4 (x0.l.length) c5]⟩ 30) :: L) w') ⟨J17, Le.refl _, ce rfl (ce rfl (ce rfl (ce rfl (ce rfl (rfl))))), hs20⟩ ?_
    clear q3
    rintro Z96 v94 t95 vs e133 w92 hI q4 hZ97
    try dsimp only at hI
    obtain ⟨J90, hJ91, rfl, hs93⟩ := hI
    replace q4 : p_tree_Get_b1 x1 z15 v94 = some t95 := q4
    unfold p_tree_Get_b1 at q4
    refine sqs ?_
    refine bar ?_
    refine sqs ?_
    refine cdO q4 (fun h98 q5 => ?_) (fun h98 q6 => ?_)
    · clear q4
      refine bar ?_
      refine sqs ?_
      refine blk ?_
      refine sqs ?_
      obtain ⟨x99, h105, q7⟩ := bindO q5
      clear q5
      obtain ⟨ad100, r101, h102, h103, h104, h106, h107, h108⟩ := RdL.getI (RdL.mono h23 hJ91 (fun _ _ _ h => R_tree_entry.up hJ91 h)) h105
      obtain ⟨a109, c110, a112, c113, rfl, h111, h114⟩ := h106
      refine idx h102 h103 h104 ?_
      refine ldc (h108 _ hs93.im) rfl ?_
      refine new hs93 ?_
      intro b115 w116 hs117
      have hs117 : St c J90 (.blk b115 (.cells ⟨[.string (bs ([] : List UInt8)), .int .i64 ((0 : Int)), .int .i64 ((0 : Int)), .string (bs ([] : List UInt8)), .slice none (0) 0, .slice none (0) 0]⟩ 154) :: .blk b10 (.cells ⟨[.int .i64 ((0 : Int)), .int .i64 ((0 : Int)), .string (bs ([] : List UInt8)), .slice none (0) 0, .slice none (0) 0]⟩ 30) :: .blk b7 (.cells ⟨[.int .i64 x0.kind, .int .i64 x0.n, .string (bs x0.s), .slice a1 (x0.k.length) c2, .slice a4 (x0.l.length) c5]⟩ 30) :: L) w116 := hs117
      refine sto 0 hs117 rfl rfl rfl ?_
      intro w118 hs119
      have hs119 : St c J90 (.blk b115 (.cells ⟨[.string (bs x99.key), .int .i64 x99.value.kind, .int .i64 x99.value.n, .string (bs x99.value.s), .slice a109 (x99.value.k.length) c110, .slice a112 (x99.value.l.length) c113]⟩ 154) :: .blk b10 (.cells ⟨[.int .i64 ((0 : Int)), .int .i64 ((0 : Int)), .string (bs ([] : List UInt8)), .slice none (0) 0, .slice none (0) 0]⟩ 30) :: .blk b7 (.cells ⟨[.int .i64 x0.kind, .int .i64 x0.n, .string (bs x0.s), .slice a1 (x0.k.length) c2, .slice a4 (x0.l.length) c5]⟩ 30) :: L) w118 := hs119
      refine barN [1, 4, 7, 12, 13, 14] [.string (bs x1), .pointer (some ⟨b10, 0, none⟩), .pointer (some ⟨b115, 0, none⟩), .slice a21 (z15.length) c22, .int .i64 (((z15.length : Nat) : Int)), .int .i64 v94] (ce rfl (ce rfl (ce rfl (ce rfl (ce rfl (ce rfl (rfl))))))) ?_
      intro e120
      refine sqs ?_
      refine ld 0 hs119 rfl rfl rfl ?_
      refine barN [1, 4, 7, 12, 13, 14, 21] [.string (bs x1), .pointer (some ⟨b10, 0, none⟩), .pointer (some ⟨b115, 0, none⟩), .slice a21 (z15.length) c22, .int .i64 (((z15.length : Nat) : Int)), .int .i64 v94, .bool (decide (x99.key = x1))] (ce rfl (ce rfl (ce rfl (ce rfl (ce rfl (ce rfl (ce rfl (rfl)))))))) ?_
      intro e121
      refine cdO q7 (fun h122 q8 => ?_) (fun h122 q9 => ?_)
      · clear q7
        refine sqs ?_
        refine ld 0 hs119 rfl rfl rfl ?_
        refine sto 1 hs119 rfl rfl rfl ?_
        intro w123 hs124
        have hs124 : St c J90 (.blk b115 (.cells ⟨[.string (bs x99.key), .int .i64 x99.value.kind, .int .i64 x99.value.n, .string (bs x99.value.s), .slice a109 (x99.value.k.length) c110, .slice a112 (x99.value.l.length) c113]⟩ 154) :: .blk b10 (.cells ⟨[.int .i64 x99.value.kind, .int .i64 x99.value.n, .string (bs x99.value.s), .slice a109 (x99.value.k.length) c110, .slice a112 (x99.value.l.length) c113]⟩ 30) :: .blk b7 (.cells ⟨[.int .i64 x0.kind, .int .i64 x0.n, .string (bs x0.s), .slice a1 (x0.k.length) c2, .slice a4 (x0.l.length) c5]⟩ 30) :: L) w123 := hs124
        refine barN [4, 5] [.pointer (some ⟨b10, 0, none⟩), .bool true] (ce rfl (ce rfl (rfl))) ?_
        intro e125
        obtain ⟨r126, hm127, rfl⟩ := mapO q8
        clear q8
        obtain rfl : r126 = _ := hZ97
        refine ld 1 hs124 rfl rfl rfl ?_
        obtain rfl := Option.some.inj hm127
        exact k _ J90 w123 (hJ18.trans hJ91) (((hs124.drop 0).drop 0).drop 0) (RdN.of h111 h114)
      · clear q7
        refine bar ?_
        obtain rfl := Option.some.inj q9
        exact hZ97 _ _ ⟨J90, hJ91, ce rfl (ce rfl (ce rfl (ce rfl (ce rfl (rfl))))), (hs119.drop 0)⟩
    · clear q4
      obtain ⟨r128, hm129, rfl⟩ := mapO q6
      clear q6
      obtain rfl : r128 = _ := hZ97
      refine bar ?_
      refine sqs ?_
      refine sto 0 hs93 rfl rfl rfl ?_
      intro w130 hs131
      have hs131 : St c J90 (.blk b10 (.cells ⟨[.int .i64 ((0 : Int)), .int .i64 ((0 : Int)), .string (bs ([] : List UInt8)), .slice none (0) 0, .slice none (0) 0]⟩ 30) :: .blk b7 (.cells ⟨[.int .i64 x0.kind, .int .i64 x0.n, .string (bs x0.s), .slice a1 (x0.k.length) c2, .slice a4 (x0.l.length) c5]⟩ 30) :: L) w130 := hs131
      refine barN [4, 5] [.pointer (some ⟨b10, 0, none⟩), .bool false] (ce rfl (ce rfl (rfl))) ?_
      intro e132
      refine ld 0 hs131 rfl rfl rfl ?_
      obtain rfl := Option.some.inj hm129
      exact k _ J90 w130 (hJ18.trans hJ91) ((hs131.drop 0).drop 0) (RdN.in (RdL.nil 0 none) (RdL.nil 0 none))
  · clear hf
    refine bar ?_
    refine sqs ?_
    refine sto 0 hs12 rfl rfl rfl ?_
    intro w134 hs135
    have hs135 : St c I (.blk b10 (.cells ⟨[.int .i64 ((0 : Int)), .int .i64 ((0 : Int)), .string (bs ([] : List UInt8)), .slice none (0) 0, .slice none (0) 0]⟩ 30) :: .blk b7 (.cells ⟨[.int .i64 x0.kind, .int .i64 x0.n, .string (bs x0.s), .slice a1 (x0.k.length) c2, .slice a4 (x0.l.length) c5]⟩ 30) :: L) w134 := hs135
    refine bar ?_
    refine ld 0 hs135 rfl rfl rfl ?_
    obtain rfl := Option.some.inj q2
    exact k _ I w134 (Le.refl _) ((hs135.drop 0).drop 0) (RdN.in (RdL.nil 0 none) (RdL.nil 0 none))
def p_trail_lead (x0 : Nd) (x1 : (List UInt8)) : Option (Nd × Bool) :=
  (if x0.kind = (5 : Int) then ((p_trail_place x0 x1).bind fun z15 => (if (!z15.2) = true then (some ((Nd.mk (0 : Int) (0 : Int) ([] : List UInt8) [] []), false)) else ((getI x0.l z15.1).bind fun x26 => (some (x26, true))))) else ((p_tree_Get x0 x1).bind fun z45 => (some (z45.1, z45.2))))
set_option maxRecDepth 10000 in
set_option maxHeartbeats 4000000 in
theorem w_trail_lead {c : Cx} {I : Im} {L : List Ent} {w : World} {K : Value → World → Prop} (x0 : Nd) (x1 : (List UInt8)) (r : Nd × Bool) (hf : p_trail_lead x0 x1 = some r) (hg : Glo I) (hX : ∀ b, ¬ c.X b) (hs : St c I L w) {cs0 : List Value} (ph0 : (RdN I) cs0 x0)
    (k : ∀ (rs0 : List Value) (J : Im) (w' : World), Le I J → St c J L w' → (RdN J) rs0 r.1 → K (.tuple ⟨[.agg ⟨rs0⟩, .bool r.2]⟩) w') :
    callW Tryd.prog 113 [.agg ⟨cs0⟩, .string (bs x1)] K w := by
  obtain ⟨a1, c2, a4, c5, rfl, h3, h6⟩ := ph0.open
  unfold p_trail_lead at hf
  refine fn_of good Tryd.func113 rfl rfl rfl ?_
  refine sqs ?_
  refine new hs ?_
  intro b7 w8 hs9
  have hs9 : St c I (.blk b7 (.cells ⟨[.int .i64 x0.kind, .int .i64 x0.n, .string (bs x0.s), .slice a1 (x0.k.length) c2, .slice a4 (x0.l.length) c5]⟩ 30) :: L) w8 := hs9
  refine new hs9 ?_
  intro b10 w11 hs12
  have hs12 : St c I (.blk b10 (.cells ⟨[.int .i64 ((0 : Int)), .int .i64 ((0 : Int)), .string (bs ([] : List UInt8)), .slice none (0) 0, .slice none (0) 0]⟩ 30) :: .blk b7 (.cells ⟨[.int .i64 x0.kind, .int .i64 x0.n, .string (bs x0.s), .slice a1 (x0.k.length) c2, .slice a4 (x0.l.length) c5]⟩ 30) :: L) w11 := hs12
  refine bar ?_
  refine sqs ?_
  refine sqs ?_
  refine ld 1 hs12 rfl rfl rfl ?_
  refine barN [1, 2, 4, 10] [.string (bs x1), .pointer (some ⟨b7, 0, none⟩), .pointer (some ⟨b10, 0, none⟩), .bool (!decide (x0.kind = (5 : Int)))] (ce rfl (ce rfl (ce rfl (ce rfl (rfl))))) ?_
  intro e13
  refine cnO hf (fun h14 q1 => ?_) (fun h14 q2 => ?_)
  · clear hf
    refine bar ?_
    refine sqs ?_
    refine ld 1 hs12 rfl rfl rfl ?_
    obtain ⟨z15, h16, q3⟩ := bindO q1
    clear q1
    refine w_trail_place x0 x1 z15 h16 hg hX hs12 (RdN.of h3 h6) ?_
    intro J17 w19 hJ18 hs20
    refine barN [2, 4, 6, 7] [.pointer (some ⟨b7, 0, none⟩), .pointer (some ⟨b10, 0, none⟩), .int .i64 z15.1, .bool z15.2] (ce rfl (ce rfl (ce rfl (ce rfl (rfl))))) ?_
    intro e21
    refine sqs ?_
    refine sqs ?_
    refine bar ?_
    refine csO q3 (fun h22 q4 => ?_) (fun h22 q5 => ?_)
    · clear q3
      refine sqs ?_
      refine sto 0 hs20 rfl rfl rfl ?_
      intro w23 hs24
      have hs24 : St c J17 (.blk b10 (.cells ⟨[.int .i64 ((0 : Int)), .int .i64 ((0 : Int)), .string (bs ([] : List UInt8)), .slice none (0) 0, .slice none (0) 0]⟩ 30) :: .blk b7 (.cells ⟨[.int .i64 x0.kind, .int .i64 x0.n, .string (bs x0.s), .slice a1 (x0.k.length) c2, .slice a4 (x0.l.length) c5]⟩ 30) :: L) w23 := hs24
      refine barN [4, 5] [.pointer (some ⟨b10, 0, none⟩), .bool false] (ce rfl (ce rfl (rfl))) ?_
      intro e25
      refine ld 0 hs24 rfl rfl rfl ?_
      obtain rfl := Option.some.inj q4
      exact k _ J17 w23 hJ18 ((hs24.drop 0).drop 0) (RdN.in (RdL.nil 0 none) (RdL.nil 0 none))
    · clear q3
      refine bar ?_
      refine sqs ?_
      refine ld 1 hs20 rfl rfl rfl ?_
      obtain ⟨x26, h32, q6⟩ := bindO q5
      clear q5
      obtain ⟨ad27, r28, h29, h30, h31, h33, h34, h35⟩ := RdL.getI (RdL.mono h6 hJ18 (fun _ _ _ h => RdN.up hJ18 h)) h32
      obtain ⟨a36, c37, a39, c40, rfl, h38, h41⟩ := h33.open
      refine idx h29 h30 h31 ?_
      refine nrmO [4, 28] [.pointer (some ⟨b10, 0, none⟩), .pointer (some (ad27.add ((z15.1).toNat * 5)))] (ce rfl (ce rfl (rfl))) ?_
      intro e42
      refine ldc (h35 _ hs20.im) rfl ?_
      refine sto 0 hs20 rfl rfl rfl ?_
      intro w43 hs44
      have hs44 : St c J17 (.blk b10 (.cells ⟨[.int .i64 x26.kind, .int .i64 x26.n, .string (bs x26.s), .slice a36 (x26.k.length) c37, .slice a39 (x26.l.length) c40]⟩ 30) :: .blk b7 (.cells ⟨[.int .i64 x0.kind, .int .i64 x0.n, .string (bs x0.s), .slice a1 (x0.k.length) c2, .slice a4 (x0.l.length) c5]⟩ 30) :: L) w43 := hs44
      refine bar ?_
      refine ld 0 hs44 rfl rfl rfl ?_
      obtain rfl := Option.some.inj q6
      exact k _ J17 w43 hJ18 ((hs44.drop 0).drop 0) (RdN.of h38 h41)
  · clear hf
    refine sqs ?_
    refine ld 1 hs12 rfl rfl rfl ?_
    obtain ⟨z45, h46, q7⟩ := bindO q2
    clear q2
    refine w_tree_Get x0 x1 z45 h46 hg hX hs12 (RdN.of h3 h6) ?_
    intro cs51 J47 w49 hJ48 hs50 h52
    obtain ⟨a53, c54, a56, c57, rfl, h55, h58⟩ := h52.open
    refine sto 0 hs50 rfl rfl rfl ?_
    intro w59 hs60
    have hs60 : St c J47 (.blk b10 (.cells ⟨[.int .i64 z45.1.kind, .int .i64 z45.1.n, .string (bs z45.1.s), .slice a53 (z45.1.k.length) c54, .slice a56 (z45.1.l.length) c57]⟩ 30) :: .blk b7 (.cells ⟨[.int .i64 x0.kind, .int .i64 x0.n, .string (bs x0.s), .slice a1 (x0.k.length) c2, .slice a4 (x0.l.length) c5]⟩ 30) :: L) w59 := hs60
    refine nrmO [4, 15] [.pointer (some ⟨b10, 0, none⟩), .bool z45.2] (ce rfl (ce rfl (rfl))) ?_
    intro e61
    refine bar ?_
    refine ld 0 hs60 rfl rfl rfl ?_
    obtain rfl := Option.some.inj q7
    exact k _ J47 w59 hJ48 ((hs60.drop 0).drop 0) (RdN.of h55 h58)
def p_trail_At_b1 (x1 : (List (List UInt8))) (v114 : Int) (v115 : Int) (v116 : Int) (v117 : (List UInt8)) (v118 : (List (List UInt8))) (v122 : (List Nd)) : Option ((Int × Int × Int × (List UInt8) × (List (List UInt8)) × (List Nd)) ⊕ (Nd × Bool)) :=
  (if v114 < ((x1.length : Nat) : Int) then ((getI x1 v114).bind fun x130 => ((p_trail_lead (Nd.mk v115 v116 v117 v118 v122) x130).bind fun z141 => (if (!z141.2) = true then (Option.map Sum.inr (some ((Nd.mk (0 : Int) (0 : Int) ([] : List UInt8) [] []), false))) else (some (.inl ((IntKind.i64.wrap (v114 + (1 : Int))), z141.1.kind, z141.1.n, z141.1.s, z141.1.k, z141.1.l)))))) else (Option.map Sum.inr (some ((Nd.mk v115 v116 v117 v118 v122), true))))
def p_trail_At (x0 : Nd) (x1 : (List (List UInt8))) : Option (Nd × Bool) :=
  (loopO (fun (s : Int × Int × Int × (List UInt8) × (List (List UInt8)) × (List Nd)) => p_trail_At_b1 x1 s.1 s.2.1 s.2.2.1 s.2.2.2.1 s.2.2.2.2.1 s.2.2.2.2.2) ((0 : Int), x0.kind, x0.n, x0.s, x0.k, x0.l))
set_option maxRecDepth 10000 in
set_option maxHeartbeats 4000000 in
theorem w_trail_At {c : Cx} {I : Im} {L : List Ent} {w : World} {K : Value → World → Prop} (x0 : Nd) (x1 : (List (List UInt8))) (r : Nd × Bool) (hf : p_trail_At x0 x1 = some r) (hg : Glo I) (hX : ∀ b, ¬ c.X b) (hs : St c I L w) {cs0 : List Value} {pa1 : Option Addr} {pn1 pc1 : Nat} (ph0 : (RdN I) cs0 x0) (ph1 : RdL I 1 RdS (.slice pa1 pn1 pc1) x1)
    (k : ∀ (rs0 : List Value) (J : Im) (w' : World), Le I J → St c J L w' → (RdN J) rs0 r.1 → K (.tuple ⟨[.agg ⟨rs0⟩, .bool r.2]⟩) w') :
    callW Tryd.prog 58 [.agg ⟨cs0⟩, .slice pa1 pn1 pc1] K w := by
  obtain ⟨a1, c2, a4, c5, rfl, h3, h6⟩ := ph0.open
  obtain rfl : pn1 = x1.length := ph1.lenEq
  unfold p_trail_At at hf
  refine fn_of good Tryd.func58 rfl rfl rfl ?_
  refine sqs ?_
  refine new hs ?_
  intro b7 w8 hs9
  have hs9 : St c I (.blk b7 (.cells ⟨[.int .i64 x0.kind, .int .i64 x0.n, .string (bs x0.s), .slice a1 (x0.k.length) c2, .slice a4 (x0.l.length) c5]⟩ 30) :: L) w8 := hs9
  refine new hs9 ?_
  intro b10 w11 hs12
  have hs12 : St c I (.blk b10 (.cells ⟨[.int .i64 ((0 : Int)), .int .i64 ((0 : Int)), .string (bs ([] : List UInt8)), .slice none (0) 0, .slice none (0) 0]⟩ 30) :: .blk b7 (.cells ⟨[.int .i64 x0.kind, .int .i64 x0.n, .string (bs x0.s), .slice a1 (x0.k.length) c2, .slice a4 (x0.l.length) c5]⟩ 30) :: L) w11 := hs12
  refine bar ?_
  refine sqs ?_
  refine sqs ?_
  refine barN [2, 4, 10, 11, 12] [.pointer (some ⟨b7, 0, none⟩), .pointer (some ⟨b10, 0, none⟩), .slice pa1 (x1.length) pc1, .int .i64 (((x1.length : Nat) : Int)), .int .i64 ((0 : Int))] (ce rfl (ce rfl (ce rfl (ce rfl (ce rfl (rfl)))))) ?_
  intro e13
  refine blk ?_
  refine loopP hf [2, 4, 10, 11, 12] (fun (s : Int × Int × Int × (List UInt8) × (List (List UInt8)) × (List Nd)) vs w' => ∃ (J : Im) (a119 : Option Addr) (c120 : Nat) (a123 : Option Addr) (c124 : Nat), Le I J ∧ vs = [.pointer (some ⟨b7, 0, none⟩), .pointer (some ⟨b10, 0, none⟩), .slice pa1 (x1.length) pc1, .int .i64 (((x1.length : Nat) : Int)), .int .i64 s.1] ∧ St c J (.blk b10 (.cells ⟨[.int .i64 ((0 : Int)), .int .i64 ((0 : Int)), .string (bs ([] : List UInt8)), .slice none (0) 0, .slice none (0) 0]⟩ 30) :: .blk b7 (.cells ⟨[.int .i64 s.2.1, .int .i64 s.2.2.1, .string (bs s.2.2.2.1), .slice a119 (s.2.2.2.2.1.length) c120, .slice a123 (s.2.2.2.2.2.length) c124]⟩ 30) :: L) w' ∧ RdL J 1 RdS (.slice a119 s.2.2.2.2.1.length c120) s.2.2.2.2.1 ∧ RdL J 5 (RdN J) (.slice a123 s.2.2.2.2.2.length c124) s.2.2.2.2.2) ⟨I, a1, c2, a4, c5, Le.refl _, ce rfl (ce rfl (ce rfl (ce rfl (ce rfl (rfl))))), hs12, h3, h6⟩ ?_
  clear hf
  rintro Z127 ⟨v114, v115, v116, v117, v118, v122⟩ t126 vs e174 w112 hI q1 hZ128
  try dsimp only at hI
  obtain ⟨J110, a119, c120, a123, c124, hJ111, rfl, hs113, h121, h125⟩ := hI
  replace q1 : p_trail_At_b1 x1 v114 v115 v116 v117 v118 v122 = some t126 := q1
  unfold p_trail_At_b1 at q1
  refine sqs ?_
  refine bar ?_
  refine sqs ?_
  refine cdO q1 (fun h129 q2 => ?_) (fun h129 q3 => ?_)
  · clear q1
    refine bar ?_
    refine sqs ?_
    refine blk ?_
    refine sqs ?_
    obtain ⟨x130, h136, q4⟩ := bindO q2
    clear q2
    obtain ⟨ad131, r132, h133, h134, h135, h137, h138, h139⟩ := RdL.getI (RdL.mono ph1 hJ111 (fun _ _ _ h => h)) h136
    obtain rfl : r132 = [.string (bs x130)] := h137
    refine idx h133 h134 h135 ?_
    refine ldc1 (h139 _ hs113.im 0 _ rfl) ?_
    refine barN [2, 4, 7, 10, 11, 12] [.pointer (some ⟨b7, 0, none⟩), .pointer (some ⟨b10, 0, none⟩), .string (bs x130), .slice pa1 (x1.length) pc1, .int .i64 (((x1.length : Nat) : Int)), .int .i64 v114] (ce rfl (ce rfl (ce rfl (ce rfl (ce rfl (ce rfl (rfl))))))) ?_
    intro e140
    refine sqs ?_
    refine ld 1 hs113 rfl rfl rfl ?_
    obtain ⟨z141, h142, q5⟩ := bindO q4
    clear q4
    refine w_trail_lead (Nd.mk v115 v116 v117 v118 v122) x130 z141 h142 (hg.le hJ111) hX hs113 (RdN.in h121 h125) ?_
    intro cs147 J143 w145 hJ144 hs146 h148
    obtain ⟨a149, c150, a152, c153, rfl, h151, h154⟩ := h148.open
    refine new hs146 ?_
    intro b155 w156 hs157
    have hs157 : St c J143 (.blk b155 (.cells ⟨[.int .i64 ((0 : Int)), .int .i64 ((0 : Int)), .string (bs ([] : List UInt8)), .slice none (0) 0, .slice none (0) 0]⟩ 30) :: .blk b10 (.cells ⟨[.int .i64 ((0 : Int)), .int .i64 ((0 : Int)), .string (bs ([] : List UInt8)), .slice none (0) 0, .slice none (0) 0]⟩ 30) :: .blk b7 (.cells ⟨[.int .i64 v115, .int .i64 v116, .string (bs v117), .slice a119 (v118.length) c120, .slice a123 (v122.length) c124]⟩ 30) :: L) w156 := hs157
    refine nrmO [2, 4, 8, 10, 11, 12, 20, 21] [.pointer (some ⟨b7, 0, none⟩), .pointer (some ⟨b10, 0, none⟩), .pointer (some ⟨b155, 0, none⟩), .slice pa1 (x1.length) pc1, .int .i64 (((x1.length : Nat) : Int)), .int .i64 v114, .agg ⟨[.int .i64 z141.1.kind, .int .i64 z141.1.n, .string (bs z141.1.s), .slice a149 (z141.1.k.length) c150, .slice a152 (z141.1.l.length) c153]⟩, .bool z141.2] (ce rfl (ce rfl (ce rfl (ce rfl (ce rfl (ce rfl (ce rfl (ce rfl (rfl))))))))) ?_
    intro e158
    refine sto 0 hs157 rfl rfl rfl ?_
    intro w159 hs160
    have hs160 : St c J143 (.blk b155 (.cells ⟨[.int .i64 z141.1.kind, .int .i64 z141.1.n, .string (bs z141.1.s), .slice a149 (z141.1.k.length) c150, .slice a152 (z141.1.l.length) c153]⟩ 30) :: .blk b10 (.cells ⟨[.int .i64 ((0 : Int)), .int .i64 ((0 : Int)), .string (bs ([] : List UInt8)), .slice none (0) 0, .slice none (0) 0]⟩ 30) :: .blk b7 (.cells ⟨[.int .i64 v115, .int .i64 v116, .string (bs v117), .slice a119 (v118.length) c120, .slice a123 (v122.length) c124]⟩ 30) :: L) w159 := hs160
    refine bar ?_
    refine sqs ?_
    refine sqs ?_
    refine barN [2, 4, 8, 10, 11, 12, 23] [.pointer (some ⟨b7, 0, none⟩), .pointer (some ⟨b10, 0, none⟩), .pointer (some ⟨b155, 0, none⟩), .slice pa1 (x1.length) pc1, .int .i64 (((x1.length : Nat) : Int)), .int .i64 v114, .bool (!z141.2)] (ce rfl (ce rfl (ce rfl (ce rfl (ce rfl (ce rfl (ce rfl (rfl)))))))) ?_
    intro e161
    refine csO q5 (fun h162 q6 => ?_) (fun h162 q7 => ?_)
    · clear q5
      refine sqs ?_
      refine sto 1 hs160 rfl rfl rfl ?_
      intro w163 hs164
      have hs164 : St c J143 (.blk b155 (.cells ⟨[.int .i64 z141.1.kind, .int .i64 z141.1.n, .string (bs z141.1.s), .slice a149 (z141.1.k.length) c150, .slice a152 (z141.1.l.length) c153]⟩ 30) :: .blk b10 (.cells ⟨[.int .i64 ((0 : Int)), .int .i64 ((0 : Int)), .string (bs ([] : List UInt8)), .slice none (0) 0, .slice none (0) 0]⟩ 30) :: .blk b7 (.cells ⟨[.int .i64 v115, .int .i64 v116, .string (bs v117), .slice a119 (v118.length) c120, .slice a123 (v122.length) c124]⟩ 30) :: L) w163 := hs164
      refine bar ?_
      obtain ⟨r165, hm166, rfl⟩ := mapO q6
      clear q6
      obtain rfl : r165 = _ := hZ128
      refine ld 1 hs164 rfl rfl rfl ?_
      obtain rfl := Option.some.inj hm166
      exact k _ J143 w163 (hJ111.trans hJ144) (((hs164.drop 0).drop 0).drop 0) (RdN.in (RdL.nil 0 none) (RdL.nil 0 none))
    · clear q5
      refine bar ?_
      refine ld 0 hs160 rfl rfl rfl ?_
      refine sto 2 hs160 rfl rfl rfl ?_
      intro w167 hs168
      have hs168 : St c J143 (.blk b155 (.cells ⟨[.int .i64 z141.1.kind, .int .i64 z141.1.n, .string (bs z141.1.s), .slice a149 (z141.1.k.length) c150, .slice a152 (z141.1.l.length) c153]⟩ 30) :: .blk b10 (.cells ⟨[.int .i64 ((0 : Int)), .int .i64 ((0 : Int)), .string (bs ([] : List UInt8)), .slice none (0) 0, .slice none (0) 0]⟩ 30) :: .blk b7 (.cells ⟨[.int .i64 z141.1.kind, .int .i64 z141.1.n, .string (bs z141.1.s), .slice a149 (z141.1.k.length) c150, .slice a152 (z141.1.l.length) c153]⟩ 30) :: L) w167 := hs168
      refine bar ?_
      obtain rfl := Option.some.inj q7
      exact hZ128 _ _ ⟨J143, a149, c150, a152, c153, (hJ111.trans hJ144), ce rfl (ce rfl (ce rfl (ce rfl (ce rfl (rfl))))), (hs168.drop 0), h151, h154⟩
  · clear q1
    obtain ⟨r169, hm170, rfl⟩ := mapO q3
    clear q3
    obtain rfl : r169 = _ := hZ128
    refine bar ?_
    refine sqs ?_
    refine ld 1 hs113 rfl rfl rfl ?_
    refine sto 0 hs113 rfl rfl rfl ?_
    intro w171 hs172
    have hs172 : St c J110 (.blk b10 (.cells ⟨[.int .i64 v115, .int .i64 v116, .string (bs v117), .slice a119 (v118.length) c120, .slice a123 (v122.length) c124]⟩ 30) :: .blk b7 (.cells ⟨[.int .i64 v115, .int .i64 v116, .string (bs v117), .slice a119 (v118.length) c120, .slice a123 (v122.length) c124]⟩ 30) :: L) w171 := hs172
    refine barN [4, 5] [.pointer (some ⟨b10, 0, none⟩), .bool true] (ce rfl (ce rfl (rfl))) ?_
    intro e173
    refine ld 0 hs172 rfl rfl rfl ?_
    obtain rfl := Option.some.inj hm170
    exact k _ J110 w171 hJ111 ((hs172.drop 0).drop 0) (RdN.in h121 h125)
def p_tree_Int (x0 : Int) : Option (Nd) :=
  (some (Nd.mk (3 : Int) x0 ([] : List UInt8) [] []))
set_option maxRecDepth 10000 in
set_option maxHeartbeats 4000000 in
theorem w_tree_Int {c : Cx} {I : Im} {L : List Ent} {w : World} {K : Value → World → Prop} (x0 : Int) (r : Nd) (hf : p_tree_Int x0 = some r) (hg : Glo I) (hX : ∀ b, ¬ c.X b) (hs : St c I L w)  
    (k : ∀ (rs0 : List Value) (J : Im) (w' : World), Le I J → St c J L w' → (RdN J) rs0 r → K (.agg ⟨rs0⟩) w') :
    callW Tryd.prog 60 [.int .i64 x0] K w := by
  unfold p_tree_Int at hf
  refine fn_of good Tryd.func60 rfl rfl rfl ?_
  refine sqs ?_
  refine new hs ?_
  intro b1 w2 hs3
  have hs3 : St c I (.blk b1 (.cells ⟨[.int .i64 ((0 : Int)), .int .i64 ((0 : Int)), .string (bs ([] : List UInt8)), .slice none (0) 0, .slice none (0) 0]⟩ 30) :: L) w2 := hs3
  refine bar ?_
  refine sqs ?_
  refine sto 0 hs3 rfl rfl rfl ?_
  intro w4 hs5
  have hs5 : St c I (.blk b1 (.cells ⟨[.int .i64 ((3 : Int)), .int .i64 x0, .string (bs ([] : List UInt8)), .slice none (0) 0, .slice none (0) 0]⟩ 30) :: L) w4 := hs5
  refine barN [2] [.pointer (some ⟨b1, 0, none⟩)] (ce rfl (rfl)) ?_
  intro e6
  refine ld 0 hs5 rfl rfl rfl ?_
  obtain rfl := Option.some.inj hf
  exact k _ I w4 (Le.refl _) (hs5.drop 0) (RdN.in (RdL.nil 0 none) (RdL.nil 0 none))
def p_law08_lives  : Option (Bool) :=
  ((p_tree_Text ([97] : List UInt8)).bind fun z1 => ((p_tree_Int (5 : Int)).bind fun z15 => ((p_tree_Int (6 : Int)).bind fun z29 => ((p_tree_List [z15, z29]).bind fun z51 => ((p_tree_Map [z1, z51]).bind fun z74 => ((p_trail_At z74 [([97] : List UInt8), ([49] : List UInt8)]).bind fun z102 => ((p_trail_Read ([97] : List UInt8)).bind fun z122 => ((p_trail_Read ([47, 126, 50] : List UInt8)).bind fun z132 => (if z102.2 = true then (if z102.1.n = (6 : Int) then ((p_trail_Write [([97, 47, 98] : List UInt8), ([126] : List UInt8)]).bind fun z153 => (if z153 = ([47, 97, 126, 49, 98, 47, 126, 48] : List UInt8) then (if z122.2 = (6 : Int) then (some (decide (z132.2 = (6 : Int)))) else (some false)) else (some false))) else (some false)) else (some false))))))))))
set_option maxRecDepth 10000 in
set_option maxHeartbeats 4000000 in
theorem w_law08_lives {c : Cx} {I : Im} {L : List Ent} {w : World} {K : Value → World → Prop}  (r : Bool) (hf : p_law08_lives  = some r) (hg : Glo I) (hX : ∀ b, ¬ c.X b) (hs : St c I L w)  
    (k : ∀  (J : Im) (w' : World), Le I J → St c J L w' → K (.bool r) w') :
    callW Tryd.prog 35 [] K w := by
  unfold p_law08_lives at hf
  refine fn_of good Tryd.func35 rfl rfl rfl ?_
  refine sqs ?_
  refine bar ?_
  refine sqs ?_
  obtain ⟨z1, h2, q1⟩ := bindO hf
  clear hf
  refine w_tree_Text ([97] : List UInt8) z1 h2 hg hX hs ?_
  intro cs7 J3 w5 hJ4 hs6 h8
  obtain ⟨a9, c10, a12, c13, rfl, h11, h14⟩ := h8.open
  obtain ⟨z15, h16, q2⟩ := bindO q1
  clear q1
  refine w_tree_Int (5 : Int) z15 h16 (hg.le hJ4) hX hs6 ?_
  intro cs21 J17 w19 hJ18 hs20 h22
  obtain ⟨a23, c24, a26, c27, rfl, h25, h28⟩ := h22.open
  obtain ⟨z29, h30, q3⟩ := bindO q2
  clear q2
  refine w_tree_Int (6 : Int) z29 h30 (hg.le (hJ4.trans hJ18)) hX hs20 ?_
  intro cs35 J31 w33 hJ32 hs34 h36
  obtain ⟨a37, c38, a40, c41, rfl, h39, h42⟩ := h36.open
  refine new hs34 ?_
  intro b43 w44 hs45
  have hs45 : St c J31 (.blk b43 (.cells ⟨[.int .i64 z15.kind, .int .i64 z15.n, .string (bs z15.s), .slice a23 (z15.k.length) c24, .slice a26 (z15.l.length) c27, .int .i64 z29.kind, .int .i64 z29.n, .string (bs z29.s), .slice a37 (z29.k.length) c38, .slice a40 (z29.l.length) c41]⟩ 30) :: L) w44 := hs45
  have h50 : RdC 5 (RdN J31) [.int .i64 z15.kind, .int .i64 z15.n, .string (bs z15.s), .slice a23 (z15.k.length) c24, .slice a26 (z15.l.length) c27, .int .i64 z29.kind, .int .i64 z29.n, .string (bs z29.s), .slice a37 (z29.k.length) c38, .slice a40 (z29.l.length) c41] [z15, z29] := (RdC.snoc (sz := 5) (R := (RdN J31)) (RdC.snoc (sz := 5) (R := (RdN J31)) (RdC.nil (sz := 5) (R := (RdN J31))) rfl (show (RdN J31) [.int .i64 z15.kind, .int .i64 z15.n, .string (bs z15.s), .slice a23 (z15.k.length) c24, .slice a26 (z15.l.length) c27] z15 from (RdN.of (RdL.mono h25 hJ32 (fun _ _ _ h => h)) (RdL.mono h28 hJ32 (fun _ _ _ h => RdN.up hJ32 h))))) rfl (show (RdN J31) [.int .i64 z29.kind, .int .i64 z29.n, .string (bs z29.s), .slice a37 (z29.k.length) c38, .slice a40 (z29.l.length) c41] z29 from (RdN.of h39 h42)))
  obtain ⟨J46, hJ47, hs48, h49⟩ := hs45.fixBlk (i := 0) rfl hX
  have h50 := RdL.lit h49 h50 2 (Nat.le_refl _)
  have h50 := RdL.mono h50 (Le.refl _) (fun _ _ _ h => RdN.up hJ47 h)
  obtain ⟨z51, h52, q4⟩ := bindO q3
  clear q3
  refine w_tree_List [z15, z29] z51 h52 (hg.le (hJ4.trans (hJ18.trans (hJ32.trans hJ47)))) hX hs48 h50 ?_
  intro cs57 J53 w55 hJ54 hs56 h58
  obtain ⟨a59, c60, a62, c63, rfl, h61, h64⟩ := h58.open
  refine nrmO [8, 12] [.agg ⟨[.int .i64 z1.kind, .int .i64 z1.n, .string (bs z1.s), .slice a9 (z1.k.length) c10, .slice a12 (z1.l.length) c13]⟩, .agg ⟨[.int .i64 z51.kind, .int .i64 z51.n, .string (bs z51.s), .slice a59 (z51.k.length) c60, .slice a62 (z51.l.length) c63]⟩] (ce rfl (ce rfl (rfl))) ?_
  intro e65
  refine new hs56 ?_
  intro b66 w67 hs68
  have hs68 : St c J53 (.blk b66 (.cells ⟨[.int .i64 z1.kind, .int .i64 z1.n, .string (bs z1.s), .slice a9 (z1.k.length) c10, .slice a12 (z1.l.length) c13, .int .i64 z51.kind, .int .i64 z51.n, .string (bs z51.s), .slice a59 (z51.k.length) c60, .slice a62 (z51.l.length) c63]⟩ 30) :: L) w67 := hs68
  have h73 : RdC 5 (RdN J53) [.int .i64 z1.kind, .int .i64 z1.n, .string (bs z1.s), .slice a9 (z1.k.length) c10, .slice a12 (z1.l.length) c13, .int .i64 z51.kind, .int .i64 z51.n, .string (bs z51.s), .slice a59 (z51.k.length) c60, .slice a62 (z51.l.length) c63] [z1, z51] := (RdC.snoc (sz := 5) (R := (RdN J53)) (RdC.snoc (sz := 5) (R := (RdN J53)) (RdC.nil (sz := 5) (R := (RdN J53))) rfl (show (RdN J53) [.int .i64 z1.kind, .int .i64 z1.n, .string (bs z1.s), .slice a9 (z1.k.length) c10, .slice a12 (z1.l.length) c13] z1 from (RdN.of (RdL.mono h11 (hJ18.trans (hJ32.trans (hJ47.trans hJ54))) (fun _ _ _ h => h)) (RdL.mono h14 (hJ18.trans (hJ32.trans (hJ47.trans hJ54))) (fun _ _ _ h => RdN.up (hJ18.trans (hJ32.trans (hJ47.trans hJ54))) h))))) rfl (show (RdN J53) [.int .i64 z51.kind, .int .i64 z51.n, .string (bs z51.s), .slice a59 (z51.k.length) c60, .slice a62 (z51.l.length) c63] z51 from (RdN.of h61 h64)))
  obtain ⟨J69, hJ70, hs71, h72⟩ := hs68.fixBlk (i := 0) rfl hX
  have h73 := RdL.lit h72 h73 2 (Nat.le_refl _)
  have h73 := RdL.mono h73 (Le.refl _) (fun _ _ _ h => RdN.up hJ70 h)
  obtain ⟨z74, h75, q5⟩ := bindO q4
  clear q4
  refine w_tree_Map [z1, z51] z74 h75 (hg.le (hJ4.trans (hJ18.trans (hJ32.trans (hJ47.trans (hJ54.trans hJ70)))))) hX hs71 h73 ?_
  intro cs80 J76 w78 hJ77 hs79 h81
  obtain ⟨a82, c83, a85, c86, rfl, h84, h87⟩ := h81.open
  refine new hs79 ?_
  intro b88 w89 hs90
  have hs90 : St c J76 (.blk b88 (.cells ⟨[.int .i64 ((0 : Int)), .int .i64 ((0 : Int)), .string (bs ([] : List UInt8)), .slice none (0) 0, .slice none (0) 0]⟩ 30) :: L) w89 := hs90
  refine sto 0 hs90 rfl rfl rfl ?_
  intro w91 hs92
  have hs92 : St c J76 (.blk b88 (.cells ⟨[.int .i64 z74.kind, .int .i64 z74.n, .string (bs z74.s), .slice a82 (z74.k.length) c83, .slice a85 (z74.l.length) c86]⟩ 30) :: L) w91 := hs92
  refine barN [1] [.pointer (some ⟨b88, 0, none⟩)] (ce rfl (rfl)) ?_
  intro e93
  refine sqs ?_
  refine ld 0 hs92 rfl rfl rfl ?_
  refine new hs92 ?_
  intro b94 w95 hs96
  have hs96 : St c J76 (.blk b94 (.cells ⟨[.string (bs ([97] : List UInt8)), .string (bs ([49] : List UInt8))]⟩ 9) :: .blk b88 (.cells ⟨[.int .i64 z74.kind, .int .i64 z74.n, .string (bs z74.s), .slice a82 (z74.k.length) c83, .slice a85 (z74.l.length) c86]⟩ 30) :: L) w95 := hs96
  have h101 : RdC 1 RdS [.string (bs ([97] : List UInt8)), .string (bs ([49] : List UInt8))] [([97] : List UInt8), ([49] : List UInt8)] := (RdC.snoc (sz := 1) (R := RdS) (RdC.snoc (sz := 1) (R := RdS) (RdC.nil (sz := 1) (R := RdS)) rfl rfl) rfl rfl)
  obtain ⟨J97, hJ98, hs99, h100⟩ := hs96.fixBlk (i := 0) rfl hX
  have h101 := RdL.lit h100 h101 2 (Nat.le_refl _)
  obtain ⟨z102, h103, q6⟩ := bindO q5
  clear q5
  refine w_trail_At z74 [([97] : List UInt8), ([49] : List UInt8)] z102 h103 (hg.le (hJ4.trans (hJ18.trans (hJ32.trans (hJ47.trans (hJ54.trans (hJ70.trans (hJ77.trans hJ98)))))))) hX hs99 (RdN.of (RdL.mono h84 hJ98 (fun _ _ _ h => h)) (RdL.mono h87 hJ98 (fun _ _ _ h => RdN.up hJ98 h))) h101 ?_
  intro cs108 J104 w106 hJ105 hs107 h109
  obtain ⟨a110, c111, a113, c114, rfl, h112, h115⟩ := h109.open
  refine new hs107 ?_
  intro b116 w117 hs118
  have hs118 : St c J104 (.blk b116 (.cells ⟨[.int .i64 ((0 : Int)), .int .i64 ((0 : Int)), .string (bs ([] : List UInt8)), .slice none (0) 0, .slice none (0) 0]⟩ 30) :: .blk b88 (.cells ⟨[.int .i64 z74.kind, .int .i64 z74.n, .string (bs z74.s), .slice a82 (z74.k.length) c83, .slice a85 (z74.l.length) c86]⟩ 30) :: L) w117 := hs118
  refine nrmO [2, 19, 20] [.pointer (some ⟨b116, 0, none⟩), .agg ⟨[.int .i64 z102.1.kind, .int .i64 z102.1.n, .string (bs z102.1.s), .slice a110 (z102.1.k.length) c111, .slice a113 (z102.1.l.length) c114]⟩, .bool z102.2] (ce rfl (ce rfl (ce rfl (rfl)))) ?_
  intro e119
  refine sto 0 hs118 rfl rfl rfl ?_
  intro w120 hs121
  have hs121 : St c J104 (.blk b116 (.cells ⟨[.int .i64 z102.1.kind, .int .i64 z102.1.n, .string (bs z102.1.s), .slice a110 (z102.1.k.length) c111, .slice a113 (z102.1.l.length) c114]⟩ 30) :: .blk b88 (.cells ⟨[.int .i64 z74.kind, .int .i64 z74.n, .string (bs z74.s), .slice a82 (z74.k.length) c83, .slice a85 (z74.l.length) c86]⟩ 30) :: L) w120 := hs121
  refine bar ?_
  refine sqs ?_
  obtain ⟨z122, h123, q7⟩ := bindO q6
  clear q6
  refine w_trail_Read ([97] : List UInt8) z122 h123 (hg.le (hJ4.trans (hJ18.trans (hJ32.trans (hJ47.trans (hJ54.trans (hJ70.trans (hJ77.trans (hJ98.trans hJ105))))))))) hX hs121 ?_
  intro a128 c129 J124 w126 hJ125 hs127 h130
  refine barN [2, 3, 5] [.pointer (some ⟨b116, 0, none⟩), .bool z102.2, .int .i64 z122.2] (ce rfl (ce rfl (ce rfl (rfl)))) ?_
  intro e131
  refine sqs ?_
  obtain ⟨z132, h133, q8⟩ := bindO q7
  clear q7
  refine w_trail_Read ([47, 126, 50] : List UInt8) z132 h133 (hg.le (hJ4.trans (hJ18.trans (hJ32.trans (hJ47.trans (hJ54.trans (hJ70.trans (hJ77.trans (hJ98.trans (hJ105.trans hJ125)))))))))) hX hs127 ?_
  intro a138 c139 J134 w136 hJ135 hs137 h140
  refine barN [2, 3, 5, 7] [.pointer (some ⟨b116, 0, none⟩), .bool z102.2, .int .i64 z122.2, .int .i64 z132.2] (ce rfl (ce rfl (ce rfl (ce rfl (rfl))))) ?_
  intro e141
  refine sqs ?_
  refine csO q8 (fun h142 q9 => ?_) (fun h142 q10 => ?_)
  · clear q8
    refine ld 0 hs137 rfl rfl rfl ?_
    refine cdO q9 (fun h143 q11 => ?_) (fun h143 q12 => ?_)
    · clear q9
      refine nrmP [5, 7, 35] [.int .i64 z122.2, .int .i64 z132.2, .bool true] (ce rfl (ce rfl (ce rfl (rfl)))) ?_
      intro e144
      refine new hs137 ?_
      intro b145 w146 hs147
      have hs147 : St c J134 (.blk b145 (.cells ⟨[.string (bs ([97, 47, 98] : List UInt8)), .string (bs ([126] : List UInt8))]⟩ 9) :: .blk b116 (.cells ⟨[.int .i64 z102.1.kind, .int .i64 z102.1.n, .string (bs z102.1.s), .slice a110 (z102.1.k.length) c111, .slice a113 (z102.1.l.length) c114]⟩ 30) :: .blk b88 (.cells ⟨[.int .i64 z74.kind, .int .i64 z74.n, .string (bs z74.s), .slice a82 (z74.k.length) c83, .slice a85 (z74.l.length) c86]⟩ 30) :: L) w146 := hs147
      have h152 : RdC 1 RdS [.string (bs ([97, 47, 98] : List UInt8)), .string (bs ([126] : List UInt8))] [([97, 47, 98] : List UInt8), ([126] : List UInt8)] := (RdC.snoc (sz := 1) (R := RdS) (RdC.snoc (sz := 1) (R := RdS) (RdC.nil (sz := 1) (R := RdS)) rfl rfl) rfl rfl)
      obtain ⟨J148, hJ149, hs150, h151⟩ := hs147.fixBlk (i := 0) rfl hX
      have h152 := RdL.lit h151 h152 2 (Nat.le_refl _)
      obtain ⟨z153, h154, q13⟩ := bindO q11
      clear q11
      refine w_trail_Write [([97, 47, 98] : List UInt8), ([126] : List UInt8)] z153 h154 (hg.le (hJ4.trans (hJ18.trans (hJ32.trans (hJ47.trans (hJ54.trans (hJ70.trans (hJ77.trans (hJ98.trans (hJ105.trans (hJ125.trans (hJ135.trans hJ149)))))))))))) hX hs150 h152 ?_
      intro J155 w157 hJ156 hs158
      refine cdO q13 (fun h159 q14 => ?_) (fun h159 q15 => ?_)
      · clear q13
        refine nrmP [5, 7, 40] [.int .i64 z122.2, .int .i64 z132.2, .bool true] (ce rfl (ce rfl (ce rfl (rfl)))) ?_
        intro e160
        refine cdO q14 (fun h161 q16 => ?_) (fun h161 q17 => ?_)
        · clear q14
          refine nrmP [7, 44] [.int .i64 z132.2, .bool true] (ce rfl (ce rfl (rfl))) ?_
          intro e162
          refine bar ?_
          obtain rfl := Option.some.inj q16
          exact k J155 w157 (hJ4.trans (hJ18.trans (hJ32.trans (hJ47.trans (hJ54.trans (hJ70.trans (hJ77.trans (hJ98.trans (hJ105.trans (hJ125.trans (hJ135.trans (hJ149.trans hJ156)))))))))))) ((hs158.drop 0).drop 0)
        · clear q14
          refine nrmO [44, 45] [.bool false, undef] (ce rfl (ce rfl (rfl))) ?_
          intro e163
          refine bar ?_
          obtain rfl := Option.some.inj q17
          exact k J155 w157 (hJ4.trans (hJ18.trans (hJ32.trans (hJ47.trans (hJ54.trans (hJ70.trans (hJ77.trans (hJ98.trans (hJ105.trans (hJ125.trans (hJ135.trans (hJ149.trans hJ156)))))))))))) ((hs158.drop 0).drop 0)
      · clear q13
        refine nrmO [7, 40, 41] [.int .i64 z132.2, .bool false, undef] (ce rfl (ce rfl (ce rfl (rfl)))) ?_
        intro e164
        refine barN [0] [.bool false] (ce rfl (rfl)) ?_
        intro e165
        obtain rfl := Option.some.inj q15
        exact k J155 w157 (hJ4.trans (hJ18.trans (hJ32.trans (hJ47.trans (hJ54.trans (hJ70.trans (hJ77.trans (hJ98.trans (hJ105.trans (hJ125.trans (hJ135.trans (hJ149.trans hJ156)))))))))))) ((hs158.drop 0).drop 0)
    · clear q9
      refine nrmO [5, 7, 35, 36] [.int .i64 z122.2, .int .i64 z132.2, .bool false, undef] (ce rfl (ce rfl (ce rfl (ce rfl (rfl))))) ?_
      intro e166
      refine barN [0] [.bool false] (ce rfl (rfl)) ?_
      intro e167
      obtain rfl := Option.some.inj q12
      exact k J134 w136 (hJ4.trans (hJ18.trans (hJ32.trans (hJ47.trans (hJ54.trans (hJ70.trans (hJ77.trans (hJ98.trans (hJ105.trans (hJ125.trans hJ135)))))))))) ((hs137.drop 0).drop 0)
  · clear q8
    refine barN [0] [.bool false] (ce rfl (rfl)) ?_
    intro e168
    obtain rfl := Option.some.inj q10
    exact k J134 w136 (hJ4.trans (hJ18.trans (hJ32.trans (hJ47.trans (hJ54.trans (hJ70.trans (hJ77.trans (hJ98.trans (hJ105.trans (hJ125.trans hJ135)))))))))) ((hs137.drop 0).drop 0)
def p_ref08_Read_j2 (x0 : (List UInt8)) (v174 : Int) (v188 : (List (List UInt8))) (v193 : (List UInt8)) : Option ((((List (List UInt8)) × (List UInt8) × Int) ⊕ ((List (List UInt8)) × Int))) :=
  (if 0 ≤ v174 ∧ v174 < (x0.length : Int) then (if ((x0.getD v174.toNat 0).toNat : Int) = (47 : Int) then (some (.inl (v188, v193, (IntKind.i64.wrap (v174 + (1 : Int)))))) else (if ((x0.getD v174.toNat 0).toNat : Int) = (126 : Int) then (if (x0.length : Int) ≤ (IntKind.i64.wrap (v174 + (1 : Int))) then (Option.map Sum.inr (some (([] : List (List UInt8)), (6 : Int)))) else (if 0 ≤ (IntKind.i64.wrap (v174 + (1 : Int))) ∧ (IntKind.i64.wrap (v174 + (1 : Int))) < (x0.length : Int) then (if ((x0.getD (IntKind.i64.wrap (v174 + (1 : Int))).toNat 0).toNat : Int) = (48 : Int) then (if v193.length + ([126] : List UInt8).length ≤ 9223372036854775807 then (some (.inl (v188, (v193 ++ ([126] : List UInt8)), (IntKind.i64.wrap ((IntKind.i64.wrap (v174 + (1 : Int))) + (1 : Int)))))) else none) else (if ((x0.getD (IntKind.i64.wrap (v174 + (1 : Int))).toNat 0).toNat : Int) = (49 : Int) then (if v193.length + ([47] : List UInt8).length ≤ 9223372036854775807 then (some (.inl (v188, (v193 ++ ([47] : List UInt8)), (IntKind.i64.wrap ((IntKind.i64.wrap (v174 + (1 : Int))) + (1 : Int)))))) else none) else (Option.map Sum.inr (some (([] : List (List UInt8)), (6 : Int)))))) else none)) else (if 0 ≤ v174 ∧ v174 ≤ (IntKind.i64.wrap (v174 + (1 : Int))) ∧ (IntKind.i64.wrap (v174 + (1 : Int))) ≤ (x0.length : Int) then (if v193.length + (subS x0 v174 (IntKind.i64.wrap (v174 + (1 : Int)))).length ≤ 9223372036854775807 then (some (.inl (v188, (v193 ++ (subS x0 v174 (IntKind.i64.wrap (v174 + (1 : Int))))), (IntKind.i64.wrap (v174 + (1 : Int)))))) else none) else none))) else none)
def p_ref08_Read_j1 (x0 : (List UInt8)) (v168 : (List (List UInt8))) (v173 : (List UInt8)) (v174 : Int) : Option ((((List (List UInt8)) × (List UInt8) × Int) ⊕ ((List (List UInt8)) × Int))) :=
  (if 0 ≤ v174 ∧ v174 < (x0.length : Int) then (if ((x0.getD v174.toNat 0).toNat : Int) = (47 : Int) then (if (0 : Int) < v174 then (if v168.length + ([v173] : List (List UInt8)).length ≤ 100000000000 then (p_ref08_Read_j2 x0 v174 (v168 ++ [v173]) ([] : List UInt8)) else none) else (p_ref08_Read_j2 x0 v174 v168 v173)) else (p_ref08_Read_j2 x0 v174 v168 v173)) else none)
def p_ref08_Read_b1 (x0 : (List UInt8)) (v168 : (List (List UInt8))) (v173 : (List UInt8)) (v174 : Int) : Option (((List (List UInt8)) × (List UInt8) × Int) ⊕ ((List (List UInt8)) × Int)) :=
  (if v174 < (x0.length : Int) then (if v174 = (0 : Int) then (if 0 ≤ v174 ∧ v174 < (x0.length : Int) then (if ((x0.getD v174.toNat 0).toNat : Int) = (47 : Int) then (p_ref08_Read_j1 x0 v168 v173 v174) else (Option.map Sum.inr (some (([] : List (List UInt8)), (6 : Int))))) else none) else (p_ref08_Read_j1 x0 v168 v173 v174)) else (Option.map Sum.inr (if (x0.length : Int) = (0 : Int) then (some (([] : List (List UInt8)), (0 : Int))) else (if v168.length + ([v173] : List (List UInt8)).length ≤ 100000000000 then (some ((v168 ++ [v173]), (0 : Int))) else none))))
def p_ref08_Read (x0 : (List UInt8)) : Option ((List (List UInt8)) × Int) :=
  (loopO (fun (s : (List (List UInt8)) × (List UInt8) × Int) => p_ref08_Read_b1 x0 s.1 s.2.1 s.2.2) (([] : (List (List UInt8))), ([] : List UInt8), (0 : Int)))
set_option maxRecDepth 10000 in
set_option maxHeartbeats 4000000 in
theorem w_ref08_Read {c : Cx} {I : Im} {L : List Ent} {w : World} {K : Value → World → Prop} (x0 : (List UInt8)) (r : (List (List UInt8)) × Int) (hf : p_ref08_Read x0 = some r) (hg : Glo I) (hX : ∀ b, ¬ c.X b) (hs : St c I L w)  
    (k : ∀ (ra0 : Option Addr) (rc0 : Nat) (J : Im) (w' : World), Le I J → St c J L w' → RdL J 1 RdS (.slice ra0 r.1.length rc0) r.1 → K (.tuple ⟨[.slice ra0 r.1.length rc0, .int .i64 r.2]⟩) w') :
    callW Tryd.prog 38 [.string (bs x0)] K w := by
  unfold p_ref08_Read at hf
  refine fn_of good Tryd.func38 rfl rfl rfl ?_
  refine sqs ?_
  refine bar ?_
  refine sqs ?_
  refine bar ?_
  refine sqs ?_
  refine barN [0, 4, 5] [.string (bs x0), .slice none (0) 0, .string (bs ([] : List UInt8))] (ce rfl (ce rfl (ce rfl (rfl)))) ?_
  intro e1
  refine sqs ?_
  refine sqs ?_
  refine bar ?_
  refine blk ?_
  have hs163 := hs.nil 9 1
  refine loopP hf [0, 4, 5, 6] (fun (s : (List (List UInt8)) × (List UInt8) × Int) vs w' => ∃ (J : Im) (a169 : Option Addr) (c170 : Nat) (cs171 : List Value), Le I J ∧ vs = [.string (bs x0), .slice a169 (s.1.length) c170, .string (bs s.2.1), .int .i64 s.2.2] ∧ St c J (.row (.slice a169 (s.1.length) c170) 9 1 (s.1.length) cs171 :: L) w' ∧ RdC 1 RdS cs171 s.1) ⟨I, none, 0, [], Le.refl _, ce rfl (ce rfl (ce rfl (ce rfl (rfl)))), hs163, RdC.nil⟩ ?_
  clear hf
  rintro Z176 ⟨v168, v173, v174⟩ t175 vs e275 w166 hI q1 hZ177
  try dsimp only at hI
  obtain ⟨J164, a169, c170, cs171, hJ165, rfl, hs167, h172⟩ := hI
  replace q1 : p_ref08_Read_b1 x0 v168 v173 v174 = some t175 := q1
  unfold p_ref08_Read_b1 at q1
  refine sqs ?_
  refine sqs ?_
  refine barN [0, 4, 5, 6, 10] [.string (bs x0), .slice a169 (v168.length) c170, .string (bs v173), .int .i64 v174, .bool (decide (v174 < (x0.length : Int)))] (ce rfl (ce rfl (ce rfl (ce rfl (ce rfl (rfl)))))) ?_
  intro e178
  refine cdO q1 (fun h179 q2 => ?_) (fun h179 q3 => ?_)
  · clear q1
    refine bar ?_
    refine sqs ?_
    refine blk ?_
    refine sqs ?_
    refine cutc [0, 4, 5, 6] (fun vs w' => ∃ (J : Im), Le J164 J ∧ vs = [.string (bs x0), .slice a169 (v168.length) c170, .string (bs v173), .int .i64 v174] ∧ St c J (.row (.slice a169 (v168.length) c170) 9 1 (v168.length) cs171 :: L) w' ∧ p_ref08_Read_j1 x0 v168 v173 v174 = some t175) ?_ ?_
    · clear q2
      rintro vs e254 w182 ⟨J180, hJ181, rfl, hs183, q4⟩
      unfold p_ref08_Read_j1 at q4
      refine bar ?_
      refine sqs ?_
      refine cutc [0, 4, 5, 6] (fun vs w' => ∃ (v188 : (List (List UInt8))) (v193 : (List UInt8)) (J : Im) (a189 : Option Addr) (c190 : Nat) (cs191 : List Value), Le J180 J ∧ vs = [.string (bs x0), .slice a189 (v188.length) c190, .string (bs v193), .int .i64 v174] ∧ St c J (.row (.slice a189 (v188.length) c190) 9 1 (v188.length) cs191 :: L) w' ∧ RdC 1 RdS cs191 v188 ∧ p_ref08_Read_j2 x0 v174 v188 v193 = some t175) ?_ ?_
      · clear q4
        rintro vs e241 w186 ⟨v188, v193, J184, a189, c190, cs191, hJ185, rfl, hs187, h192, q5⟩
        unfold p_ref08_Read_j2 at q5
        refine bar ?_
        refine sqs ?_
        refine sqs ?_
        refine reqO q5 (fun h194 q6 => ?_)
        clear q5
        refine barN [0, 4, 5, 6, 36] [.string (bs x0), .slice a189 (v188.length) c190, .string (bs v193), .int .i64 v174, .bool (decide (((x0.getD v174.toNat 0).toNat : Int) = (47 : Int)))] (ce rfl (ce rfl (ce rfl (ce rfl (ce rfl (rfl)))))) ?_
        intro e195
        refine cdO q6 (fun h196 q7 => ?_) (fun h196 q8 => ?_)
        · clear q6
          refine bar ?_
          obtain rfl := Option.some.inj q7
          exact hZ177 _ _ ⟨J184, a189, c190, cs191, (hJ165.trans (hJ181.trans hJ185)), ce rfl (ce rfl (ce rfl (ce rfl (rfl)))), hs187, h192⟩
        · clear q6
          refine bar ?_
          refine sqs ?_
          refine sqs ?_
          refine req h194 ?_
          refine barN [0, 4, 5, 6, 40] [.string (bs x0), .slice a189 (v188.length) c190, .string (bs v193), .int .i64 v174, .bool (!decide (((x0.getD v174.toNat 0).toNat : Int) = (126 : Int)))] (ce rfl (ce rfl (ce rfl (ce rfl (ce rfl (rfl)))))) ?_
          intro e197
          refine cnO q8 (fun h198 q9 => ?_) (fun h198 q10 => ?_)
          · clear q8
            refine bar ?_
            refine sqs ?_
            refine bar ?_
            refine sqs ?_
            refine sqs ?_
            refine cdO q9 (fun h199 q11 => ?_) (fun h199 q12 => ?_)
            · clear q9
              refine nrmO [0, 4, 5, 6, 54, 55] [.string (bs x0), .slice a189 (v188.length) c190, .string (bs v193), .int .i64 ((IntKind.i64.wrap (v174 + (1 : Int)))), .bool true, undef] (ce rfl (ce rfl (ce rfl (ce rfl (ce rfl (ce rfl (rfl))))))) ?_
              intro e200
              refine barN [0, 4, 5, 6, 65] [.string (bs x0), .slice a189 (v188.length) c190, .string (bs v193), .int .i64 ((IntKind.i64.wrap (v174 + (1 : Int)))), .bool true] (ce rfl (ce rfl (ce rfl (ce rfl (ce rfl (rfl)))))) ?_
              intro e201
              refine bar ?_
              obtain ⟨r202, hm203, rfl⟩ := mapO q11
              clear q11
              obtain rfl : r202 = _ := hZ177
              obtain rfl := Option.some.inj hm203
              exact k _ _ J184 w186 (hJ165.trans (hJ181.trans hJ185)) (hs187.drop 0) (RdL.nil 0 none)
            · clear q9
              refine nrmP [0, 4, 5, 6, 54] [.string (bs x0), .slice a189 (v188.length) c190, .string (bs v193), .int .i64 ((IntKind.i64.wrap (v174 + (1 : Int)))), .bool false] (ce rfl (ce rfl (ce rfl (ce rfl (ce rfl (rfl)))))) ?_
              intro e204
              refine reqO q12 (fun h205 q13 => ?_)
              clear q12
              refine cnO q13 (fun h206 q14 => ?_) (fun h206 q15 => ?_)
              · clear q13
                refine nrmO [0, 4, 5, 6, 54, 59, 60] [.string (bs x0), .slice a189 (v188.length) c190, .string (bs v193), .int .i64 ((IntKind.i64.wrap (v174 + (1 : Int)))), .bool false, .bool false, undef] (ce rfl (ce rfl (ce rfl (ce rfl (ce rfl (ce rfl (ce rfl (rfl)))))))) ?_
                intro e207
                refine barN [0, 4, 5, 6, 65] [.string (bs x0), .slice a189 (v188.length) c190, .string (bs v193), .int .i64 ((IntKind.i64.wrap (v174 + (1 : Int)))), .bool false] (ce rfl (ce rfl (ce rfl (ce rfl (ce rfl (rfl)))))) ?_
                intro e208
                refine bar ?_
                refine sqs ?_
                refine req h205 ?_
                refine barN [0, 4, 5, 6, 69] [.string (bs x0), .slice a189 (v188.length) c190, .string (bs v193), .int .i64 ((IntKind.i64.wrap (v174 + (1 : Int)))), .bool (decide (((x0.getD (IntKind.i64.wrap (v174 + (1 : Int))).toNat 0).toNat : Int) = (48 : Int)))] (ce rfl (ce rfl (ce rfl (ce rfl (ce rfl (rfl)))))) ?_
                intro e209
                refine ct (decide_eq_true h206) ?_
                refine reqO q14 (fun h210 q16 => ?_)
                clear q14
                refine bar ?_
                obtain rfl := Option.some.inj q16
                exact hZ177 _ _ ⟨J184, a189, c190, cs191, (hJ165.trans (hJ181.trans hJ185)), ce rfl (ce rfl (ce rfl (ce rfl (rfl)))), hs187, h192⟩
              · clear q13
                refine nrmP [0, 4, 5, 6, 54, 59] [.string (bs x0), .slice a189 (v188.length) c190, .string (bs v193), .int .i64 ((IntKind.i64.wrap (v174 + (1 : Int)))), .bool false, .bool true] (ce rfl (ce rfl (ce rfl (ce rfl (ce rfl (ce rfl (rfl))))))) ?_
                intro e211
                refine req h205 ?_
                refine barN [0, 4, 5, 6, 65] [.string (bs x0), .slice a189 (v188.length) c190, .string (bs v193), .int .i64 ((IntKind.i64.wrap (v174 + (1 : Int)))), .bool (!decide (((x0.getD (IntKind.i64.wrap (v174 + (1 : Int))).toNat 0).toNat : Int) = (49 : Int)))] (ce rfl (ce rfl (ce rfl (ce rfl (ce rfl (rfl)))))) ?_
                intro e212
                refine cnO q15 (fun h213 q17 => ?_) (fun h213 q18 => ?_)
                · clear q15
                  refine bar ?_
                  refine sqs ?_
                  refine req h205 ?_
                  refine barN [0, 4, 5, 6, 69] [.string (bs x0), .slice a189 (v188.length) c190, .string (bs v193), .int .i64 ((IntKind.i64.wrap (v174 + (1 : Int)))), .bool (decide (((x0.getD (IntKind.i64.wrap (v174 + (1 : Int))).toNat 0).toNat : Int) = (48 : Int)))] (ce rfl (ce rfl (ce rfl (ce rfl (ce rfl (rfl)))))) ?_
                  intro e214
                  refine cf (decide_eq_false h206) ?_
                  refine reqO q17 (fun h215 q19 => ?_)
                  clear q17
                  refine bar ?_
                  obtain rfl := Option.some.inj q19
                  exact hZ177 _ _ ⟨J184, a189, c190, cs191, (hJ165.trans (hJ181.trans hJ185)), ce rfl (ce rfl (ce rfl (ce rfl (rfl)))), hs187, h192⟩
                · clear q15
                  refine sqs ?_
                  refine bar ?_
                  obtain ⟨r216, hm217, rfl⟩ := mapO q18
                  clear q18
                  obtain rfl : r216 = _ := hZ177
                  obtain rfl := Option.some.inj hm217
                  exact k _ _ J184 w186 (hJ165.trans (hJ181.trans hJ185)) (hs187.drop 0) (RdL.nil 0 none)
          · clear q8
            refine sqs ?_
            refine reqO q10 (fun h218 q20 => ?_)
            clear q10
            refine nrmO [0, 4, 6, 41, 46] [.string (bs x0), .slice a189 (v188.length) c190, .int .i64 v174, .string (bs v193), .string (bs (subS x0 v174 (IntKind.i64.wrap (v174 + (1 : Int)))))] (ce rfl (ce rfl (ce rfl (ce rfl (ce rfl (rfl)))))) ?_
            intro e219
            refine reqO q20 (fun h220 q21 => ?_)
            clear q20
            refine bar ?_
            refine bar ?_
            obtain rfl := Option.some.inj q21
            exact hZ177 _ _ ⟨J184, a189, c190, cs191, (hJ165.trans (hJ181.trans hJ185)), ce rfl (ce rfl (ce rfl (ce rfl (rfl)))), hs187, h192⟩
      · intro Q221 hN222 hX223
        refine sqs ?_
        refine reqO q4 (fun h224 q22 => ?_)
        clear q4
        refine cdO q22 (fun h225 q23 => ?_) (fun h225 q24 => ?_)
        · clear q22
          refine nrmP [0, 4, 5, 6, 25] [.string (bs x0), .slice a169 (v168.length) c170, .string (bs v173), .int .i64 v174, .bool true] (ce rfl (ce rfl (ce rfl (ce rfl (ce rfl (rfl)))))) ?_
          intro e226
          refine bar ?_
          refine cdO q23 (fun h227 q25 => ?_) (fun h227 q26 => ?_)
          · clear q23
            refine sqs ?_
            refine new hs183 ?_
            intro b228 w229 hs230
            have hs230 : St c J180 (.blk b228 (.cells ⟨[.string (bs v173)]⟩ 9) :: .row (.slice a169 (v168.length) c170) 9 1 (v168.length) cs171 :: L) w229 := hs230
            have h231 : RdC 1 RdS [.string (bs v173)] [v173] := (RdC.snoc (sz := 1) (R := RdS) (RdC.nil (sz := 1) (R := RdS)) rfl rfl)
            obtain ⟨h236, q27⟩ := okO q25
            clear q25
            refine appO good 1 0 hs230 rfl rfl h172 rfl h231 rfl rfl rfl rfl rfl rfl rfl h236 ?_
            intro a232 c233 cs234 w237 hs238 h235
            have hs238 : St c J180 (.row (.slice a232 ((v168 ++ [v173]).length) c233) 9 1 ((v168 ++ [v173]).length) cs234 :: L) w237 := hs238.drop 0
            refine nrmO [0, 6, 32] [.string (bs x0), .int .i64 v174, .slice a232 ((v168 ++ [v173]).length) c233] (ce rfl (ce rfl (ce rfl (rfl)))) ?_
            intro e239
            refine bar ?_
            exact hN222 _ _ ⟨(v168 ++ [v173]), ([] : List UInt8), J180, a232, c233, cs234, (Le.refl _), ce rfl (ce rfl (ce rfl (ce rfl (rfl)))), hs238, h235, q27⟩
          · clear q23
            exact hN222 _ _ ⟨v168, v173, J180, a169, c170, cs171, (Le.refl _), ce rfl (ce rfl (ce rfl (ce rfl (rfl)))), hs183, h172, q26⟩
        · clear q22
          refine nrmO [0, 4, 5, 6, 25, 26] [.string (bs x0), .slice a169 (v168.length) c170, .string (bs v173), .int .i64 v174, .bool false, undef] (ce rfl (ce rfl (ce rfl (ce rfl (ce rfl (ce rfl (rfl))))))) ?_
          intro e240
          refine bar ?_
          exact hN222 _ _ ⟨v168, v173, J180, a169, c170, cs171, (Le.refl _), ce rfl (ce rfl (ce rfl (ce rfl (rfl)))), hs183, h172, q24⟩
    · intro Q242 hN243 hX244
      refine sqs ?_
      refine cdO q2 (fun h245 q28 => ?_) (fun h245 q29 => ?_)
      · clear q2
        refine nrmP [0, 4, 5, 6, 15] [.string (bs x0), .slice a169 (v168.length) c170, .string (bs v173), .int .i64 v174, .bool true] (ce rfl (ce rfl (ce rfl (ce rfl (ce rfl (rfl)))))) ?_
        intro e246
        refine reqO q28 (fun h247 q30 => ?_)
        clear q28
        refine barN [0, 4, 5, 6, 20] [.string (bs x0), .slice a169 (v168.length) c170, .string (bs v173), .int .i64 v174, .bool (!decide (((x0.getD v174.toNat 0).toNat : Int) = (47 : Int)))] (ce rfl (ce rfl (ce rfl (ce rfl (ce rfl (rfl)))))) ?_
        intro e248
        refine cnO q30 (fun h249 q31 => ?_) (fun h249 q32 => ?_)
        · clear q30
          exact hN243 _ _ ⟨J164, (Le.refl _), ce rfl (ce rfl (ce rfl (ce rfl (rfl)))), hs167, q31⟩
        · clear q30
          refine sqs ?_
          refine bar ?_
          refine hX244 _ _ _ (fun h => by cases h) ?_
          obtain ⟨r250, hm251, rfl⟩ := mapO q32
          clear q32
          obtain rfl : r250 = _ := hZ177
          obtain rfl := Option.some.inj hm251
          exact k _ _ J164 w166 hJ165 (hs167.drop 0) (RdL.nil 0 none)
      · clear q2
        refine nrmO [0, 4, 5, 6, 15, 16] [.string (bs x0), .slice a169 (v168.length) c170, .string (bs v173), .int .i64 v174, .bool false, undef] (ce rfl (ce rfl (ce rfl (ce rfl (ce rfl (ce rfl (rfl))))))) ?_
        intro e252
        refine barN [0, 4, 5, 6, 20] [.string (bs x0), .slice a169 (v168.length) c170, .string (bs v173), .int .i64 v174, .bool false] (ce rfl (ce rfl (ce rfl (ce rfl (ce rfl (rfl)))))) ?_
        intro e253
        exact hN243 _ _ ⟨J164, (Le.refl _), ce rfl (ce rfl (ce rfl (ce rfl (rfl)))), hs167, q29⟩
  · clear q1
    obtain ⟨r255, hm256, rfl⟩ := mapO q3
    clear q3
    obtain rfl : r255 = _ := hZ177
    refine bar ?_
    refine sqs ?_
    refine sqs ?_
    refine bar ?_
    refine cdO hm256 (fun h257 q33 => ?_) (fun h257 q34 => ?_)
    · clear hm256
      refine sqs ?_
      refine barN [2, 3] [.slice none (0) 0, .int .i64 ((0 : Int))] (ce rfl (ce rfl (rfl))) ?_
      intro e258
      obtain rfl := Option.some.inj q33
      exact k _ _ J164 w166 hJ165 (hs167.drop 0) (RdL.nil 0 none)
    · clear hm256
      refine bar ?_
      refine sqs ?_
      refine new hs167 ?_
      intro b259 w260 hs261
      have hs261 : St c J164 (.blk b259 (.cells ⟨[.string (bs v173)]⟩ 9) :: .row (.slice a169 (v168.length) c170) 9 1 (v168.length) cs171 :: L) w260 := hs261
      refine nrmO [77, 79] [.slice a169 (v168.length) c170, .slice (some ⟨b259, 0, none⟩) 1 1] (ce rfl (ce rfl (rfl))) ?_
      intro e262
      have h263 : RdC 1 RdS [.string (bs v173)] [v173] := (RdC.snoc (sz := 1) (R := RdS) (RdC.nil (sz := 1) (R := RdS)) rfl rfl)
      obtain ⟨h268, q35⟩ := okO q34
      clear q34
      refine appO good 1 0 hs261 rfl rfl h172 rfl h263 rfl rfl rfl rfl rfl rfl rfl h268 ?_
      intro a264 c265 cs266 w269 hs270 h267
      have hs270 : St c J164 (.row (.slice a264 ((v168 ++ [v173]).length) c265) 9 1 ((v168 ++ [v173]).length) cs266 :: L) w269 := hs270.drop 0
      refine bar ?_
      obtain ⟨J271, hJ272, hs273, h274⟩ := hs270.fixRow (i := 0) rfl hX h267 rfl
      obtain rfl := Option.some.inj q35
      exact k _ _ J271 w269 (hJ165.trans hJ272) hs273 h274
def p_ref08_one_b1 (x0 : (List UInt8)) (v39 : (List UInt8)) (v40 : Int) : Option (((List UInt8) × Int) ⊕ ((List UInt8))) :=
  (if v40 < (x0.length : Int) then (if 0 ≤ v40 ∧ v40 < (x0.length : Int) then (if ((x0.getD v40.toNat 0).toNat : Int) = (126 : Int) then (if v39.length + ([126, 48] : List UInt8).length ≤ 9223372036854775807 then (some (.inl ((v39 ++ ([126, 48] : List UInt8)), (IntKind.i64.wrap (v40 + (1 : Int)))))) else none) else (if ((x0.getD v40.toNat 0).toNat : Int) = (47 : Int) then (if v39.length + ([126, 49] : List UInt8).length ≤ 9223372036854775807 then (some (.inl ((v39 ++ ([126, 49] : List UInt8)), (IntKind.i64.wrap (v40 + (1 : Int)))))) else none) else (if 0 ≤ v40 ∧ v40 ≤ (IntKind.i64.wrap (v40 + (1 : Int))) ∧ (IntKind.i64.wrap (v40 + (1 : Int))) ≤ (x0.length : Int) then (if v39.length + (subS x0 v40 (IntKind.i64.wrap (v40 + (1 : Int)))).length ≤ 9223372036854775807 then (some (.inl ((v39 ++ (subS x0 v40 (IntKind.i64.wrap (v40 + (1 : Int))))), (IntKind.i64.wrap (v40 + (1 : Int)))))) else none) else none))) else none) else (Option.map Sum.inr (some v39)))
def p_ref08_one (x0 : (List UInt8)) : Option ((List UInt8)) :=
  (loopO (fun (s : (List UInt8) × Int) => p_ref08_one_b1 x0 s.1 s.2) (([47] : List UInt8), (0 : Int)))
set_option maxRecDepth 10000 in
set_option maxHeartbeats 4000000 in
theorem w_ref08_one {c : Cx} {I : Im} {L : List Ent} {w : World} {K : Value → World → Prop} (x0 : (List UInt8)) (r : (List UInt8)) (hf : p_ref08_one x0 = some r) (hg : Glo I) (hX : ∀ b, ¬ c.X b) (hs : St c I L w)  
    (k : ∀  (J : Im) (w' : World), Le I J → St c J L w' → K (.string (bs r)) w') :
    callW Tryd.prog 93 [.string (bs x0)] K w := by
  unfold p_ref08_one at hf
  refine fn_of good Tryd.func93 rfl rfl rfl ?_
  refine sqs ?_
  refine bar ?_
  refine sqs ?_
  refine bar ?_
  refine sqs ?_
  refine sqs ?_
  refine bar ?_
  refine blk ?_
  refine loopP hf [0, 3, 4] (fun (s : (List UInt8) × Int) vs w' => ∃ (J : Im), Le I J ∧ vs = [.string (bs x0), .string (bs s.1), .int .i64 s.2] ∧ St c J (L) w') ⟨I, Le.refl _, ce rfl (ce rfl (ce rfl (rfl))), hs⟩ ?_
  clear hf
  rintro Z42 ⟨v39, v40⟩ t41 vs e58 w37 hI q1 hZ43
  try dsimp only at hI
  obtain ⟨J35, hJ36, rfl, hs38⟩ := hI
  replace q1 : p_ref08_one_b1 x0 v39 v40 = some t41 := q1
  unfold p_ref08_one_b1 at q1
  refine sqs ?_
  refine sqs ?_
  refine barN [0, 3, 4, 8] [.string (bs x0), .string (bs v39), .int .i64 v40, .bool (decide (v40 < (x0.length : Int)))] (ce rfl (ce rfl (ce rfl (ce rfl (rfl))))) ?_
  intro e44
  refine cdO q1 (fun h45 q2 => ?_) (fun h45 q3 => ?_)
  · clear q1
    refine bar ?_
    refine sqs ?_
    refine blk ?_
    refine sqs ?_
    refine reqO q2 (fun h46 q4 => ?_)
    clear q2
    refine barN [0, 3, 4, 14] [.string (bs x0), .string (bs v39), .int .i64 v40, .bool (decide (((x0.getD v40.toNat 0).toNat : Int) = (126 : Int)))] (ce rfl (ce rfl (ce rfl (ce rfl (rfl))))) ?_
    intro e47
    refine cdO q4 (fun h48 q5 => ?_) (fun h48 q6 => ?_)
    · clear q4
      refine reqO q5 (fun h49 q7 => ?_)
      clear q5
      refine bar ?_
      obtain rfl := Option.some.inj q7
      exact hZ43 _ _ ⟨J35, hJ36, ce rfl (ce rfl (ce rfl (rfl))), hs38⟩
    · clear q4
      refine sqs ?_
      refine req h46 ?_
      refine barN [0, 3, 4, 20] [.string (bs x0), .string (bs v39), .int .i64 v40, .bool (decide (((x0.getD v40.toNat 0).toNat : Int) = (47 : Int)))] (ce rfl (ce rfl (ce rfl (ce rfl (rfl))))) ?_
      intro e50
      refine cdO q6 (fun h51 q8 => ?_) (fun h51 q9 => ?_)
      · clear q6
        refine reqO q8 (fun h52 q10 => ?_)
        clear q8
        refine bar ?_
        obtain rfl := Option.some.inj q10
        exact hZ43 _ _ ⟨J35, hJ36, ce rfl (ce rfl (ce rfl (rfl))), hs38⟩
      · clear q6
        refine reqO q9 (fun h53 q11 => ?_)
        clear q9
        refine nrmO [0, 4, 23, 28] [.string (bs x0), .int .i64 v40, .string (bs v39), .string (bs (subS x0 v40 (IntKind.i64.wrap (v40 + (1 : Int)))))] (ce rfl (ce rfl (ce rfl (ce rfl (rfl))))) ?_
        intro e54
        refine reqO q11 (fun h55 q12 => ?_)
        clear q11
        refine bar ?_
        obtain rfl := Option.some.inj q12
        exact hZ43 _ _ ⟨J35, hJ36, ce rfl (ce rfl (ce rfl (rfl))), hs38⟩
  · clear q1
    obtain ⟨r56, hm57, rfl⟩ := mapO q3
    clear q3
    obtain rfl : r56 = _ := hZ43
    refine bar ?_
    refine sqs ?_
    refine bar ?_
    obtain rfl := Option.some.inj hm57
    exact k J35 w37 hJ36 hs38
def p_ref08_Write_b1 (x0 : (List (List UInt8))) (v55 : (List UInt8)) (v56 : Int) : Option (((List UInt8) × Int) ⊕ ((List UInt8))) :=
  (if v56 < ((x0.length : Nat) : Int) then ((getI x0 v56).bind fun x62 => ((p_ref08_one x62).bind fun z72 => (if v55.length + z72.length ≤ 9223372036854775807 then (some (.inl ((v55 ++ z72), (IntKind.i64.wrap (v56 + (1 : Int)))))) else none))) else (Option.map Sum.inr (some v55)))
def p_ref08_Write (x0 : (List (List UInt8))) : Option ((List UInt8)) :=
  (loopO (fun (s : (List UInt8) × Int) => p_ref08_Write_b1 x0 s.1 s.2) (([] : List UInt8), (0 : Int)))
set_option maxRecDepth 10000 in
set_option maxHeartbeats 4000000 in
theorem w_ref08_Write {c : Cx} {I : Im} {L : List Ent} {w : World} {K : Value → World → Prop} (x0 : (List (List UInt8))) (r : (List UInt8)) (hf : p_ref08_Write x0 = some r) (hg : Glo I) (hX : ∀ b, ¬ c.X b) (hs : St c I L w) {pa0 : Option Addr} {pn0 pc0 : Nat} (ph0 : RdL I 1 RdS (.slice pa0 pn0 pc0) x0)
    (k : ∀  (J : Im) (w' : World), Le I J → St c J L w' → K (.string (bs r)) w') :
    callW Tryd.prog 39 [.slice pa0 pn0 pc0] K w := by
  obtain rfl : pn0 = x0.length := ph0.lenEq
  unfold p_ref08_Write at hf
  refine fn_of good Tryd.func39 rfl rfl rfl ?_
  refine sqs ?_
  refine bar ?_
  refine sqs ?_
  refine bar ?_
  refine sqs ?_
  refine sqs ?_
  refine bar ?_
  refine blk ?_
  refine loopP hf [0, 3, 4] (fun (s : (List UInt8) × Int) vs w' => ∃ (J : Im), Le I J ∧ vs = [.slice pa0 (x0.length) pc0, .string (bs s.1), .int .i64 s.2] ∧ St c J (L) w') ⟨I, Le.refl _, ce rfl (ce rfl (ce rfl (rfl))), hs⟩ ?_
  clear hf
  rintro Z58 ⟨v55, v56⟩ t57 vs e82 w53 hI q1 hZ59
  try dsimp only at hI
  obtain ⟨J51, hJ52, rfl, hs54⟩ := hI
  replace q1 : p_ref08_Write_b1 x0 v55 v56 = some t57 := q1
  unfold p_ref08_Write_b1 at q1
  refine sqs ?_
  refine sqs ?_
  refine barN [0, 3, 4, 8] [.slice pa0 (x0.length) pc0, .string (bs v55), .int .i64 v56, .bool (decide (v56 < ((x0.length : Nat) : Int)))] (ce rfl (ce rfl (ce rfl (ce rfl (rfl))))) ?_
  intro e60
  refine cdO q1 (fun h61 q2 => ?_) (fun h61 q3 => ?_)
  · clear q1
    refine bar ?_
    refine sqs ?_
    refine blk ?_
    obtain ⟨x62, h68, q4⟩ := bindO q2
    clear q2
    obtain ⟨ad63, r64, h65, h66, h67, h69, h70, h71⟩ := RdL.getI (RdL.mono ph0 hJ52 (fun _ _ _ h => h)) h68
    obtain rfl : r64 = [.string (bs x62)] := h69
    refine idx h65 h66 h67 ?_
    refine ldc1 (h71 _ hs54.im 0 _ rfl) ?_
    obtain ⟨z72, h73, q5⟩ := bindO q4
    clear q4
    refine w_ref08_one x62 z72 h73 (hg.le hJ52) hX hs54 ?_
    intro J74 w76 hJ75 hs77
    refine nrmO [0, 4, 11, 16] [.slice pa0 (x0.length) pc0, .int .i64 v56, .string (bs v55), .string (bs z72)] (ce rfl (ce rfl (ce rfl (ce rfl (rfl))))) ?_
    intro e78
    refine reqO q5 (fun h79 q6 => ?_)
    clear q5
    refine bar ?_
    obtain rfl := Option.some.inj q6
    exact hZ59 _ _ ⟨J74, (hJ52.trans hJ75), ce rfl (ce rfl (ce rfl (rfl))), hs77⟩
  · clear q1
    obtain ⟨r80, hm81, rfl⟩ := mapO q3
    clear q3
    obtain rfl : r80 = _ := hZ59
    refine bar ?_
    refine sqs ?_
    refine bar ?_
    obtain rfl := Option.some.inj hm81
    exact k J51 w53 hJ52 hs54
def p_law08_TrailTexts_b2 (z36 : (List (List UInt8)) × Int) (z46 : (List (List UInt8)) × Int) (v227 : Int) : Option ((Int) ⊕ (Bool)) :=
  (if v227 < ((z36.1.length : Nat) : Int) then ((getI z36.1 v227).bind fun x232 => ((getI z46.1 v227).bind fun x243 => (if x232 = x243 then (some (.inl ((IntKind.i64.wrap (v227 + (1 : Int)))))) else (Option.map Sum.inr (some false))))) else (Option.map Sum.inr ((p_law08_lives).bind fun z259 => (some z259))))
def p_law08_TrailTexts_b1 (x0 : (List (List UInt8))) (z26 : (List (List UInt8)) × Int) (z36 : (List (List UInt8)) × Int) (z46 : (List (List UInt8)) × Int) (v133 : Int) : Option ((Int) ⊕ (Bool)) :=
  (if v133 < ((z26.1.length : Nat) : Int) then ((getI z26.1 v133).bind fun x138 => ((getI x0 v133).bind fun x149 => (if x138 = x149 then (some (.inl ((IntKind.i64.wrap (v133 + (1 : Int)))))) else (Option.map Sum.inr (some false))))) else (Option.map Sum.inr (loopO (fun (s : Int) => p_law08_TrailTexts_b2 z36 z46 s) ((0 : Int)))))
def p_law08_TrailTexts (x0 : (List (List UInt8))) (x1 : (List UInt8)) : Option (Bool) :=
  (if (20 : Int) < ((x0.length : Nat) : Int) then ((p_law08_lives).bind fun z3 => (some z3)) else (if (300 : Int) < (x1.length : Int) then ((p_law08_lives).bind fun z12 => (some z12)) else ((p_trail_Write x0).bind fun z19 => ((p_trail_Read z19).bind fun z26 => ((p_trail_Read x1).bind fun z36 => ((p_ref08_Read x1).bind fun z46 => ((p_ref08_Write x0).bind fun z56 => (if z19 = z56 then (if z26.2 = (0 : Int) then (if ((z26.1.length : Nat) : Int) = ((x0.length : Nat) : Int) then (if z36.2 = z46.2 then (if ((z36.1.length : Nat) : Int) = ((z46.1.length : Nat) : Int) then (loopO (fun (s : Int) => p_law08_TrailTexts_b1 x0 z26 z36 z46 s) ((0 : Int))) else (some false)) else (some false)) else (some false)) else (some false)) else (some false)))))))))
set_option maxRecDepth 10000 in
set_option maxHeartbeats 4000000 in
theorem w_law08_TrailTexts {c : Cx} {I : Im} {L : List Ent} {w : World} {K : Value → World → Prop} (x0 : (List (List UInt8))) (x1 : (List UInt8)) (r : Bool) (hf : p_law08_TrailTexts x0 x1 = some r) (hg : Glo I) (hX : ∀ b, ¬ c.X b) (hs : St c I L w) {pa0 : Option Addr} {pn0 pc0 : Nat} (ph0 : RdL I 1 RdS (.slice pa0 pn0 pc0) x0)
    (k : ∀  (J : Im) (w' : World), Le I J → St c J L w' → K (.bool r) w') :
    callW Tryd.prog 7 [.slice pa0 pn0 pc0, .string (bs x1)] K w := by
  obtain rfl : pn0 = x0.length := ph0.lenEq
  unfold p_law08_TrailTexts at hf
  refine fn_of good Tryd.func7 rfl rfl rfl ?_
  refine sqs ?_
  refine bar ?_
  refine sqs ?_
  refine sqs ?_
  refine cdO hf (fun h1 q1 => ?_) (fun h1 q2 => ?_)
  · clear hf
    refine nrmO [0, 1, 19, 20] [.slice pa0 (x0.length) pc0, .string (bs x1), .bool true, undef] (ce rfl (ce rfl (ce rfl (ce rfl (rfl))))) ?_
    intro e2
    refine bar ?_
    obtain ⟨z3, h4, q3⟩ := bindO q1
    clear q1
    refine w_law08_lives  z3 h4 hg hX hs ?_
    intro J5 w7 hJ6 hs8
    refine barN [4] [.bool z3] (ce rfl (rfl)) ?_
    intro e9
    obtain rfl := Option.some.inj q3
    exact k J5 w7 hJ6 hs8
  · clear hf
    refine nrmP [0, 1, 19] [.slice pa0 (x0.length) pc0, .string (bs x1), .bool false] (ce rfl (ce rfl (ce rfl (rfl)))) ?_
    intro e10
    refine bar ?_
    refine cdO q2 (fun h11 q4 => ?_) (fun h11 q5 => ?_)
    · clear q2
      refine sqs ?_
      obtain ⟨z12, h13, q6⟩ := bindO q4
      clear q4
      refine w_law08_lives  z12 h13 hg hX hs ?_
      intro J14 w16 hJ15 hs17
      refine barN [4] [.bool z12] (ce rfl (rfl)) ?_
      intro e18
      obtain rfl := Option.some.inj q6
      exact k J14 w16 hJ15 hs17
    · clear q2
      refine bar ?_
      refine sqs ?_
      obtain ⟨z19, h20, q7⟩ := bindO q5
      clear q5
      refine w_trail_Write x0 z19 h20 hg hX hs ph0 ?_
      intro J21 w23 hJ22 hs24
      refine barN [0, 1, 5] [.slice pa0 (x0.length) pc0, .string (bs x1), .string (bs z19)] (ce rfl (ce rfl (ce rfl (rfl)))) ?_
      intro e25
      refine sqs ?_
      obtain ⟨z26, h27, q8⟩ := bindO q7
      clear q7
      refine w_trail_Read z19 z26 h27 (hg.le hJ22) hX hs24 ?_
      intro a32 c33 J28 w30 hJ29 hs31 h34
      refine barN [0, 1, 5, 6, 7] [.slice pa0 (x0.length) pc0, .string (bs x1), .string (bs z19), .slice a32 (z26.1.length) c33, .int .i64 z26.2] (ce rfl (ce rfl (ce rfl (ce rfl (ce rfl (rfl)))))) ?_
      intro e35
      refine sqs ?_
      obtain ⟨z36, h37, q9⟩ := bindO q8
      clear q8
      refine w_trail_Read x1 z36 h37 (hg.le (hJ22.trans hJ29)) hX hs31 ?_
      intro a42 c43 J38 w40 hJ39 hs41 h44
      refine barN [0, 1, 5, 6, 7, 8, 9] [.slice pa0 (x0.length) pc0, .string (bs x1), .string (bs z19), .slice a32 (z26.1.length) c33, .int .i64 z26.2, .slice a42 (z36.1.length) c43, .int .i64 z36.2] (ce rfl (ce rfl (ce rfl (ce rfl (ce rfl (ce rfl (ce rfl (rfl)))))))) ?_
      intro e45
      refine sqs ?_
      obtain ⟨z46, h47, q10⟩ := bindO q9
      clear q9
      refine w_ref08_Read x1 z46 h47 (hg.le (hJ22.trans (hJ29.trans hJ39))) hX hs41 ?_
      intro a52 c53 J48 w50 hJ49 hs51 h54
      refine barN [0, 5, 6, 7, 8, 9, 10, 11] [.slice pa0 (x0.length) pc0, .string (bs z19), .slice a32 (z26.1.length) c33, .int .i64 z26.2, .slice a42 (z36.1.length) c43, .int .i64 z36.2, .slice a52 (z46.1.length) c53, .int .i64 z46.2] (ce rfl (ce rfl (ce rfl (ce rfl (ce rfl (ce rfl (ce rfl (ce rfl (rfl))))))))) ?_
      intro e55
      refine sqs ?_
      refine sqs ?_
      obtain ⟨z56, h57, q11⟩ := bindO q10
      clear q10
      refine w_ref08_Write x0 z56 h57 (hg.le (hJ22.trans (hJ29.trans (hJ39.trans hJ49)))) hX hs51 (RdL.mono ph0 (hJ22.trans (hJ29.trans (hJ39.trans hJ49))) (fun _ _ _ h => h)) ?_
      intro J58 w60 hJ59 hs61
      refine cnO q11 (fun h62 q12 => ?_) (fun h62 q13 => ?_)
      · clear q11
        refine nrmP [0, 6, 7, 8, 9, 10, 11, 46] [.slice pa0 (x0.length) pc0, .slice a32 (z26.1.length) c33, .int .i64 z26.2, .slice a42 (z36.1.length) c43, .int .i64 z36.2, .slice a52 (z46.1.length) c53, .int .i64 z46.2, .bool false] (ce rfl (ce rfl (ce rfl (ce rfl (ce rfl (ce rfl (ce rfl (ce rfl (rfl))))))))) ?_
        intro e63
        refine cnO q12 (fun h64 q14 => ?_) (fun h64 q15 => ?_)
        · clear q12
          refine nrmP [0, 6, 8, 9, 10, 11, 50] [.slice pa0 (x0.length) pc0, .slice a32 (z26.1.length) c33, .slice a42 (z36.1.length) c43, .int .i64 z36.2, .slice a52 (z46.1.length) c53, .int .i64 z46.2, .bool false] (ce rfl (ce rfl (ce rfl (ce rfl (ce rfl (ce rfl (ce rfl (rfl)))))))) ?_
          intro e65
          refine cnO q14 (fun h66 q16 => ?_) (fun h66 q17 => ?_)
          · clear q14
            refine nrmP [0, 6, 8, 9, 10, 11, 57] [.slice pa0 (x0.length) pc0, .slice a32 (z26.1.length) c33, .slice a42 (z36.1.length) c43, .int .i64 z36.2, .slice a52 (z46.1.length) c53, .int .i64 z46.2, .bool false] (ce rfl (ce rfl (ce rfl (ce rfl (ce rfl (ce rfl (ce rfl (rfl)))))))) ?_
            intro e67
            refine cnO q16 (fun h68 q18 => ?_) (fun h68 q19 => ?_)
            · clear q16
              refine nrmP [0, 6, 8, 10, 62] [.slice pa0 (x0.length) pc0, .slice a32 (z26.1.length) c33, .slice a42 (z36.1.length) c43, .slice a52 (z46.1.length) c53, .bool false] (ce rfl (ce rfl (ce rfl (ce rfl (ce rfl (rfl)))))) ?_
              intro e69
              refine barN [0, 6, 8, 10, 68] [.slice pa0 (x0.length) pc0, .slice a32 (z26.1.length) c33, .slice a42 (z36.1.length) c43, .slice a52 (z46.1.length) c53, .bool (!decide (((z36.1.length : Nat) : Int) = ((z46.1.length : Nat) : Int)))] (ce rfl (ce rfl (ce rfl (ce rfl (ce rfl (rfl)))))) ?_
              intro e70
              refine cnO q18 (fun h71 q20 => ?_) (fun h71 q21 => ?_)
              · clear q18
                refine bar ?_
                refine sqs ?_
                refine sqs ?_
                refine bar ?_
                refine blk ?_
                refine loopP q20 [0, 8, 10, 69, 70, 71] (fun (s : Int) vs w' => ∃ (J : Im), Le J58 J ∧ vs = [.slice pa0 (x0.length) pc0, .slice a42 (z36.1.length) c43, .slice a52 (z46.1.length) c53, .slice a32 (z26.1.length) c33, .int .i64 (((z26.1.length : Nat) : Int)), .int .i64 s] ∧ St c J (L) w') ⟨J58, Le.refl _, ce rfl (ce rfl (ce rfl (ce rfl (ce rfl (ce rfl (rfl)))))), hs61⟩ ?_
                clear q20
                rintro Z135 v133 t134 vs e266 w131 hI q22 hZ136
                try dsimp only at hI
                obtain ⟨J129, hJ130, rfl, hs132⟩ := hI
                replace q22 : p_law08_TrailTexts_b1 x0 z26 z36 z46 v133 = some t134 := q22
                unfold p_law08_TrailTexts_b1 at q22
                refine sqs ?_
                refine bar ?_
                refine sqs ?_
                refine cdO q22 (fun h137 q23 => ?_) (fun h137 q24 => ?_)
                · clear q22
                  refine bar ?_
                  refine sqs ?_
                  refine blk ?_
                  refine sqs ?_
                  obtain ⟨x138, h144, q25⟩ := bindO q23
                  clear q23
                  obtain ⟨ad139, r140, h141, h142, h143, h145, h146, h147⟩ := RdL.getI (RdL.mono h34 (hJ39.trans (hJ49.trans (hJ59.trans hJ130))) (fun _ _ _ h => h)) h144
                  obtain rfl : r140 = [.string (bs x138)] := h145
                  refine idx h141 h142 h143 ?_
                  refine ldc1 (h147 _ hs132.im 0 _ rfl) ?_
                  refine barN [0, 8, 10, 12, 13, 69, 70, 71] [.slice pa0 (x0.length) pc0, .slice a42 (z36.1.length) c43, .slice a52 (z46.1.length) c53, .int .i64 v133, .string (bs x138), .slice a32 (z26.1.length) c33, .int .i64 (((z26.1.length : Nat) : Int)), .int .i64 v133] (ce rfl (ce rfl (ce rfl (ce rfl (ce rfl (ce rfl (ce rfl (ce rfl (rfl))))))))) ?_
                  intro e148
                  refine sqs ?_
                  obtain ⟨x149, h155, q26⟩ := bindO q25
                  clear q25
                  obtain ⟨ad150, r151, h152, h153, h154, h156, h157, h158⟩ := RdL.getI (RdL.mono ph0 (hJ22.trans (hJ29.trans (hJ39.trans (hJ49.trans (hJ59.trans hJ130))))) (fun _ _ _ h => h)) h155
                  obtain rfl : r151 = [.string (bs x149)] := h156
                  refine idx h152 h153 h154 ?_
                  refine ldc1 (h158 _ hs132.im 0 _ rfl) ?_
                  refine barN [0, 8, 10, 69, 70, 71, 81] [.slice pa0 (x0.length) pc0, .slice a42 (z36.1.length) c43, .slice a52 (z46.1.length) c53, .slice a32 (z26.1.length) c33, .int .i64 (((z26.1.length : Nat) : Int)), .int .i64 v133, .bool (!decide (x138 = x149))] (ce rfl (ce rfl (ce rfl (ce rfl (ce rfl (ce rfl (ce rfl (rfl)))))))) ?_
                  intro e159
                  refine cnO q26 (fun h160 q27 => ?_) (fun h160 q28 => ?_)
                  · clear q26
                    refine bar ?_
                    obtain rfl := Option.some.inj q27
                    exact hZ136 _ _ ⟨J129, hJ130, ce rfl (ce rfl (ce rfl (ce rfl (ce rfl (ce rfl (rfl)))))), hs132⟩
                  · clear q26
                    refine sqs ?_
                    refine bar ?_
                    obtain ⟨r161, hm162, rfl⟩ := mapO q28
                    clear q28
                    obtain rfl : r161 = _ := hZ136
                    obtain rfl := Option.some.inj hm162
                    exact k J129 w131 (hJ22.trans (hJ29.trans (hJ39.trans (hJ49.trans (hJ59.trans hJ130))))) hs132
                · clear q22
                  obtain ⟨r163, hm164, rfl⟩ := mapO q24
                  clear q24
                  obtain rfl : r163 = _ := hZ136
                  refine bar ?_
                  refine sqs ?_
                  refine sqs ?_
                  refine barN [10, 83, 84, 85] [.slice a52 (z46.1.length) c53, .slice a42 (z36.1.length) c43, .int .i64 (((z36.1.length : Nat) : Int)), .int .i64 ((0 : Int))] (ce rfl (ce rfl (ce rfl (ce rfl (rfl))))) ?_
                  intro e165
                  refine blk ?_
                  refine loopP hm164 [10, 83, 84, 85] (fun (s : Int) vs w' => ∃ (J : Im), Le J129 J ∧ vs = [.slice a52 (z46.1.length) c53, .slice a42 (z36.1.length) c43, .int .i64 (((z36.1.length : Nat) : Int)), .int .i64 s] ∧ St c J (L) w') ⟨J129, Le.refl _, ce rfl (ce rfl (ce rfl (ce rfl (rfl)))), hs132⟩ ?_
                  clear hm164
                  rintro Z229 v227 t228 vs e265 w225 hI q29 hZ230
                  try dsimp only at hI
                  obtain ⟨J223, hJ224, rfl, hs226⟩ := hI
                  replace q29 : p_law08_TrailTexts_b2 z36 z46 v227 = some t228 := q29
                  unfold p_law08_TrailTexts_b2 at q29
                  refine sqs ?_
                  refine bar ?_
                  refine sqs ?_
                  refine cdO q29 (fun h231 q30 => ?_) (fun h231 q31 => ?_)
                  · clear q29
                    refine bar ?_
                    refine sqs ?_
                    refine blk ?_
                    refine sqs ?_
                    obtain ⟨x232, h238, q32⟩ := bindO q30
                    clear q30
                    obtain ⟨ad233, r234, h235, h236, h237, h239, h240, h241⟩ := RdL.getI (RdL.mono h44 (hJ49.trans (hJ59.trans (hJ130.trans hJ224))) (fun _ _ _ h => h)) h238
                    obtain rfl : r234 = [.string (bs x232)] := h239
                    refine idx h235 h236 h237 ?_
                    refine ldc1 (h241 _ hs226.im 0 _ rfl) ?_
                    refine barN [10, 14, 15, 83, 84, 85] [.slice a52 (z46.1.length) c53, .int .i64 v227, .string (bs x232), .slice a42 (z36.1.length) c43, .int .i64 (((z36.1.length : Nat) : Int)), .int .i64 v227] (ce rfl (ce rfl (ce rfl (ce rfl (ce rfl (ce rfl (rfl))))))) ?_
                    intro e242
                    refine sqs ?_
                    obtain ⟨x243, h249, q33⟩ := bindO q32
                    clear q32
                    obtain ⟨ad244, r245, h246, h247, h248, h250, h251, h252⟩ := RdL.getI (RdL.mono h54 (hJ59.trans (hJ130.trans hJ224)) (fun _ _ _ h => h)) h249
                    obtain rfl : r245 = [.string (bs x243)] := h250
                    refine idx h246 h247 h248 ?_
                    refine ldc1 (h252 _ hs226.im 0 _ rfl) ?_
                    refine barN [10, 83, 84, 85, 95] [.slice a52 (z46.1.length) c53, .slice a42 (z36.1.length) c43, .int .i64 (((z36.1.length : Nat) : Int)), .int .i64 v227, .bool (!decide (x232 = x243))] (ce rfl (ce rfl (ce rfl (ce rfl (ce rfl (rfl)))))) ?_
                    intro e253
                    refine cnO q33 (fun h254 q34 => ?_) (fun h254 q35 => ?_)
                    · clear q33
                      refine bar ?_
                      obtain rfl := Option.some.inj q34
                      exact hZ230 _ _ ⟨J223, hJ224, ce rfl (ce rfl (ce rfl (ce rfl (rfl)))), hs226⟩
                    · clear q33
                      refine sqs ?_
                      refine bar ?_
                      obtain ⟨r255, hm256, rfl⟩ := mapO q35
                      clear q35
                      obtain rfl : r255 = _ := hZ230
                      obtain rfl := Option.some.inj hm256
                      exact k J223 w225 (hJ22.trans (hJ29.trans (hJ39.trans (hJ49.trans (hJ59.trans (hJ130.trans hJ224)))))) hs226
                  · clear q29
                    obtain ⟨r257, hm258, rfl⟩ := mapO q31
                    clear q31
                    obtain rfl : r257 = _ := hZ230
                    refine bar ?_
                    refine sqs ?_
                    obtain ⟨z259, h260, q36⟩ := bindO hm258
                    clear hm258
                    refine w_law08_lives  z259 h260 (hg.le (hJ22.trans (hJ29.trans (hJ39.trans (hJ49.trans (hJ59.trans (hJ130.trans hJ224))))))) hX hs226 ?_
                    intro J261 w263 hJ262 hs264
                    refine bar ?_
                    obtain rfl := Option.some.inj q36
                    exact k J261 w263 (hJ22.trans (hJ29.trans (hJ39.trans (hJ49.trans (hJ59.trans (hJ130.trans (hJ224.trans hJ262))))))) hs264
              · clear q18
                refine sqs ?_
                refine bar ?_
                obtain rfl := Option.some.inj q21
                exact k J58 w60 (hJ22.trans (hJ29.trans (hJ39.trans (hJ49.trans hJ59)))) hs61
            · clear q16
              refine nrmO [0, 6, 8, 10, 62, 63] [.slice pa0 (x0.length) pc0, .slice a32 (z26.1.length) c33, .slice a42 (z36.1.length) c43, .slice a52 (z46.1.length) c53, .bool true, undef] (ce rfl (ce rfl (ce rfl (ce rfl (ce rfl (ce rfl (rfl))))))) ?_
              intro e267
              refine barN [0, 6, 8, 10, 68] [.slice pa0 (x0.length) pc0, .slice a32 (z26.1.length) c33, .slice a42 (z36.1.length) c43, .slice a52 (z46.1.length) c53, .bool true] (ce rfl (ce rfl (ce rfl (ce rfl (ce rfl (rfl)))))) ?_
              intro e268
              refine bar ?_
              obtain rfl := Option.some.inj q19
              exact k J58 w60 (hJ22.trans (hJ29.trans (hJ39.trans (hJ49.trans hJ59)))) hs61
          · clear q14
            refine nrmO [0, 6, 8, 10, 11, 57, 58] [.slice pa0 (x0.length) pc0, .slice a32 (z26.1.length) c33, .slice a42 (z36.1.length) c43, .slice a52 (z46.1.length) c53, .int .i64 z46.2, .bool true, undef] (ce rfl (ce rfl (ce rfl (ce rfl (ce rfl (ce rfl (ce rfl (rfl)))))))) ?_
            intro e269
            refine barN [0, 6, 8, 10, 68] [.slice pa0 (x0.length) pc0, .slice a32 (z26.1.length) c33, .slice a42 (z36.1.length) c43, .slice a52 (z46.1.length) c53, .bool true] (ce rfl (ce rfl (ce rfl (ce rfl (ce rfl (rfl)))))) ?_
            intro e270
            refine bar ?_
            obtain rfl := Option.some.inj q17
            exact k J58 w60 (hJ22.trans (hJ29.trans (hJ39.trans (hJ49.trans hJ59)))) hs61
        · clear q12
          refine nrmO [0, 6, 8, 9, 10, 11, 50, 51] [.slice pa0 (x0.length) pc0, .slice a32 (z26.1.length) c33, .slice a42 (z36.1.length) c43, .int .i64 z36.2, .slice a52 (z46.1.length) c53, .int .i64 z46.2, .bool true, undef] (ce rfl (ce rfl (ce rfl (ce rfl (ce rfl (ce rfl (ce rfl (ce rfl (rfl))))))))) ?_
          intro e271
          refine barN [0, 6, 8, 10, 68] [.slice pa0 (x0.length) pc0, .slice a32 (z26.1.length) c33, .slice a42 (z36.1.length) c43, .slice a52 (z46.1.length) c53, .bool true] (ce rfl (ce rfl (ce rfl (ce rfl (ce rfl (rfl)))))) ?_
          intro e272
          refine bar ?_
          obtain rfl := Option.some.inj q15
          exact k J58 w60 (hJ22.trans (hJ29.trans (hJ39.trans (hJ49.trans hJ59)))) hs61
      · clear q11
        refine nrmO [0, 6, 8, 9, 10, 11, 46, 47] [.slice pa0 (x0.length) pc0, .slice a32 (z26.1.length) c33, .slice a42 (z36.1.length) c43, .int .i64 z36.2, .slice a52 (z46.1.length) c53, .int .i64 z46.2, .bool true, undef] (ce rfl (ce rfl (ce rfl (ce rfl (ce rfl (ce rfl (ce rfl (ce rfl (rfl))))))))) ?_
        intro e273
        refine barN [0, 6, 8, 10, 68] [.slice pa0 (x0.length) pc0, .slice a32 (z26.1.length) c33, .slice a42 (z36.1.length) c43, .slice a52 (z46.1.length) c53, .bool true] (ce rfl (ce rfl (ce rfl (ce rfl (ce rfl (rfl)))))) ?_
        intro e274
        refine bar ?_
        obtain rfl := Option.some.inj q13
        exact k J58 w60 (hJ22.trans (hJ29.trans (hJ39.trans (hJ49.trans hJ59)))) hs61
end B
end Go.Proofs.YtdbihpobfcbmeaaDoor
