/- Plain functions that stand for the program's, and the walks that show it: printed by gen.py. -/
import Derived.Test.YtdbihpobfcbmeaaDoorM3
import Derived.Test.YtdbihpobfcbmeaaDoorM2
set_option linter.unusedVariables false
set_option linter.unusedSimpArgs false
namespace Go.Proofs.YtdbihpobfcbmeaaDoor
namespace B
open Go Go.RowKit

def p_ref05_amount_s (self : Int → Option ((List UInt8))) (x0 : Int) : Option ((List UInt8)) :=
  (if 0 ≤ (IntKind.u8.wrap (IntKind.u64.wrap ((48 : Int) + (x0.tmod (10 : Int))))) ∧ (IntKind.u8.wrap (IntKind.u64.wrap ((48 : Int) + (x0.tmod (10 : Int))))) < 256 then (if x0 < (10 : Int) then (some ([(byteI (IntKind.u8.wrap (IntKind.u64.wrap ((48 : Int) + (x0.tmod (10 : Int))))))] : List UInt8)) else ((self (IntKind.u64.wrap (x0.tdiv (10 : Int)))).bind fun z11 => (if z11.length + ([(byteI (IntKind.u8.wrap (IntKind.u64.wrap ((48 : Int) + (x0.tmod (10 : Int))))))] : List UInt8).length ≤ 9223372036854775807 then (some (z11 ++ ([(byteI (IntKind.u8.wrap (IntKind.u64.wrap ((48 : Int) + (x0.tmod (10 : Int))))))] : List UInt8))) else none))) else none)
def p_ref05_amount_n (n : Nat) : Int → Option ((List UInt8)) :=
  Nat.rec (motive := fun _ => Int → Option ((List UInt8))) (fun _ => none) (fun _ ih => p_ref05_amount_s ih) n
def p_ref05_amount : Int → Option ((List UInt8)) := p_ref05_amount_n fuel
def C_ref05_amount (c : Cx) (q : Int → Option ((List UInt8))) : Prop := ∀ {I : Im} {L : List Ent} {w : World} {K : Value → World → Prop} (x0 : Int) (r : (List UInt8)) (hf : q x0 = some r) (hg : Glo I) (hX : ∀ b, ¬ c.X b) (hs : St c I L w)  
    (k : ∀  (J : Im) (w' : World), Le I J → St c J L w' → K (.string (bs r)) w'), callW Tryd.prog 153 [.int .u64 x0] K w
set_option maxRecDepth 10000 in
set_option maxHeartbeats 4000000 in
theorem w_ref05_amount_s {c : Cx} {self : Int → Option ((List UInt8))} (hself : C_ref05_amount c self) : C_ref05_amount c (p_ref05_amount_s self) := by
  intro I L w K x0 r hf hg hX  hs   k
  unfold p_ref05_amount_s at hf
  refine fn_of good Tryd.func153 rfl rfl rfl ?_
  refine sqs ?_
  refine bar ?_
  refine sqs ?_
  refine req (by decide) ?_
  obtain ⟨h1, q1⟩ := okO hf
  clear hf
  refine new hs ?_
  intro b2 w3 hs4
  have hs4 : St c I (.blk b2 (.cells ⟨[.int .u8 ((IntKind.u8.wrap (IntKind.u64.wrap ((48 : Int) + (x0.tmod (10 : Int))))))]⟩ 5) :: L) w3 := hs4
  refine nrmO [0, 8] [.int .u64 x0, .slice (some ⟨b2, 0, none⟩) 1 1] (ce rfl (ce rfl (rfl))) ?_
  intro e5
  have h7 : RdC 1 RdU [.int .u8 ((IntKind.u8.wrap (IntKind.u64.wrap ((48 : Int) + (x0.tmod (10 : Int))))))] [(byteI (IntKind.u8.wrap (IntKind.u64.wrap ((48 : Int) + (x0.tmod (10 : Int))))))] := (RdC.snoc (sz := 1) (R := RdU) (RdC.nil (sz := 1) (R := RdU)) rfl (show RdU [.int .u8 ((IntKind.u8.wrap (IntKind.u64.wrap ((48 : Int) + (x0.tmod (10 : Int))))))] (byteI (IntKind.u8.wrap (IntKind.u64.wrap ((48 : Int) + (x0.tmod (10 : Int)))))) from (RdU_I h1)))
  have hs8 := hs4.toRow 0 (sz := 1) (n := 1) rfl rfl (by decide)
  refine cvsR good 0 hs8 rfl h7 rfl rfl rfl rfl ?_
  refine bar ?_
  refine sqs ?_
  refine sqs ?_
  refine barN [0, 3, 11] [.int .u64 x0, .string (bs ([(byteI (IntKind.u8.wrap (IntKind.u64.wrap ((48 : Int) + (x0.tmod (10 : Int))))))] : List UInt8)), .bool (decide (x0 < (10 : Int)))] (ce rfl (ce rfl (ce rfl (rfl)))) ?_
  intro e9
  refine cdO q1 (fun h10 q2 => ?_) (fun h10 q3 => ?_)
  · clear q1
    refine sqs ?_
    refine bar ?_
    obtain rfl := Option.some.inj q2
    exact k I w3 (Le.refl _) (hs8.drop 0)
  · clear q1
    refine bar ?_
    refine sqs ?_
    refine req (by decide) ?_
    obtain ⟨z11, h12, q4⟩ := bindO q3
    clear q3
    refine hself (IntKind.u64.wrap (x0.tdiv (10 : Int))) z11 h12 hg hX hs8 ?_
    intro J13 w15 hJ14 hs16
    refine reqO q4 (fun h17 q5 => ?_)
    clear q4
    refine barN [2] [.string (bs (z11 ++ ([(byteI (IntKind.u8.wrap (IntKind.u64.wrap ((48 : Int) + (x0.tmod (10 : Int))))))] : List UInt8)))] (ce rfl (rfl)) ?_
    intro e18
    obtain rfl := Option.some.inj q5
    exact k J13 w15 hJ14 (hs16.drop 0)
theorem w_ref05_amount {c : Cx} : C_ref05_amount c p_ref05_amount := by
  have key : ∀ n, C_ref05_amount c (p_ref05_amount_n n) := by
    intro n
    induction n with
    | zero => intro I L w K x0 r hf; cases hf
    | succ n ih => exact w_ref05_amount_s ih
  exact @key fuel
def p_ref05_Show (x0 : Int) : Option ((List UInt8)) :=
  (if x0 < (0 : Int) then ((p_ref05_amount (IntKind.u64.wrap ((IntKind.u64.wrap (IntKind.i64.wrap (0 - (IntKind.i64.wrap (x0 + (1 : Int)))))) + (1 : Int)))).bind fun z2 => (if ([45] : List UInt8).length + z2.length ≤ 9223372036854775807 then (some (([45] : List UInt8) ++ z2)) else none)) else ((p_ref05_amount (IntKind.u64.wrap x0)).bind fun z10 => (some z10)))
set_option maxRecDepth 10000 in
set_option maxHeartbeats 4000000 in
theorem w_ref05_Show {c : Cx} {I : Im} {L : List Ent} {w : World} {K : Value → World → Prop} (x0 : Int) (r : (List UInt8)) (hf : p_ref05_Show x0 = some r) (hg : Glo I) (hX : ∀ b, ¬ c.X b) (hs : St c I L w)  
    (k : ∀  (J : Im) (w' : World), Le I J → St c J L w' → K (.string (bs r)) w') :
    callW Tryd.prog 109 [.int .i64 x0] K w := by
  unfold p_ref05_Show at hf
  refine fn_of good Tryd.func109 rfl rfl rfl ?_
  refine sqs ?_
  refine bar ?_
  refine sqs ?_
  refine sqs ?_
  refine bar ?_
  refine cdO hf (fun h1 q1 => ?_) (fun h1 q2 => ?_)
  · clear hf
    refine sqs ?_
    obtain ⟨z2, h3, q3⟩ := bindO q1
    clear q1
    refine w_ref05_amount (IntKind.u64.wrap ((IntKind.u64.wrap (IntKind.i64.wrap (0 - (IntKind.i64.wrap (x0 + (1 : Int)))))) + (1 : Int))) z2 h3 hg hX hs ?_
    intro J4 w6 hJ5 hs7
    refine nrmO [10] [.string (bs z2)] (ce rfl (rfl)) ?_
    intro e8
    refine reqO q3 (fun h9 q4 => ?_)
    clear q3
    refine bar ?_
    obtain rfl := Option.some.inj q4
    exact k J4 w6 hJ5 hs7
  · clear hf
    refine bar ?_
    refine sqs ?_
    obtain ⟨z10, h11, q5⟩ := bindO q2
    clear q2
    refine w_ref05_amount (IntKind.u64.wrap x0) z10 h11 hg hX hs ?_
    intro J12 w14 hJ13 hs15
    refine nrmO [14] [.string (bs z10)] (ce rfl (rfl)) ?_
    intro e16
    refine bar ?_
    obtain rfl := Option.some.inj q5
    exact k J12 w14 hJ13 hs15
def p_ref49_show (x0 : Int) : Option ((List UInt8)) :=
  ((p_ref05_Show x0).bind fun z1 => (some z1))
set_option maxRecDepth 10000 in
set_option maxHeartbeats 4000000 in
theorem w_ref49_show {c : Cx} {I : Im} {L : List Ent} {w : World} {K : Value → World → Prop} (x0 : Int) (r : (List UInt8)) (hf : p_ref49_show x0 = some r) (hg : Glo I) (hX : ∀ b, ¬ c.X b) (hs : St c I L w)  
    (k : ∀  (J : Im) (w' : World), Le I J → St c J L w' → K (.string (bs r)) w') :
    callW Tryd.prog 84 [.int .i64 x0] K w := by
  unfold p_ref49_show at hf
  refine fn_of good Tryd.func84 rfl rfl rfl ?_
  refine sqs ?_
  refine bar ?_
  refine sqs ?_
  obtain ⟨z1, h2, q1⟩ := bindO hf
  clear hf
  refine w_ref05_Show x0 z1 h2 hg hX hs ?_
  intro J3 w5 hJ4 hs6
  refine barN [2] [.string (bs z1)] (ce rfl (rfl)) ?_
  intro e7
  obtain rfl := Option.some.inj q1
  exact k J3 w5 hJ4 hs6
def p_ref49_Line_j1 (x0 : (List (List UInt8))) (v92 : Int) (v102 : (List UInt8)) : Option ((((List UInt8) × Int) ⊕ ((List UInt8)))) :=
  ((getI x0 v92).bind fun x103 => (if x103 = ([] : List UInt8) then (if v102.length + ([45] : List UInt8).length ≤ 9223372036854775807 then (some (.inl ((v102 ++ ([45] : List UInt8)), (IntKind.i64.wrap (v92 + (1 : Int)))))) else none) else ((getI x0 v92).bind fun x116 => (if v102.length + x116.length ≤ 9223372036854775807 then (some (.inl ((v102 ++ x116), (IntKind.i64.wrap (v92 + (1 : Int)))))) else none))))
def p_ref49_Line_b1 (x0 : (List (List UInt8))) (v91 : (List UInt8)) (v92 : Int) : Option (((List UInt8) × Int) ⊕ ((List UInt8))) :=
  (if v92 < ((x0.length : Nat) : Int) then (if (0 : Int) < v92 then (if v91.length + ([32] : List UInt8).length ≤ 9223372036854775807 then (p_ref49_Line_j1 x0 v92 (v91 ++ ([32] : List UInt8))) else none) else (p_ref49_Line_j1 x0 v92 v91)) else (Option.map Sum.inr (if v91.length + ([(10 : UInt8)] : List UInt8).length ≤ 9223372036854775807 then (some (v91 ++ ([(10 : UInt8)] : List UInt8))) else none)))
def p_ref49_Line (x0 : (List (List UInt8))) : Option ((List UInt8)) :=
  (loopO (fun (s : (List UInt8) × Int) => p_ref49_Line_b1 x0 s.1 s.2) (([] : List UInt8), (0 : Int)))
set_option maxRecDepth 10000 in
set_option maxHeartbeats 4000000 in
theorem w_ref49_Line {c : Cx} {I : Im} {L : List Ent} {w : World} {K : Value → World → Prop} (x0 : (List (List UInt8))) (r : (List UInt8)) (hf : p_ref49_Line x0 = some r) (hg : Glo I) (hX : ∀ b, ¬ c.X b) (hs : St c I L w) {pa0 : Option Addr} {pn0 pc0 : Nat} (ph0 : RdL I 1 RdS (.slice pa0 pn0 pc0) x0)
    (k : ∀  (J : Im) (w' : World), Le I J → St c J L w' → K (.string (bs r)) w') :
    callW Tryd.prog 30 [.slice pa0 pn0 pc0] K w := by
  obtain rfl : pn0 = x0.length := ph0.lenEq
  unfold p_ref49_Line at hf
  refine fn_of good Tryd.func30 rfl rfl rfl ?_
  refine sqs ?_
  refine bar ?_
  refine sqs ?_
  refine bar ?_
  refine sqs ?_
  refine sqs ?_
  refine bar ?_
  refine blk ?_
  refine loopP hf [0, 3, 4] (fun (s : (List UInt8) × Int) vs w' => ∃ (J : Im), Le I J ∧ vs = [.slice pa0 (x0.length) pc0, .string (bs s.1), .int .i64 s.2] ∧ St c J (L) w') ⟨I, Le.refl _, ce rfl (ce rfl (ce rfl (rfl))), hs⟩ ?_
  clear hf
  rintro Z94 ⟨v91, v92⟩ t93 vs e144 w89 hI q1 hZ95
  try dsimp only at hI
  obtain ⟨J87, hJ88, rfl, hs90⟩ := hI
  replace q1 : p_ref49_Line_b1 x0 v91 v92 = some t93 := q1
  unfold p_ref49_Line_b1 at q1
  refine sqs ?_
  refine sqs ?_
  refine barN [0, 3, 4, 8] [.slice pa0 (x0.length) pc0, .string (bs v91), .int .i64 v92, .bool (decide (v92 < ((x0.length : Nat) : Int)))] (ce rfl (ce rfl (ce rfl (ce rfl (rfl))))) ?_
  intro e96
  refine cdO q1 (fun h97 q2 => ?_) (fun h97 q3 => ?_)
  · clear q1
    refine bar ?_
    refine sqs ?_
    refine blk ?_
    refine sqs ?_
    refine cutc [0, 3, 4] (fun vs w' => ∃ (v102 : (List UInt8)) (J : Im), Le J87 J ∧ vs = [.slice pa0 (x0.length) pc0, .string (bs v102), .int .i64 v92] ∧ St c J (L) w' ∧ p_ref49_Line_j1 x0 v92 v102 = some t93) ?_ ?_
    · clear q2
      rintro vs e133 w100 ⟨v102, J98, hJ99, rfl, hs101, q4⟩
      unfold p_ref49_Line_j1 at q4
      refine bar ?_
      refine sqs ?_
      obtain ⟨x103, h109, q5⟩ := bindO q4
      clear q4
      obtain ⟨ad104, r105, h106, h107, h108, h110, h111, h112⟩ := RdL.getI (RdL.mono ph0 (hJ88.trans hJ99) (fun _ _ _ h => h)) h109
      obtain rfl : r105 = [.string (bs x103)] := h110
      refine idx h106 h107 h108 ?_
      refine ldc1 (h112 _ hs101.im 0 _ rfl) ?_
      refine barN [0, 3, 4, 19] [.slice pa0 (x0.length) pc0, .string (bs v102), .int .i64 v92, .bool (decide (x103 = ([] : List UInt8)))] (ce rfl (ce rfl (ce rfl (ce rfl (rfl))))) ?_
      intro e113
      refine cdO q5 (fun h114 q6 => ?_) (fun h114 q7 => ?_)
      · clear q5
        refine reqO q6 (fun h115 q8 => ?_)
        clear q6
        refine bar ?_
        obtain rfl := Option.some.inj q8
        exact hZ95 _ _ ⟨J98, (hJ88.trans hJ99), ce rfl (ce rfl (ce rfl (rfl))), hs101⟩
      · clear q5
        obtain ⟨x116, h122, q9⟩ := bindO q7
        clear q7
        obtain ⟨ad117, r118, h119, h120, h121, h123, h124, h125⟩ := RdL.getI (RdL.mono ph0 (hJ88.trans hJ99) (fun _ _ _ h => h)) h122
        obtain rfl : r118 = [.string (bs x116)] := h123
        refine idx h119 h120 h121 ?_
        refine ldc1 (h125 _ hs101.im 0 _ rfl) ?_
        refine reqO q9 (fun h126 q10 => ?_)
        clear q9
        refine nrmO [0, 4, 27] [.slice pa0 (x0.length) pc0, .int .i64 v92, .string (bs (v102 ++ x116))] (ce rfl (ce rfl (ce rfl (rfl)))) ?_
        intro e127
        refine bar ?_
        obtain rfl := Option.some.inj q10
        exact hZ95 _ _ ⟨J98, (hJ88.trans hJ99), ce rfl (ce rfl (ce rfl (rfl))), hs101⟩
    · intro Q128 hN129 hX130
      refine sqs ?_
      refine bar ?_
      refine cdO q2 (fun h131 q11 => ?_) (fun h131 q12 => ?_)
      · clear q2
        refine reqO q11 (fun h132 q13 => ?_)
        clear q11
        exact hN129 _ _ ⟨(v91 ++ ([32] : List UInt8)), J87, (Le.refl _), ce rfl (ce rfl (ce rfl (rfl))), hs90, q13⟩
      · clear q2
        exact hN129 _ _ ⟨v91, J87, (Le.refl _), ce rfl (ce rfl (ce rfl (rfl))), hs90, q12⟩
  · clear q1
    obtain ⟨r134, hm135, rfl⟩ := mapO q3
    clear q3
    obtain rfl : r134 = _ := hZ95
    refine bar ?_
    refine sqs ?_
    refine new hs90 ?_
    intro b136 w137 hs138
    have hs138 : St c J87 (.blk b136 (.cells ⟨[.int .u8 ((10 : Int))]⟩ 5) :: L) w137 := hs138
    have h140 : RdC 1 RdU [.int .u8 ((10 : Int))] [(10 : UInt8)] := (RdC.snoc (sz := 1) (R := RdU) (RdC.nil (sz := 1) (R := RdU)) rfl (show RdU [.int .u8 ((10 : Int))] (10 : UInt8) from rfl))
    have hs141 := hs138.toRow 0 (sz := 1) (n := 1) rfl rfl (by decide)
    refine cvsR good 0 hs141 rfl h140 rfl rfl rfl rfl ?_
    refine reqO hm135 (fun h142 q14 => ?_)
    clear hm135
    refine barN [2] [.string (bs (v91 ++ ([(10 : UInt8)] : List UInt8)))] (ce rfl (rfl)) ?_
    intro e143
    obtain rfl := Option.some.inj q14
    exact k J87 w137 hJ88 (hs141.drop 0)
structure S_api_Verdict where
  ID : (List UInt8)
  Redacted : Bool
  Err : Int
def R_api_Verdict (I : Im) (cs : List Value) (x : S_api_Verdict) : Prop := cs = [.string (bs x.ID), .bool x.Redacted, .int .i64 x.Err]
theorem R_api_Verdict.up {I J : Im} (hl : Le I J) {cs : List Value} {x : S_api_Verdict} (h : R_api_Verdict I cs x) : R_api_Verdict J cs x := by
  exact h
theorem R_api_Verdict.len {I : Im} {cs : List Value} {x : S_api_Verdict} (h : R_api_Verdict I cs x) : cs.length = 3 := by
  rw [show cs = _ from h]; rfl
theorem R_api_Verdict_one {I : Im} : ∀ r x, R_api_Verdict I r x → ∀ u ∈ r, u.oneCell' = true := by
  intro cs x h u hu
  obtain rfl := h
  simp at hu
  rcases hu with rfl | rfl | rfl <;> rfl
def p_ref49_Verdict (x0 : S_api_Verdict) : Option ((List UInt8)) :=
  (if x0.Err = (0 : Int) then (if x0.Redacted = true then ((p_ref49_Line [([101, 118, 101, 110, 116] : List UInt8), x0.ID, ([114, 101, 100, 97, 99, 116, 101, 100] : List UInt8)]).bind fun z15 => (some z15)) else ((p_ref49_Line [([101, 118, 101, 110, 116] : List UInt8), x0.ID, ([111, 107] : List UInt8)]).bind fun z30 => (some z30))) else ((p_ref49_show x0.Err).bind fun z73 => ((p_ref49_Line [([101, 118, 101, 110, 116] : List UInt8), x0.ID, ([114, 101, 102, 117, 115, 101, 100] : List UInt8), z73]).bind fun z101 => (some z101))))
set_option maxRecDepth 10000 in
set_option maxHeartbeats 4000000 in
theorem w_ref49_Verdict {c : Cx} {I : Im} {L : List Ent} {w : World} {K : Value → World → Prop} (x0 : S_api_Verdict) (r : (List UInt8)) (hf : p_ref49_Verdict x0 = some r) (hg : Glo I) (hX : ∀ b, ¬ c.X b) (hs : St c I L w) {cs0 : List Value} (ph0 : (R_api_Verdict I) cs0 x0)
    (k : ∀  (J : Im) (w' : World), Le I J → St c J L w' → K (.string (bs r)) w') :
    callW Tryd.prog 32 [.agg ⟨cs0⟩] K w := by
  obtain rfl := ph0
  unfold p_ref49_Verdict at hf
  refine fn_of good Tryd.func32 rfl rfl rfl ?_
  refine sqs ?_
  refine new hs ?_
  intro b1 w2 hs3
  have hs3 : St c I (.blk b1 (.cells ⟨[.string (bs x0.ID), .bool x0.Redacted, .int .i64 x0.Err]⟩ 48) :: L) w2 := hs3
  refine bar ?_
  refine sqs ?_
  refine sqs ?_
  refine ld 0 hs3 rfl rfl rfl ?_
  refine barN [1, 5] [.pointer (some ⟨b1, 0, none⟩), .bool (!decide (x0.Err = (0 : Int)))] (ce rfl (ce rfl (rfl))) ?_
  intro e4
  refine cnO hf (fun h5 q1 => ?_) (fun h5 q2 => ?_)
  · clear hf
    refine bar ?_
    refine sqs ?_
    refine sqs ?_
    refine ld 0 hs3 rfl rfl rfl ?_
    refine bar ?_
    refine csO q1 (fun h6 q3 => ?_) (fun h6 q4 => ?_)
    · clear q1
      refine sqs ?_
      refine ld 0 hs3 rfl rfl rfl ?_
      refine new hs3 ?_
      intro b7 w8 hs9
      have hs9 : St c I (.blk b7 (.cells ⟨[.string (bs ([101, 118, 101, 110, 116] : List UInt8)), .string (bs x0.ID), .string (bs ([114, 101, 100, 97, 99, 116, 101, 100] : List UInt8))]⟩ 9) :: .blk b1 (.cells ⟨[.string (bs x0.ID), .bool x0.Redacted, .int .i64 x0.Err]⟩ 48) :: L) w8 := hs9
      have h14 : RdC 1 RdS [.string (bs ([101, 118, 101, 110, 116] : List UInt8)), .string (bs x0.ID), .string (bs ([114, 101, 100, 97, 99, 116, 101, 100] : List UInt8))] [([101, 118, 101, 110, 116] : List UInt8), x0.ID, ([114, 101, 100, 97, 99, 116, 101, 100] : List UInt8)] := (RdC.snoc (sz := 1) (R := RdS) (RdC.snoc (sz := 1) (R := RdS) (RdC.snoc (sz := 1) (R := RdS) (RdC.nil (sz := 1) (R := RdS)) rfl rfl) rfl rfl) rfl rfl)
      obtain ⟨J10, hJ11, hs12, h13⟩ := hs9.fixBlk (i := 0) rfl hX
      have h14 := RdL.lit h13 h14 3 (Nat.le_refl _)
      obtain ⟨z15, h16, q5⟩ := bindO q3
      clear q3
      refine w_ref49_Line [([101, 118, 101, 110, 116] : List UInt8), x0.ID, ([114, 101, 100, 97, 99, 116, 101, 100] : List UInt8)] z15 h16 (hg.le hJ11) hX hs12 h14 ?_
      intro J17 w19 hJ18 hs20
      refine nrmO [18] [.string (bs z15)] (ce rfl (rfl)) ?_
      intro e21
      refine bar ?_
      obtain rfl := Option.some.inj q5
      exact k J17 w19 (hJ11.trans hJ18) (hs20.drop 0)
    · clear q1
      refine bar ?_
      refine sqs ?_
      refine ld 0 hs3 rfl rfl rfl ?_
      refine new hs3 ?_
      intro b22 w23 hs24
      have hs24 : St c I (.blk b22 (.cells ⟨[.string (bs ([101, 118, 101, 110, 116] : List UInt8)), .string (bs x0.ID), .string (bs ([111, 107] : List UInt8))]⟩ 9) :: .blk b1 (.cells ⟨[.string (bs x0.ID), .bool x0.Redacted, .int .i64 x0.Err]⟩ 48) :: L) w23 := hs24
      have h29 : RdC 1 RdS [.string (bs ([101, 118, 101, 110, 116] : List UInt8)), .string (bs x0.ID), .string (bs ([111, 107] : List UInt8))] [([101, 118, 101, 110, 116] : List UInt8), x0.ID, ([111, 107] : List UInt8)] := (RdC.snoc (sz := 1) (R := RdS) (RdC.snoc (sz := 1) (R := RdS) (RdC.snoc (sz := 1) (R := RdS) (RdC.nil (sz := 1) (R := RdS)) rfl rfl) rfl rfl) rfl rfl)
      obtain ⟨J25, hJ26, hs27, h28⟩ := hs24.fixBlk (i := 0) rfl hX
      have h29 := RdL.lit h28 h29 3 (Nat.le_refl _)
      obtain ⟨z30, h31, q6⟩ := bindO q4
      clear q4
      refine w_ref49_Line [([101, 118, 101, 110, 116] : List UInt8), x0.ID, ([111, 107] : List UInt8)] z30 h31 (hg.le hJ26) hX hs27 h29 ?_
      intro J32 w34 hJ33 hs35
      refine nrmO [22] [.string (bs z30)] (ce rfl (rfl)) ?_
      intro e36
      refine bar ?_
      obtain rfl := Option.some.inj q6
      exact k J32 w34 (hJ26.trans hJ33) (hs35.drop 0)
  · clear hf
    refine sqs ?_
    obtain ⟨z73, h74, q7⟩ := bindO q2
    clear q2
    obtain ⟨z101, h102, q8⟩ := bindO q7
    clear q7
    refine drawS good [0] [[], [0], [], [2], [2, 3], [0, 1, 2, 3, 4], [0, 1, 2, 3, 4, 5], [0, 1, 2, 3, 4, 5, 6]] [pv (fun q37 => .pointer (some ⟨b1, 0, none⟩)), pv (fun q37 => .string (bs x0.ID)), pv (fun q37 => .pointer (some ⟨b1, 2, none⟩)), pv (fun q37 => .int .i64 x0.Err), pv (fun q37 => .string (bs z73)), ⟨fun q37 => .slice (some ⟨((q37 5).n 0), 0, none⟩) 4 4, fun q37 J => True, fun q37 I J hl h => h, [0], [], fun q37 _ => [.blk ((q37 5).n 0) (.cells ⟨[.string (bs ([101, 118, 101, 110, 116] : List UInt8)), .string (bs x0.ID), .string (bs ([114, 101, 102, 117, 115, 101, 100] : List UInt8)), .string (bs z73)]⟩ 9)]⟩, ⟨fun q37 => .string (bs z101), fun q37 J => True, fun q37 I J hl h => h, [0], [], fun q37 _ => []⟩, pv (fun q37 => .string (bs z101))] (sel [] []) (R := .blk b1 (.cells ⟨[.string (bs x0.ID), .bool x0.Redacted, .int .i64 x0.Err]⟩ 48) :: L) hs3 rfl ⟨fun _ _ _ _ _ _ _ h => ⟨Rc0, _, Le.refl _, rfl, trivial, h⟩, ?_, fun _ _ _ _ _ _ _ h => ⟨Rc0, _, Le.refl _, rfl, trivial, h⟩, ?_, ?_, ?_, ?_, fun _ _ _ _ _ _ _ h => ⟨Rc0, _, Le.refl _, rfl, trivial, h⟩, trivial⟩ ?_
    · intro q37 J45 Lo50 e49 w48 hJ46 hF51 hs47
      have hs47 : St c J45 (.blk b1 (.cells ⟨[.string (bs x0.ID), .bool x0.Redacted, .int .i64 x0.Err]⟩ 48) :: (L ++ Lo50)) w48 := hs47
      refine ld 0 hs47 rfl rfl rfl ?_
      exact ⟨Rc0, J45, (Le.refl _), rfl, trivial, hs47⟩
    · intro q37 J59 Lo64 e63 w62 hJ60 hF65 hs61
      have hs61 : St c J59 (.blk b1 (.cells ⟨[.string (bs x0.ID), .bool x0.Redacted, .int .i64 x0.Err]⟩ 48) :: (L ++ Lo64)) w62 := hs61
      refine ld 0 hs61 rfl rfl rfl ?_
      exact ⟨Rc0, J59, (Le.refl _), rfl, trivial, hs61⟩
    · intro q37 J66 Lo71 e70 w69 hJ67 hF72 hs68
      have hs68 : St c J66 (.blk b1 (.cells ⟨[.string (bs x0.ID), .bool x0.Redacted, .int .i64 x0.Err]⟩ 48) :: (L ++ Lo71)) w69 := hs68
      refine w_ref49_show x0.Err z73 h74 (hg.le hJ67) hX hs68 ?_
      intro J75 w77 hJ76 hs78
      exact ⟨Rc0, J75, hJ76, rfl, trivial, hs78⟩
    · intro q37 J79 Lo84 e83 w82 hJ80 hF85 hs81
      have hs81 : St c J79 (.blk b1 (.cells ⟨[.string (bs x0.ID), .bool x0.Redacted, .int .i64 x0.Err]⟩ 48) :: (L ++ Lo84)) w82 := hs81
      refine new hs81 ?_
      intro b86 w87 hs88
      have hs88 : St c J79 (.blk b86 (.cells ⟨[.string (bs ([101, 118, 101, 110, 116] : List UInt8)), .string (bs x0.ID), .string (bs ([114, 101, 102, 117, 115, 101, 100] : List UInt8)), .string (bs z73)]⟩ 9) :: .blk b1 (.cells ⟨[.string (bs x0.ID), .bool x0.Redacted, .int .i64 x0.Err]⟩ 48) :: (L ++ Lo84)) w87 := hs88
      exact ⟨⟨sel [] none, sel [b86] 0, sel [] []⟩, J79, (Le.refl _), rfl, trivial, hs88⟩
    · intro q37 J89 Lo94 e93 w92 hJ90 hF95 hs91
      have hs91 : St c J89 (.blk ((q37 5).n 0) (.cells ⟨[.string (bs ([101, 118, 101, 110, 116] : List UInt8)), .string (bs x0.ID), .string (bs ([114, 101, 102, 117, 115, 101, 100] : List UInt8)), .string (bs z73)]⟩ 9) :: .blk b1 (.cells ⟨[.string (bs x0.ID), .bool x0.Redacted, .int .i64 x0.Err]⟩ 48) :: (L ++ Lo94)) w92 := hs91
      have h100 : RdC 1 RdS [.string (bs ([101, 118, 101, 110, 116] : List UInt8)), .string (bs x0.ID), .string (bs ([114, 101, 102, 117, 115, 101, 100] : List UInt8)), .string (bs z73)] [([101, 118, 101, 110, 116] : List UInt8), x0.ID, ([114, 101, 102, 117, 115, 101, 100] : List UInt8), z73] := (RdC.snoc (sz := 1) (R := RdS) (RdC.snoc (sz := 1) (R := RdS) (RdC.snoc (sz := 1) (R := RdS) (RdC.snoc (sz := 1) (R := RdS) (RdC.nil (sz := 1) (R := RdS)) rfl rfl) rfl rfl) rfl rfl) rfl rfl)
      obtain ⟨J96, hJ97, hs98, h99⟩ := hs91.fixBlk (i := 0) rfl hX
      have h100 := RdL.lit h99 h100 4 (Nat.le_refl _)
      refine w_ref49_Line [([101, 118, 101, 110, 116] : List UInt8), x0.ID, ([114, 101, 102, 117, 115, 101, 100] : List UInt8), z73] z101 h102 (hg.le (hJ90.trans hJ97)) hX hs98 h100 ?_
      intro J103 w105 hJ104 hs106
      exact ⟨Rc0, J103, (hJ97.trans hJ104), rfl, trivial, hs106⟩
    intro q37 J114 e118 w117 hJ115 hF119 hs116
    have hs116 : St c J114 (.blk b1 (.cells ⟨[.string (bs x0.ID), .bool x0.Redacted, .int .i64 x0.Err]⟩ 48) :: L) w117 := hs116
    refine barN [2] [.string (bs z101)] (ce rfl (rfl)) ?_
    intro e120
    obtain rfl := Option.some.inj q8
    exact k J114 w117 hJ115 (hs116.drop 0)
def p_ref49_Lines_b1 (x0 : (List UInt8)) (v65 : (List (List UInt8))) (v70 : Int) (v71 : Int) : Option (((List (List UInt8)) × Int × Int) ⊕ ((List (List UInt8)))) :=
  (if v71 < (x0.length : Int) then (if 0 ≤ v71 ∧ v71 < (x0.length : Int) then (if ((x0.getD v71.toNat 0).toNat : Int) = (10 : Int) then (if 0 ≤ v70 ∧ v70 ≤ v71 ∧ v71 ≤ (x0.length : Int) then (if v65.length + ([(subS x0 v70 v71)] : List (List UInt8)).length ≤ 100000000000 then (some (.inl ((v65 ++ [(subS x0 v70 v71)]), (IntKind.i64.wrap (v71 + (1 : Int))), (IntKind.i64.wrap (v71 + (1 : Int)))))) else none) else none) else (some (.inl (v65, v70, (IntKind.i64.wrap (v71 + (1 : Int))))))) else none) else (Option.map Sum.inr (if v70 < (x0.length : Int) then (if 0 ≤ v70 ∧ v70 ≤ (x0.length : Int) ∧ (x0.length : Int) ≤ (x0.length : Int) then (if v65.length + ([(subS x0 v70 (x0.length : Int))] : List (List UInt8)).length ≤ 100000000000 then (some (v65 ++ [(subS x0 v70 (x0.length : Int))])) else none) else none) else (some v65))))
def p_ref49_Lines (x0 : (List UInt8)) : Option ((List (List UInt8))) :=
  (loopO (fun (s : (List (List UInt8)) × Int × Int) => p_ref49_Lines_b1 x0 s.1 s.2.1 s.2.2) (([] : (List (List UInt8))), (0 : Int), (0 : Int)))
set_option maxRecDepth 10000 in
set_option maxHeartbeats 4000000 in
theorem w_ref49_Lines {c : Cx} {I : Im} {L : List Ent} {w : World} {K : Value → World → Prop} (x0 : (List UInt8)) (r : (List (List UInt8))) (hf : p_ref49_Lines x0 = some r) (hg : Glo I) (hX : ∀ b, ¬ c.X b) (hs : St c I L w)  
    (k : ∀ (ra0 : Option Addr) (rc0 : Nat) (J : Im) (w' : World), Le I J → St c J L w' → RdL J 1 RdS (.slice ra0 r.length rc0) r → K (.slice ra0 r.length rc0) w') :
    callW Tryd.prog 33 [.string (bs x0)] K w := by
  unfold p_ref49_Lines at hf
  refine fn_of good Tryd.func33 rfl rfl rfl ?_
  refine sqs ?_
  refine bar ?_
  refine sqs ?_
  refine bar ?_
  refine sqs ?_
  refine bar ?_
  refine sqs ?_
  refine sqs ?_
  refine barN [0, 3, 4, 5] [.string (bs x0), .slice none (0) 0, .int .i64 ((0 : Int)), .int .i64 ((0 : Int))] (ce rfl (ce rfl (ce rfl (ce rfl (rfl))))) ?_
  intro e1
  refine blk ?_
  have hs60 := hs.nil 9 1
  refine loopP hf [0, 3, 4, 5] (fun (s : (List (List UInt8)) × Int × Int) vs w' => ∃ (J : Im) (a66 : Option Addr) (c67 : Nat) (cs68 : List Value), Le I J ∧ vs = [.string (bs x0), .slice a66 (s.1.length) c67, .int .i64 s.2.1, .int .i64 s.2.2] ∧ St c J (.row (.slice a66 (s.1.length) c67) 9 1 (s.1.length) cs68 :: L) w' ∧ RdC 1 RdS cs68 s.1) ⟨I, none, 0, [], Le.refl _, ce rfl (ce rfl (ce rfl (ce rfl (rfl)))), hs60, RdC.nil⟩ ?_
  clear hf
  rintro Z73 ⟨v65, v70, v71⟩ t72 vs e119 w63 hI q1 hZ74
  try dsimp only at hI
  obtain ⟨J61, a66, c67, cs68, hJ62, rfl, hs64, h69⟩ := hI
  replace q1 : p_ref49_Lines_b1 x0 v65 v70 v71 = some t72 := q1
  unfold p_ref49_Lines_b1 at q1
  refine sqs ?_
  refine sqs ?_
  refine barN [0, 3, 4, 5, 9] [.string (bs x0), .slice a66 (v65.length) c67, .int .i64 v70, .int .i64 v71, .bool (decide (v71 < (x0.length : Int)))] (ce rfl (ce rfl (ce rfl (ce rfl (ce rfl (rfl)))))) ?_
  intro e75
  refine cdO q1 (fun h76 q2 => ?_) (fun h76 q3 => ?_)
  · clear q1
    refine bar ?_
    refine sqs ?_
    refine blk ?_
    refine sqs ?_
    refine reqO q2 (fun h77 q4 => ?_)
    clear q2
    refine barN [0, 3, 4, 5, 15] [.string (bs x0), .slice a66 (v65.length) c67, .int .i64 v70, .int .i64 v71, .bool (decide (((x0.getD v71.toNat 0).toNat : Int) = (10 : Int)))] (ce rfl (ce rfl (ce rfl (ce rfl (ce rfl (rfl)))))) ?_
    intro e78
    refine cdO q4 (fun h79 q5 => ?_) (fun h79 q6 => ?_)
    · clear q4
      refine sqs ?_
      refine reqO q5 (fun h80 q7 => ?_)
      clear q5
      refine new hs64 ?_
      intro b81 w82 hs83
      have hs83 : St c J61 (.blk b81 (.cells ⟨[.string (bs (subS x0 v70 v71))]⟩ 9) :: .row (.slice a66 (v65.length) c67) 9 1 (v65.length) cs68 :: L) w82 := hs83
      refine nrmO [0, 5, 16, 21] [.string (bs x0), .int .i64 v71, .slice a66 (v65.length) c67, .slice (some ⟨b81, 0, none⟩) 1 1] (ce rfl (ce rfl (ce rfl (ce rfl (rfl))))) ?_
      intro e84
      have h85 : RdC 1 RdS [.string (bs (subS x0 v70 v71))] [(subS x0 v70 v71)] := (RdC.snoc (sz := 1) (R := RdS) (RdC.nil (sz := 1) (R := RdS)) rfl rfl)
      obtain ⟨h90, q8⟩ := okO q7
      clear q7
      refine appO good 1 0 hs83 rfl rfl h69 rfl h85 rfl rfl rfl rfl rfl rfl rfl h90 ?_
      intro a86 c87 cs88 w91 hs92 h89
      have hs92 : St c J61 (.row (.slice a86 ((v65 ++ [(subS x0 v70 v71)]).length) c87) 9 1 ((v65 ++ [(subS x0 v70 v71)]).length) cs88 :: L) w91 := hs92.drop 0
      refine bar ?_
      refine barN [0, 3, 4, 5] [.string (bs x0), .slice a86 ((v65 ++ [(subS x0 v70 v71)]).length) c87, .int .i64 ((IntKind.i64.wrap (v71 + (1 : Int)))), .int .i64 v71] (ce rfl (ce rfl (ce rfl (ce rfl (rfl))))) ?_
      intro e93
      obtain rfl := Option.some.inj q8
      exact hZ74 _ _ ⟨J61, a86, c87, cs88, hJ62, ce rfl (ce rfl (ce rfl (ce rfl (rfl)))), hs92, h89⟩
    · clear q4
      refine bar ?_
      obtain rfl := Option.some.inj q6
      exact hZ74 _ _ ⟨J61, a66, c67, cs68, hJ62, ce rfl (ce rfl (ce rfl (ce rfl (rfl)))), hs64, h69⟩
  · clear q1
    obtain ⟨r94, hm95, rfl⟩ := mapO q3
    clear q3
    obtain rfl : r94 = _ := hZ74
    refine bar ?_
    refine sqs ?_
    refine sqs ?_
    refine barN [0, 3, 4, 28] [.string (bs x0), .slice a66 (v65.length) c67, .int .i64 v70, .bool (decide (v70 < (x0.length : Int)))] (ce rfl (ce rfl (ce rfl (ce rfl (rfl))))) ?_
    intro e96
    refine cdO hm95 (fun h97 q9 => ?_) (fun h97 q10 => ?_)
    · clear hm95
      refine reqO q9 (fun h98 q11 => ?_)
      clear q9
      refine new hs64 ?_
      intro b99 w100 hs101
      have hs101 : St c J61 (.blk b99 (.cells ⟨[.string (bs (subS x0 v70 (x0.length : Int)))]⟩ 9) :: .row (.slice a66 (v65.length) c67) 9 1 (v65.length) cs68 :: L) w100 := hs101
      have h102 : RdC 1 RdS [.string (bs (subS x0 v70 (x0.length : Int)))] [(subS x0 v70 (x0.length : Int))] := (RdC.snoc (sz := 1) (R := RdS) (RdC.nil (sz := 1) (R := RdS)) rfl rfl)
      obtain ⟨h107, q12⟩ := okO q11
      clear q11
      refine appO good 1 0 hs101 rfl rfl h69 rfl h102 rfl rfl rfl rfl rfl rfl rfl h107 ?_
      intro a103 c104 cs105 w108 hs109 h106
      have hs109 : St c J61 (.row (.slice a103 ((v65 ++ [(subS x0 v70 (x0.length : Int))]).length) c104) 9 1 ((v65 ++ [(subS x0 v70 (x0.length : Int))]).length) cs105 :: L) w108 := hs109.drop 0
      refine nrmO [34] [.slice a103 ((v65 ++ [(subS x0 v70 (x0.length : Int))]).length) c104] (ce rfl (rfl)) ?_
      intro e110
      refine bar ?_
      refine sqs ?_
      refine bar ?_
      obtain ⟨J111, hJ112, hs113, h114⟩ := hs109.fixRow (i := 0) rfl hX h106 rfl
      obtain rfl := Option.some.inj q12
      exact k _ _ J111 w108 (hJ62.trans hJ112) hs113 h114
    · clear hm95
      refine bar ?_
      refine sqs ?_
      refine bar ?_
      obtain ⟨J115, hJ116, hs117, h118⟩ := hs64.fixRow (i := 0) rfl hX h69 rfl
      obtain rfl := Option.some.inj q10
      exact k _ _ J115 w63 (hJ62.trans hJ116) hs117 h118
theorem w_slices_Clone_string_string {c : Cx} {I : Im} {L : List Ent} {w : World} {K : Value → World → Prop} (x0 : List (List UInt8)) {pa0 : Option Addr} {pn0 pc0 : Nat} (ph0 : RdL I 1 RdS (.slice pa0 pn0 pc0) x0) (hs : St c I L w) (hl : x0.length ≤ 100000000000)
    (k : ∀ (a' : Option Addr) (c' : Nat) (cs' : List Value) w', St c I (.row (.slice a' x0.length c') 9 1 x0.length cs' :: L) w' → RdC 1 RdS cs' x0 → K (.slice a' x0.length c') w') :
    callW Tryd.prog 81 [.slice pa0 pn0 pc0] K w := by
  obtain rfl := ph0.lenEq
  refine fn_of good Tryd.func81 rfl rfl rfl ?_
  refine sqs ?_
  refine bar ?_
  refine sqs ?_
  refine sqs ?_
  cases pa0 with
  | none =>
    obtain rfl := nilC ph0
    refine bar ?_
    refine sqs ?_
    refine bar ?_
    exact k none 0 [] w (hs.nil _ 1) RdC.nil
  | some ad =>
    refine bar ?_
    refine bar ?_
    refine sqs ?_
    refine new hs ?_
    intro b w2 hs2
    have hs3 := St.toRow (sz := 1) (n := 0) hs2 0 rfl rfl (by decide)
    refine appA good 0 hs3 rfl RdC.nil rfl ph0 rfl rfl rfl rfl rfl (by simpa using hl) RdS_one ?_
    intro a c' cs w3 hs4 hC
    refine bar ?_
    exact k a c' cs w3 hs4 hC

def p_report_Line_b1 (x0 : (List (List UInt8))) (v85 : (List (List UInt8))) (v91 : Int) : Option (((List (List UInt8)) × Int) ⊕ ((List UInt8))) :=
  (if v91 < ((x0.length : Nat) : Int) then ((getI v85 v91).bind fun x96 => (if x96 = ([] : List UInt8) then ((getI v85 v91).bind fun x107 => (some (.inl ((v85.set (v91).toNat ([45] : List UInt8)), (IntKind.i64.wrap (v91 + (1 : Int))))))) else (some (.inl (v85, (IntKind.i64.wrap (v91 + (1 : Int)))))))) else (Option.map Sum.inr ((p_strings_Join v85 ([32] : List UInt8)).bind fun z129 => (if z129.length + ([10] : List UInt8).length ≤ 9223372036854775807 then (some (z129 ++ ([10] : List UInt8))) else none))))
def p_report_Line (x0 : (List (List UInt8))) : Option ((List UInt8)) :=
  (if x0.length ≤ 100000000000 then (loopO (fun (s : (List (List UInt8)) × Int) => p_report_Line_b1 x0 s.1 s.2) (x0, (0 : Int))) else none)
set_option maxRecDepth 10000 in
set_option maxHeartbeats 4000000 in
theorem w_report_Line {c : Cx} {I : Im} {L : List Ent} {w : World} {K : Value → World → Prop} (x0 : (List (List UInt8))) (r : (List UInt8)) (hf : p_report_Line x0 = some r) (hg : Glo I) (hX : ∀ b, ¬ c.X b) (hs : St c I L w) {pa0 : Option Addr} {pn0 pc0 : Nat} (ph0 : RdL I 1 RdS (.slice pa0 pn0 pc0) x0)
    (k : ∀  (J : Im) (w' : World), Le I J → St c J L w' → K (.string (bs r)) w') :
    callW Tryd.prog 29 [.slice pa0 pn0 pc0] K w := by
  obtain rfl : pn0 = x0.length := ph0.lenEq
  unfold p_report_Line at hf
  refine fn_of good Tryd.func29 rfl rfl rfl ?_
  refine sqs ?_
  refine bar ?_
  refine sqs ?_
  obtain ⟨h1, q1⟩ := okO hf
  clear hf
  refine w_slices_Clone_string_string x0 ph0 hs h1 ?_
  intro a5 c6 cs7 w2 hs3 h8
  have hs3 : St c I (.row (.slice a5 (x0.length) c6) 9 1 (x0.length) cs7 :: L) w2 := hs3
  refine barN [3] [.slice a5 (x0.length) c6] (ce rfl (rfl)) ?_
  intro e9
  refine sqs ?_
  refine sqs ?_
  refine bar ?_
  refine blk ?_
  refine loopP q1 [3, 8, 9, 10] (fun (s : (List (List UInt8)) × Int) vs w' => ∃ (J : Im) (a86 : Option Addr) (c87 : Nat) (cs88 : List Value), Le I J ∧ vs = [.slice a86 (s.1.length) c87, .slice a86 (s.1.length) c87, .int .i64 (((x0.length : Nat) : Int)), .int .i64 s.2] ∧ St c J (.row (.slice a86 (s.1.length) c87) 9 1 (s.1.length) cs88 :: L) w' ∧ RdC 1 RdS cs88 s.1) ⟨I, a5, c6, cs7, Le.refl _, ce rfl (ce rfl (ce rfl (ce rfl (rfl)))), hs3, h8⟩ ?_
  clear q1
  rintro Z93 ⟨v85, v91⟩ t92 vs e137 w83 hI q2 hZ94
  try dsimp only at hI
  obtain ⟨J81, a86, c87, cs88, hJ82, rfl, hs84, h89⟩ := hI
  replace q2 : p_report_Line_b1 x0 v85 v91 = some t92 := q2
  unfold p_report_Line_b1 at q2
  refine sqs ?_
  refine bar ?_
  refine sqs ?_
  refine cdO q2 (fun h95 q3 => ?_) (fun h95 q4 => ?_)
  · clear q2
    refine bar ?_
    refine sqs ?_
    refine blk ?_
    refine sqs ?_
    obtain ⟨x96, h104, q5⟩ := bindO q3
    clear q3
    refine idxRow 0 hs84 rfl h89 rfl h104 ?_
    intro b97 r98 h99 h100 h101 h102 h103
    obtain rfl : r98 = [.string (bs x96)] := h100
    refine ldRowE 0 hs84 rfl h99 h102 rfl ?_
    refine barN [3, 4, 5, 8, 9, 10] [.slice a86 (v85.length) c87, .int .i64 v91, .string (bs x96), .slice a86 (v85.length) c87, .int .i64 (((x0.length : Nat) : Int)), .int .i64 v91] (ce rfl (ce rfl (ce rfl (ce rfl (ce rfl (ce rfl (rfl))))))) ?_
    intro e105
    refine sqs ?_
    refine bar ?_
    refine cdO q5 (fun h106 q6 => ?_) (fun h106 q7 => ?_)
    · clear q5
      obtain ⟨x107, h115, q8⟩ := bindO q6
      clear q6
      refine idxRow 0 hs84 rfl h89 rfl h115 ?_
      intro b108 r109 h110 h111 h112 h113 h114
      obtain rfl : r109 = [.string (bs x107)] := h111
      refine stoRowE 0 hs84 rfl h110 (mul_lt_of h114 (Nat.le_refl _)) rfl ?_
      intro w116 hs117
      obtain ⟨cs119, h120⟩ : ∃ q, q = (setR cs88 ((v91).toNat * 1) [.string (bs ([45] : List UInt8))]) := ⟨_, rfl⟩
      have h118 : RdC 1 RdS cs119 (v85.set (v91).toNat ([45] : List UInt8)) := by rw [h120]; exact RdC.putAll h89 h114 rfl (show RdS [.string (bs ([45] : List UInt8))] ([45] : List UInt8) from rfl)
      have hs117 : St c J81 (.row (.slice a86 (v85.length) c87) 9 1 (v85.length) (setR cs88 ((v91).toNat * 1) [.string (bs ([45] : List UInt8))]) :: L) w116 := hs117
      rw [← h120] at hs117
      have h121 : v85.length = (v85.set (v91).toNat ([45] : List UInt8)).length := by simp
      rw [h121] at hs117
      clear h121
      have hs117 : St c J81 (.row (.slice a86 ((v85.set (v91).toNat ([45] : List UInt8)).length) c87) 9 1 ((v85.set (v91).toNat ([45] : List UInt8)).length) cs119 :: L) w116 := hs117
      clear h120
      refine nrmO [3, 8, 9, 10] [.slice a86 ((v85.set (v91).toNat ([45] : List UInt8)).length) c87, .slice a86 ((v85.set (v91).toNat ([45] : List UInt8)).length) c87, .int .i64 (((x0.length : Nat) : Int)), .int .i64 v91] (ce (vN (by simp)) (ce (vN (by simp)) (ce rfl (ce rfl (rfl))))) ?_
      intro e122
      refine bar ?_
      obtain rfl := Option.some.inj q8
      exact hZ94 _ _ ⟨J81, a86, c87, cs119, hJ82, ce rfl (ce rfl (ce rfl (ce rfl (rfl)))), hs117, h118⟩
    · clear q5
      refine bar ?_
      obtain rfl := Option.some.inj q7
      exact hZ94 _ _ ⟨J81, a86, c87, cs88, hJ82, ce rfl (ce rfl (ce rfl (ce rfl (rfl)))), hs84, h89⟩
  · clear q2
    obtain ⟨r123, hm124, rfl⟩ := mapO q4
    clear q4
    obtain rfl : r123 = _ := hZ94
    refine bar ?_
    refine sqs ?_
    obtain ⟨J125, hJ126, hs127, h128⟩ := hs84.fixRow (i := 0) rfl hX h89 rfl
    obtain ⟨z129, h130, q9⟩ := bindO hm124
    clear hm124
    refine w_strings_Join v85 ([32] : List UInt8) z129 h130 (hg.le (hJ82.trans hJ126)) hX hs127 h128 ?_
    intro J131 w133 hJ132 hs134
    refine reqO q9 (fun h135 q10 => ?_)
    clear q9
    refine barN [2] [.string (bs (z129 ++ ([10] : List UInt8)))] (ce rfl (rfl)) ?_
    intro e136
    obtain rfl := Option.some.inj q10
    exact k J131 w133 (hJ82.trans (hJ126.trans hJ132)) hs134
def p_strconv_FormatInt (x0 : Int) (x1 : Int) : Option ((List UInt8)) :=
  ((p_internal_strconv_FormatInt x0 x1).bind fun z1 => (some z1))
set_option maxRecDepth 10000 in
set_option maxHeartbeats 4000000 in
theorem w_strconv_FormatInt {c : Cx} {I : Im} {L : List Ent} {w : World} {K : Value → World → Prop} (x0 : Int) (x1 : Int) (r : (List UInt8)) (hf : p_strconv_FormatInt x0 x1 = some r) (hg : Glo I) (hX : ∀ b, ¬ c.X b) (hn_Tab10 : Tab10 I) (hs : St c I L w)  
    (k : ∀  (J : Im) (w' : World), Le I J → St c J L w' → K (.string (bs r)) w') :
    callW Tryd.prog 102 [.int .i64 x0, .int .i64 x1] K w := by
  unfold p_strconv_FormatInt at hf
  refine fn_of good Tryd.func102 rfl rfl rfl ?_
  refine sqs ?_
  refine bar ?_
  refine sqs ?_
  obtain ⟨z1, h2, q1⟩ := bindO hf
  clear hf
  refine w_internal_strconv_FormatInt x0 x1 z1 h2 hg hX hn_Tab10 hs ?_
  intro J3 w5 hJ4 hs6
  refine barN [4] [.string (bs z1)] (ce rfl (rfl)) ?_
  intro e7
  obtain rfl := Option.some.inj q1
  exact k J3 w5 hJ4 hs6
def p_num_Show (x0 : Int) : Option ((List UInt8)) :=
  ((p_strconv_FormatInt x0 (10 : Int)).bind fun z1 => (some z1))
set_option maxRecDepth 10000 in
set_option maxHeartbeats 4000000 in
theorem w_num_Show {c : Cx} {I : Im} {L : List Ent} {w : World} {K : Value → World → Prop} (x0 : Int) (r : (List UInt8)) (hf : p_num_Show x0 = some r) (hg : Glo I) (hX : ∀ b, ¬ c.X b) (hn_Tab10 : Tab10 I) (hs : St c I L w)  
    (k : ∀  (J : Im) (w' : World), Le I J → St c J L w' → K (.string (bs r)) w') :
    callW Tryd.prog 50 [.int .i64 x0] K w := by
  unfold p_num_Show at hf
  refine fn_of good Tryd.func50 rfl rfl rfl ?_
  refine sqs ?_
  refine bar ?_
  refine sqs ?_
  obtain ⟨z1, h2, q1⟩ := bindO hf
  clear hf
  refine w_strconv_FormatInt x0 (10 : Int) z1 h2 hg hX hn_Tab10 hs ?_
  intro J3 w5 hJ4 hs6
  refine barN [2] [.string (bs z1)] (ce rfl (rfl)) ?_
  intro e7
  obtain rfl := Option.some.inj q1
  exact k J3 w5 hJ4 hs6
def p_report_number_api_Errno (x0 : Int) : Option ((List UInt8)) :=
  ((p_num_Show x0).bind fun z1 => (some z1))
set_option maxRecDepth 10000 in
set_option maxHeartbeats 4000000 in
theorem w_report_number_api_Errno {c : Cx} {I : Im} {L : List Ent} {w : World} {K : Value → World → Prop} (x0 : Int) (r : (List UInt8)) (hf : p_report_number_api_Errno x0 = some r) (hg : Glo I) (hX : ∀ b, ¬ c.X b) (hn_Tab10 : Tab10 I) (hs : St c I L w)  
    (k : ∀  (J : Im) (w' : World), Le I J → St c J L w' → K (.string (bs r)) w') :
    callW Tryd.prog 83 [.int .i64 x0] K w := by
  unfold p_report_number_api_Errno at hf
  refine fn_of good Tryd.func83 rfl rfl rfl ?_
  refine sqs ?_
  refine bar ?_
  refine sqs ?_
  obtain ⟨z1, h2, q1⟩ := bindO hf
  clear hf
  refine w_num_Show x0 z1 h2 hg hX hn_Tab10 hs ?_
  intro J3 w5 hJ4 hs6
  refine barN [2] [.string (bs z1)] (ce rfl (rfl)) ?_
  intro e7
  obtain rfl := Option.some.inj q1
  exact k J3 w5 hJ4 hs6
def p_report_Verdict (x0 : S_api_Verdict) : Option ((List UInt8)) :=
  (if x0.Err = (0 : Int) then (if x0.Redacted = true then ((p_report_Line [([101, 118, 101, 110, 116] : List UInt8), x0.ID, ([114, 101, 100, 97, 99, 116, 101, 100] : List UInt8)]).bind fun z16 => (some z16)) else ((p_report_Line [([101, 118, 101, 110, 116] : List UInt8), x0.ID, ([111, 107] : List UInt8)]).bind fun z31 => (some z31))) else ((p_report_number_api_Errno x0.Err).bind fun z73 => ((p_report_Line [([101, 118, 101, 110, 116] : List UInt8), x0.ID, ([114, 101, 102, 117, 115, 101, 100] : List UInt8), z73]).bind fun z101 => (some z101))))
set_option maxRecDepth 10000 in
set_option maxHeartbeats 4000000 in
theorem w_report_Verdict {c : Cx} {I : Im} {L : List Ent} {w : World} {K : Value → World → Prop} (x0 : S_api_Verdict) (r : (List UInt8)) (hf : p_report_Verdict x0 = some r) (hg : Glo I) (hX : ∀ b, ¬ c.X b) (hn_Tab10 : Tab10 I) (hs : St c I L w) {cs0 : List Value} (ph0 : (R_api_Verdict I) cs0 x0)
    (k : ∀  (J : Im) (w' : World), Le I J → St c J L w' → K (.string (bs r)) w') :
    callW Tryd.prog 31 [.agg ⟨cs0⟩] K w := by
  obtain rfl := ph0
  unfold p_report_Verdict at hf
  refine fn_of good Tryd.func31 rfl rfl rfl ?_
  refine sqs ?_
  refine new hs ?_
  intro b1 w2 hs3
  have hs3 : St c I (.blk b1 (.cells ⟨[.string (bs x0.ID), .bool x0.Redacted, .int .i64 x0.Err]⟩ 48) :: L) w2 := hs3
  refine bar ?_
  refine sqs ?_
  refine blk ?_
  refine sqs ?_
  refine ld 0 hs3 rfl rfl rfl ?_
  refine barN [1, 3] [.pointer (some ⟨b1, 0, none⟩), .bool (!decide (x0.Err = (0 : Int)))] (ce rfl (ce rfl (rfl))) ?_
  intro e4
  refine cnO hf (fun h5 q1 => ?_) (fun h5 q2 => ?_)
  · clear hf
    refine sqs ?_
    refine ld 0 hs3 rfl rfl rfl ?_
    refine bar ?_
    refine csO q1 (fun h6 q3 => ?_) (fun h6 q4 => ?_)
    · clear q1
      refine sqs ?_
      refine ld 0 hs3 rfl rfl rfl ?_
      refine new hs3 ?_
      intro b7 w8 hs9
      have hs9 : St c I (.blk b7 (.cells ⟨[.string (bs ([101, 118, 101, 110, 116] : List UInt8)), .string (bs x0.ID), .string (bs ([114, 101, 100, 97, 99, 116, 101, 100] : List UInt8))]⟩ 9) :: .blk b1 (.cells ⟨[.string (bs x0.ID), .bool x0.Redacted, .int .i64 x0.Err]⟩ 48) :: L) w8 := hs9
      refine nrmO [19] [.slice (some ⟨b7, 0, none⟩) 3 3] (ce rfl (rfl)) ?_
      intro e10
      have h15 : RdC 1 RdS [.string (bs ([101, 118, 101, 110, 116] : List UInt8)), .string (bs x0.ID), .string (bs ([114, 101, 100, 97, 99, 116, 101, 100] : List UInt8))] [([101, 118, 101, 110, 116] : List UInt8), x0.ID, ([114, 101, 100, 97, 99, 116, 101, 100] : List UInt8)] := (RdC.snoc (sz := 1) (R := RdS) (RdC.snoc (sz := 1) (R := RdS) (RdC.snoc (sz := 1) (R := RdS) (RdC.nil (sz := 1) (R := RdS)) rfl rfl) rfl rfl) rfl rfl)
      obtain ⟨J11, hJ12, hs13, h14⟩ := hs9.fixBlk (i := 0) rfl hX
      have h15 := RdL.lit h14 h15 3 (Nat.le_refl _)
      obtain ⟨z16, h17, q5⟩ := bindO q3
      clear q3
      refine w_report_Line [([101, 118, 101, 110, 116] : List UInt8), x0.ID, ([114, 101, 100, 97, 99, 116, 101, 100] : List UInt8)] z16 h17 (hg.le hJ12) hX hs13 h15 ?_
      intro J18 w20 hJ19 hs21
      refine bar ?_
      obtain rfl := Option.some.inj q5
      exact k J18 w20 (hJ12.trans hJ19) (hs21.drop 0)
    · clear q1
      refine bar ?_
      refine sqs ?_
      refine ld 0 hs3 rfl rfl rfl ?_
      refine new hs3 ?_
      intro b22 w23 hs24
      have hs24 : St c I (.blk b22 (.cells ⟨[.string (bs ([101, 118, 101, 110, 116] : List UInt8)), .string (bs x0.ID), .string (bs ([111, 107] : List UInt8))]⟩ 9) :: .blk b1 (.cells ⟨[.string (bs x0.ID), .bool x0.Redacted, .int .i64 x0.Err]⟩ 48) :: L) w23 := hs24
      refine nrmO [23] [.slice (some ⟨b22, 0, none⟩) 3 3] (ce rfl (rfl)) ?_
      intro e25
      have h30 : RdC 1 RdS [.string (bs ([101, 118, 101, 110, 116] : List UInt8)), .string (bs x0.ID), .string (bs ([111, 107] : List UInt8))] [([101, 118, 101, 110, 116] : List UInt8), x0.ID, ([111, 107] : List UInt8)] := (RdC.snoc (sz := 1) (R := RdS) (RdC.snoc (sz := 1) (R := RdS) (RdC.snoc (sz := 1) (R := RdS) (RdC.nil (sz := 1) (R := RdS)) rfl rfl) rfl rfl) rfl rfl)
      obtain ⟨J26, hJ27, hs28, h29⟩ := hs24.fixBlk (i := 0) rfl hX
      have h30 := RdL.lit h29 h30 3 (Nat.le_refl _)
      obtain ⟨z31, h32, q6⟩ := bindO q4
      clear q4
      refine w_report_Line [([101, 118, 101, 110, 116] : List UInt8), x0.ID, ([111, 107] : List UInt8)] z31 h32 (hg.le hJ27) hX hs28 h30 ?_
      intro J33 w35 hJ34 hs36
      refine bar ?_
      obtain rfl := Option.some.inj q6
      exact k J33 w35 (hJ27.trans hJ34) (hs36.drop 0)
  · clear hf
    refine sqs ?_
    obtain ⟨z73, h74, q7⟩ := bindO q2
    clear q2
    obtain ⟨z101, h102, q8⟩ := bindO q7
    clear q7
    refine drawS good [0] [[], [0], [], [2], [2, 3], [0, 1, 2, 3, 4], [0, 1, 2, 3, 4, 5], [0, 1, 2, 3, 4, 5, 6]] [pv (fun q37 => .pointer (some ⟨b1, 0, none⟩)), pv (fun q37 => .string (bs x0.ID)), pv (fun q37 => .pointer (some ⟨b1, 2, none⟩)), pv (fun q37 => .int .i64 x0.Err), pv (fun q37 => .string (bs z73)), ⟨fun q37 => .slice (some ⟨((q37 5).n 0), 0, none⟩) 4 4, fun q37 J => True, fun q37 I J hl h => h, [0], [], fun q37 _ => [.blk ((q37 5).n 0) (.cells ⟨[.string (bs ([101, 118, 101, 110, 116] : List UInt8)), .string (bs x0.ID), .string (bs ([114, 101, 102, 117, 115, 101, 100] : List UInt8)), .string (bs z73)]⟩ 9)]⟩, ⟨fun q37 => .string (bs z101), fun q37 J => True, fun q37 I J hl h => h, [0], [], fun q37 _ => []⟩, pv (fun q37 => .string (bs z101))] (sel [] []) (R := .blk b1 (.cells ⟨[.string (bs x0.ID), .bool x0.Redacted, .int .i64 x0.Err]⟩ 48) :: L) hs3 rfl ⟨fun _ _ _ _ _ _ _ h => ⟨Rc0, _, Le.refl _, rfl, trivial, h⟩, ?_, fun _ _ _ _ _ _ _ h => ⟨Rc0, _, Le.refl _, rfl, trivial, h⟩, ?_, ?_, ?_, ?_, fun _ _ _ _ _ _ _ h => ⟨Rc0, _, Le.refl _, rfl, trivial, h⟩, trivial⟩ ?_
    · intro q37 J45 Lo50 e49 w48 hJ46 hF51 hs47
      have hs47 : St c J45 (.blk b1 (.cells ⟨[.string (bs x0.ID), .bool x0.Redacted, .int .i64 x0.Err]⟩ 48) :: (L ++ Lo50)) w48 := hs47
      refine ld 0 hs47 rfl rfl rfl ?_
      exact ⟨Rc0, J45, (Le.refl _), rfl, trivial, hs47⟩
    · intro q37 J59 Lo64 e63 w62 hJ60 hF65 hs61
      have hs61 : St c J59 (.blk b1 (.cells ⟨[.string (bs x0.ID), .bool x0.Redacted, .int .i64 x0.Err]⟩ 48) :: (L ++ Lo64)) w62 := hs61
      refine ld 0 hs61 rfl rfl rfl ?_
      exact ⟨Rc0, J59, (Le.refl _), rfl, trivial, hs61⟩
    · intro q37 J66 Lo71 e70 w69 hJ67 hF72 hs68
      have hs68 : St c J66 (.blk b1 (.cells ⟨[.string (bs x0.ID), .bool x0.Redacted, .int .i64 x0.Err]⟩ 48) :: (L ++ Lo71)) w69 := hs68
      refine w_report_number_api_Errno x0.Err z73 h74 (hg.le hJ67) hX (hn_Tab10.le hJ67) hs68 ?_
      intro J75 w77 hJ76 hs78
      exact ⟨Rc0, J75, hJ76, rfl, trivial, hs78⟩
    · intro q37 J79 Lo84 e83 w82 hJ80 hF85 hs81
      have hs81 : St c J79 (.blk b1 (.cells ⟨[.string (bs x0.ID), .bool x0.Redacted, .int .i64 x0.Err]⟩ 48) :: (L ++ Lo84)) w82 := hs81
      refine new hs81 ?_
      intro b86 w87 hs88
      have hs88 : St c J79 (.blk b86 (.cells ⟨[.string (bs ([101, 118, 101, 110, 116] : List UInt8)), .string (bs x0.ID), .string (bs ([114, 101, 102, 117, 115, 101, 100] : List UInt8)), .string (bs z73)]⟩ 9) :: .blk b1 (.cells ⟨[.string (bs x0.ID), .bool x0.Redacted, .int .i64 x0.Err]⟩ 48) :: (L ++ Lo84)) w87 := hs88
      exact ⟨⟨sel [] none, sel [b86] 0, sel [] []⟩, J79, (Le.refl _), rfl, trivial, hs88⟩
    · intro q37 J89 Lo94 e93 w92 hJ90 hF95 hs91
      have hs91 : St c J89 (.blk ((q37 5).n 0) (.cells ⟨[.string (bs ([101, 118, 101, 110, 116] : List UInt8)), .string (bs x0.ID), .string (bs ([114, 101, 102, 117, 115, 101, 100] : List UInt8)), .string (bs z73)]⟩ 9) :: .blk b1 (.cells ⟨[.string (bs x0.ID), .bool x0.Redacted, .int .i64 x0.Err]⟩ 48) :: (L ++ Lo94)) w92 := hs91
      have h100 : RdC 1 RdS [.string (bs ([101, 118, 101, 110, 116] : List UInt8)), .string (bs x0.ID), .string (bs ([114, 101, 102, 117, 115, 101, 100] : List UInt8)), .string (bs z73)] [([101, 118, 101, 110, 116] : List UInt8), x0.ID, ([114, 101, 102, 117, 115, 101, 100] : List UInt8), z73] := (RdC.snoc (sz := 1) (R := RdS) (RdC.snoc (sz := 1) (R := RdS) (RdC.snoc (sz := 1) (R := RdS) (RdC.snoc (sz := 1) (R := RdS) (RdC.nil (sz := 1) (R := RdS)) rfl rfl) rfl rfl) rfl rfl) rfl rfl)
      obtain ⟨J96, hJ97, hs98, h99⟩ := hs91.fixBlk (i := 0) rfl hX
      have h100 := RdL.lit h99 h100 4 (Nat.le_refl _)
      refine w_report_Line [([101, 118, 101, 110, 116] : List UInt8), x0.ID, ([114, 101, 102, 117, 115, 101, 100] : List UInt8), z73] z101 h102 (hg.le (hJ90.trans hJ97)) hX hs98 h100 ?_
      intro J103 w105 hJ104 hs106
      exact ⟨Rc0, J103, (hJ97.trans hJ104), rfl, trivial, hs106⟩
    intro q37 J114 e118 w117 hJ115 hF119 hs116
    have hs116 : St c J114 (.blk b1 (.cells ⟨[.string (bs x0.ID), .bool x0.Redacted, .int .i64 x0.Err]⟩ 48) :: L) w117 := hs116
    refine barN [2] [.string (bs z101)] (ce rfl (rfl)) ?_
    intro e120
    obtain rfl := Option.some.inj q8
    exact k J114 w117 hJ115 (hs116.drop 0)
def p_law49_lives  : Option (Bool) :=
  ((p_report_Verdict (S_api_Verdict.mk ([] : List UInt8) false (0 : Int))).bind fun z1 => (if z1 = ([101, 118, 101, 110, 116, 32, 45, 32, 111, 107, 10] : List UInt8) then ((p_report_Line [([97] : List UInt8), ([] : List UInt8), ([98] : List UInt8)]).bind fun z17 => (some (decide (z17 = ([97, 32, 45, 32, 98, 10] : List UInt8))))) else (some false)))
set_option maxRecDepth 10000 in
set_option maxHeartbeats 4000000 in
theorem w_law49_lives {c : Cx} {I : Im} {L : List Ent} {w : World} {K : Value → World → Prop}  (r : Bool) (hf : p_law49_lives  = some r) (hg : Glo I) (hX : ∀ b, ¬ c.X b) (hn_Tab10 : Tab10 I) (hs : St c I L w)  
    (k : ∀  (J : Im) (w' : World), Le I J → St c J L w' → K (.bool r) w') :
    callW Tryd.prog 28 [] K w := by
  unfold p_law49_lives at hf
  refine fn_of good Tryd.func28 rfl rfl rfl ?_
  refine sqs ?_
  refine bar ?_
  refine sqs ?_
  obtain ⟨z1, h2, q1⟩ := bindO hf
  clear hf
  refine w_report_Verdict (S_api_Verdict.mk ([] : List UInt8) false (0 : Int)) z1 h2 hg hX hn_Tab10 hs rfl ?_
  intro J3 w5 hJ4 hs6
  refine cdO q1 (fun h7 q2 => ?_) (fun h7 q3 => ?_)
  · clear q1
    refine nrmP [4] [.bool true] (ce rfl (rfl)) ?_
    intro e8
    refine new hs6 ?_
    intro b9 w10 hs11
    have hs11 : St c J3 (.blk b9 (.cells ⟨[.string (bs ([97] : List UInt8)), .string (bs ([] : List UInt8)), .string (bs ([98] : List UInt8))]⟩ 9) :: L) w10 := hs11
    have h16 : RdC 1 RdS [.string (bs ([97] : List UInt8)), .string (bs ([] : List UInt8)), .string (bs ([98] : List UInt8))] [([97] : List UInt8), ([] : List UInt8), ([98] : List UInt8)] := (RdC.snoc (sz := 1) (R := RdS) (RdC.snoc (sz := 1) (R := RdS) (RdC.snoc (sz := 1) (R := RdS) (RdC.nil (sz := 1) (R := RdS)) rfl rfl) rfl rfl) rfl rfl)
    obtain ⟨J12, hJ13, hs14, h15⟩ := hs11.fixBlk (i := 0) rfl hX
    have h16 := RdL.lit h15 h16 3 (Nat.le_refl _)
    obtain ⟨z17, h18, q4⟩ := bindO q2
    clear q2
    refine w_report_Line [([97] : List UInt8), ([] : List UInt8), ([98] : List UInt8)] z17 h18 (hg.le (hJ4.trans hJ13)) hX hs14 h16 ?_
    intro J19 w21 hJ20 hs22
    refine barN [0] [.bool (decide (z17 = ([97, 32, 45, 32, 98, 10] : List UInt8)))] (ce rfl (rfl)) ?_
    intro e23
    obtain rfl := Option.some.inj q4
    exact k J19 w21 (hJ4.trans (hJ13.trans hJ20)) hs22
  · clear q1
    refine nrmO [4, 5] [.bool false, undef] (ce rfl (ce rfl (rfl))) ?_
    intro e24
    refine barN [0] [.bool false] (ce rfl (rfl)) ?_
    intro e25
    obtain rfl := Option.some.inj q3
    exact k J3 w5 hJ4 hs6
def p_law49_ReportLines_b2 (x2 : Int) (z203 : (List (List UInt8))) (v366 : Int) (v367 : (List UInt8)) : Option ((Int × (List UInt8)) ⊕ (Bool)) :=
  (if v367 = ([] : List UInt8) then (Option.map Sum.inr (if v366 = ((z203.length : Nat) : Int) then ((p_law49_lives).bind fun z379 => (some z379)) else (some false))) else ((p_strings_Cut v367 ([10] : List UInt8)).bind fun z394 => (if ((z203.length : Nat) : Int) ≤ v366 then (Option.map Sum.inr (some false)) else ((getI z203 v366).bind fun x421 => (if z394.1 = x421 then (if (IntKind.i64.wrap (v366 + (1 : Int))) = x2 then ((p_law49_lives).bind fun z437 => (Option.map Sum.inr (some z437))) else (some (.inl ((IntKind.i64.wrap (v366 + (1 : Int))), z394.2.1)))) else (Option.map Sum.inr (some false)))))))
def p_law49_ReportLines_b1 (x0 : (List (List UInt8))) (x2 : Int) (v172 : (List UInt8)) (v173 : Int) : Option (((List UInt8) × Int) ⊕ (Bool)) :=
  (if v173 < ((x0.length : Nat) : Int) then ((getI x0 v173).bind fun x178 => (if v172.length + x178.length ≤ 9223372036854775807 then (some (.inl ((v172 ++ x178), (IntKind.i64.wrap (v173 + (1 : Int)))))) else none)) else (Option.map Sum.inr (if (600 : Int) < (v172.length : Int) then ((p_law49_lives).bind fun z195 => (some z195)) else ((p_ref49_Lines v172).bind fun z203 => (loopO (fun (s : Int × (List UInt8)) => p_law49_ReportLines_b2 x2 z203 s.1 s.2) ((0 : Int), v172))))))
def p_law49_ReportLines (x0 : (List (List UInt8))) (x1 : S_api_Verdict) (x2 : Int) : Option (Bool) :=
  (if (50 : Int) < ((x0.length : Nat) : Int) then ((p_law49_lives).bind fun z12 => (some z12)) else ((p_report_Line x0).bind fun z20 => ((p_ref49_Line x0).bind fun z48 => (if z20 = z48 then ((p_report_Verdict x1).bind fun z82 => ((p_ref49_Verdict x1).bind fun z102 => (if z82 = z102 then (loopO (fun (s : (List UInt8) × Int) => p_law49_ReportLines_b1 x0 x2 s.1 s.2) (z20, (0 : Int))) else (some false)))) else (some false)))))
set_option maxRecDepth 10000 in
set_option maxHeartbeats 4000000 in
theorem w_law49_ReportLines {c : Cx} {I : Im} {L : List Ent} {w : World} {K : Value → World → Prop} (x0 : (List (List UInt8))) (x1 : S_api_Verdict) (x2 : Int) (r : Bool) (hf : p_law49_ReportLines x0 x1 x2 = some r) (hg : Glo I) (hX : ∀ b, ¬ c.X b) (hn_Tab10 : Tab10 I) (hs : St c I L w) {pa0 : Option Addr} {pn0 pc0 : Nat} {cs1 : List Value} (ph0 : RdL I 1 RdS (.slice pa0 pn0 pc0) x0) (ph1 : (R_api_Verdict I) cs1 x1)
    (k : ∀  (J : Im) (w' : World), Le I J → St c J L w' → K (.bool r) w') :
    callW Tryd.prog 6 [.slice pa0 pn0 pc0, .agg ⟨cs1⟩, .int .i64 x2] K w := by
  obtain rfl : pn0 = x0.length := ph0.lenEq
  obtain rfl := ph1
  unfold p_law49_ReportLines at hf
  refine fn_ofM good Tryd.func6 rfl rfl rfl rfl rfl ?_
  refine sqs ?_
  refine new hs ?_
  intro b1 w2 hs3
  have hs3 : St c I (.blk b1 (.cells ⟨[.string (bs x1.ID), .bool x1.Redacted, .int .i64 x1.Err]⟩ 48) :: L) w2 := hs3
  refine new hs3 ?_
  intro b4 w5 hs6
  have hs6 : St c I (.blk b4 (.cells ⟨[.int .i64 x2]⟩ 3) :: .blk b1 (.cells ⟨[.string (bs x1.ID), .bool x1.Redacted, .int .i64 x1.Err]⟩ 48) :: L) w5 := hs6
  refine new hs6 ?_
  intro b7 w8 hs9
  have hs9 : St c I (.blk b7 (.cells ⟨[.bool false]⟩ 4) :: .blk b4 (.cells ⟨[.int .i64 x2]⟩ 3) :: .blk b1 (.cells ⟨[.string (bs x1.ID), .bool x1.Redacted, .int .i64 x1.Err]⟩ 48) :: L) w8 := hs9
  refine bar ?_
  refine sqs ?_
  refine sqs ?_
  refine barN [0, 4, 5, 6, 16, 1000000] [.slice pa0 (x0.length) pc0, .pointer (some ⟨b1, 0, none⟩), .pointer (some ⟨b4, 0, none⟩), .pointer (some ⟨b7, 0, none⟩), .bool (decide ((50 : Int) < ((x0.length : Nat) : Int))), .tuple ⟨[]⟩] (ce rfl (ce rfl (ce rfl (ce rfl (ce rfl (ce rfl (rfl))))))) ?_
  intro e10
  refine cdO hf (fun h11 q1 => ?_) (fun h11 q2 => ?_)
  · clear hf
    refine sqs ?_
    obtain ⟨z12, h13, q3⟩ := bindO q1
    clear q1
    refine w_law49_lives  z12 h13 hg hX hn_Tab10 hs9 ?_
    intro J14 w16 hJ15 hs17
    refine sto 0 hs17 rfl rfl rfl ?_
    intro w18 hs19
    have hs19 : St c J14 (.blk b7 (.cells ⟨[.bool z12]⟩ 4) :: .blk b4 (.cells ⟨[.int .i64 x2]⟩ 3) :: .blk b1 (.cells ⟨[.string (bs x1.ID), .bool x1.Redacted, .int .i64 x1.Err]⟩ 48) :: L) w18 := hs19
    refine bar ?_
    refine ld 0 hs19 rfl rfl rfl ?_
    obtain rfl := Option.some.inj q3
    exact k J14 w18 hJ15 (((hs19.drop 0).drop 0).drop 0)
  · clear hf
    refine bar ?_
    refine sqs ?_
    obtain ⟨z20, h21, q4⟩ := bindO q2
    clear q2
    refine w_report_Line x0 z20 h21 hg hX hs9 ph0 ?_
    intro J22 w24 hJ23 hs25
    refine bar ?_
    refine sqs ?_
    refine sqs ?_
    obtain ⟨z48, h49, q5⟩ := bindO q4
    clear q4
    rcases iteO q5 with ⟨hk26_1, q6⟩ | ⟨hk26_1, q7⟩
    · clear q5
      obtain ⟨z82, h83, q8⟩ := bindO q6
      clear q6
      obtain ⟨z102, h103, q9⟩ := bindO q8
      clear q8
      refine drawS good [] [[], [], [1], [0, 1, 2], [0, 1, 2, 3], [0, 1, 2, 3, 4], [0, 1, 2, 3, 4, 5], [0, 1, 2, 3, 4], [0, 1, 2, 3, 4, 5, 6, 7], [0, 1, 2, 3, 4, 5, 6, 7, 8], [0, 1, 2, 3, 4, 5, 6, 7, 8, 9]] [pv (fun q26 => .string (bs z20)), pv (fun q26 => .slice pa0 (x0.length) pc0), pv (fun q26 => .string (bs z48)), pv (fun q26 => .bool (!decide (z20 = z48))), pv (fun q26 => .bool (!decide (z20 = z48))), pv (fun q26 => .agg ⟨[.string (bs x1.ID), .bool x1.Redacted, .int .i64 x1.Err]⟩), pv (fun q26 => .string (bs z82)), pv (fun q26 => .agg ⟨[.string (bs x1.ID), .bool x1.Redacted, .int .i64 x1.Err]⟩), pv (fun q26 => .string (bs z102)), pv (fun q26 => .bool (!decide (z82 = z102))), pv (fun q26 => .bool (!decide (z82 = z102)))] (sel [] []) (R := .blk b7 (.cells ⟨[.bool false]⟩ 4) :: .blk b4 (.cells ⟨[.int .i64 x2]⟩ 3) :: .blk b1 (.cells ⟨[.string (bs x1.ID), .bool x1.Redacted, .int .i64 x1.Err]⟩ 48) :: L) hs25 rfl ⟨fun _ _ _ _ _ _ _ h => ⟨Rc0, _, Le.refl _, rfl, trivial, h⟩, fun _ _ _ _ _ _ _ h => ⟨Rc0, _, Le.refl _, rfl, trivial, h⟩, ?_, fun _ _ _ _ _ _ _ h => ⟨Rc0, _, Le.refl _, rfl, trivial, h⟩, fun _ _ _ _ _ _ _ h => ⟨Rc0, _, Le.refl _, rfl, trivial, h⟩, ?_, ?_, ?_, ?_, ?_, ?_, trivial⟩ ?_
      · intro q26 J41 Lo46 e45 w44 hJ42 hF47 hs43
        have hs43 : St c J41 (.blk b7 (.cells ⟨[.bool false]⟩ 4) :: .blk b4 (.cells ⟨[.int .i64 x2]⟩ 3) :: .blk b1 (.cells ⟨[.string (bs x1.ID), .bool x1.Redacted, .int .i64 x1.Err]⟩ 48) :: (L ++ Lo46)) w44 := hs43
        refine w_ref49_Line x0 z48 h49 (hg.le (hJ23.trans hJ42)) hX hs43 (RdL.mono ph0 (hJ23.trans hJ42) (fun _ _ _ h => h)) ?_
        intro J50 w52 hJ51 hs53
        exact ⟨Rc0, J50, hJ51, rfl, trivial, hs53⟩
      · intro q26 J68 Lo73 e72 w71 hJ69 hF74 hs70
        have hs70 : St c J68 (.blk b7 (.cells ⟨[.bool false]⟩ 4) :: .blk b4 (.cells ⟨[.int .i64 x2]⟩ 3) :: .blk b1 (.cells ⟨[.string (bs x1.ID), .bool x1.Redacted, .int .i64 x1.Err]⟩ 48) :: (L ++ Lo73)) w71 := hs70
        refine cf (nT (decide_eq_true hk26_1)) ?_
        refine ld 2 hs70 rfl rfl rfl ?_
        exact ⟨Rc0, J68, (Le.refl _), rfl, trivial, hs70⟩
      · intro q26 J75 Lo80 e79 w78 hJ76 hF81 hs77
        have hs77 : St c J75 (.blk b7 (.cells ⟨[.bool false]⟩ 4) :: .blk b4 (.cells ⟨[.int .i64 x2]⟩ 3) :: .blk b1 (.cells ⟨[.string (bs x1.ID), .bool x1.Redacted, .int .i64 x1.Err]⟩ 48) :: (L ++ Lo80)) w78 := hs77
        refine cf (nT (decide_eq_true hk26_1)) ?_
        refine w_report_Verdict x1 z82 h83 (hg.le (hJ23.trans hJ76)) hX (hn_Tab10.le (hJ23.trans hJ76)) hs77 rfl ?_
        intro J84 w86 hJ85 hs87
        exact ⟨Rc0, J84, hJ85, rfl, trivial, hs87⟩
      · intro q26 J88 Lo93 e92 w91 hJ89 hF94 hs90
        have hs90 : St c J88 (.blk b7 (.cells ⟨[.bool false]⟩ 4) :: .blk b4 (.cells ⟨[.int .i64 x2]⟩ 3) :: .blk b1 (.cells ⟨[.string (bs x1.ID), .bool x1.Redacted, .int .i64 x1.Err]⟩ 48) :: (L ++ Lo93)) w91 := hs90
        refine cf (nT (decide_eq_true hk26_1)) ?_
        refine ld 2 hs90 rfl rfl rfl ?_
        exact ⟨Rc0, J88, (Le.refl _), rfl, trivial, hs90⟩
      · intro q26 J95 Lo100 e99 w98 hJ96 hF101 hs97
        have hs97 : St c J95 (.blk b7 (.cells ⟨[.bool false]⟩ 4) :: .blk b4 (.cells ⟨[.int .i64 x2]⟩ 3) :: .blk b1 (.cells ⟨[.string (bs x1.ID), .bool x1.Redacted, .int .i64 x1.Err]⟩ 48) :: (L ++ Lo100)) w98 := hs97
        refine cf (nT (decide_eq_true hk26_1)) ?_
        refine w_ref49_Verdict x1 z102 h103 (hg.le (hJ23.trans hJ96)) hX hs97 rfl ?_
        intro J104 w106 hJ105 hs107
        exact ⟨Rc0, J104, hJ105, rfl, trivial, hs107⟩
      · intro q26 J108 Lo113 e112 w111 hJ109 hF114 hs110
        have hs110 : St c J108 (.blk b7 (.cells ⟨[.bool false]⟩ 4) :: .blk b4 (.cells ⟨[.int .i64 x2]⟩ 3) :: .blk b1 (.cells ⟨[.string (bs x1.ID), .bool x1.Redacted, .int .i64 x1.Err]⟩ 48) :: (L ++ Lo113)) w111 := hs110
        refine cf (nT (decide_eq_true hk26_1)) ?_
        exact ⟨Rc0, J108, (Le.refl _), rfl, trivial, hs110⟩
      · intro q26 J115 Lo120 e119 w118 hJ116 hF121 hs117
        have hs117 : St c J115 (.blk b7 (.cells ⟨[.bool false]⟩ 4) :: .blk b4 (.cells ⟨[.int .i64 x2]⟩ 3) :: .blk b1 (.cells ⟨[.string (bs x1.ID), .bool x1.Redacted, .int .i64 x1.Err]⟩ 48) :: (L ++ Lo120)) w118 := hs117
        exact ⟨Rc0, J115, (Le.refl _), (pkFe (nT (decide_eq_true hk26_1))), trivial, hs117⟩
      intro q26 J122 e126 w125 hJ123 hF127 hs124
      have hs124 : St c J122 (.blk b7 (.cells ⟨[.bool false]⟩ 4) :: .blk b4 (.cells ⟨[.int .i64 x2]⟩ 3) :: .blk b1 (.cells ⟨[.string (bs x1.ID), .bool x1.Redacted, .int .i64 x1.Err]⟩ 48) :: L) w125 := hs124
      refine barN [0, 5, 6, 7, 30, 1000000] [.slice pa0 (x0.length) pc0, .pointer (some ⟨b4, 0, none⟩), .pointer (some ⟨b7, 0, none⟩), .string (bs z20), .bool (!decide (z82 = z102)), .tuple ⟨[]⟩] (ce rfl (ce rfl (ce rfl (ce rfl (ce rfl (ce rfl (rfl))))))) ?_
      intro e128
      refine cnO q9 (fun h129 q10 => ?_) (fun h129 q11 => ?_)
      · clear q9
        refine bar ?_
        refine sqs ?_
        refine sqs ?_
        refine bar ?_
        refine blk ?_
        refine loopP q10 [1000000, 5, 6, 7, 31, 32, 33] (fun (s : (List UInt8) × Int) vs w' => ∃ (J : Im), Le J122 J ∧ vs = [.tuple ⟨[]⟩, .pointer (some ⟨b4, 0, none⟩), .pointer (some ⟨b7, 0, none⟩), .string (bs s.1), .slice pa0 (x0.length) pc0, .int .i64 (((x0.length : Nat) : Int)), .int .i64 s.2] ∧ St c J (.blk b7 (.cells ⟨[.bool false]⟩ 4) :: .blk b4 (.cells ⟨[.int .i64 x2]⟩ 3) :: .blk b1 (.cells ⟨[.string (bs x1.ID), .bool x1.Redacted, .int .i64 x1.Err]⟩ 48) :: L) w') ⟨J122, Le.refl _, ce rfl (ce rfl (ce rfl (ce rfl (ce rfl (ce rfl (ce rfl (rfl))))))), hs124⟩ ?_
        clear q10
        rintro Z175 ⟨v172, v173⟩ t174 vs e471 w170 hI q12 hZ176
        try dsimp only at hI
        obtain ⟨J168, hJ169, rfl, hs171⟩ := hI
        replace q12 : p_law49_ReportLines_b1 x0 x2 v172 v173 = some t174 := q12
        unfold p_law49_ReportLines_b1 at q12
        refine sqs ?_
        refine bar ?_
        refine sqs ?_
        refine cdO q12 (fun h177 q13 => ?_) (fun h177 q14 => ?_)
        · clear q12
          refine bar ?_
          refine sqs ?_
          refine blk ?_
          refine sqs ?_
          obtain ⟨x178, h184, q15⟩ := bindO q13
          clear q13
          obtain ⟨ad179, r180, h181, h182, h183, h185, h186, h187⟩ := RdL.getI (RdL.mono ph0 (hJ23.trans (hJ123.trans hJ169)) (fun _ _ _ h => h)) h184
          obtain rfl : r180 = [.string (bs x178)] := h185
          refine idx h181 h182 h183 ?_
          refine ldc1 (h187 _ hs171.im 0 _ rfl) ?_
          refine barN [5, 6, 7, 9, 31, 32, 33, 1000000] [.pointer (some ⟨b4, 0, none⟩), .pointer (some ⟨b7, 0, none⟩), .string (bs v172), .string (bs x178), .slice pa0 (x0.length) pc0, .int .i64 (((x0.length : Nat) : Int)), .int .i64 v173, .tuple ⟨[]⟩] (ce rfl (ce rfl (ce rfl (ce rfl (ce rfl (ce rfl (ce rfl (ce rfl (rfl))))))))) ?_
          intro e188
          refine reqO q15 (fun h189 q16 => ?_)
          clear q15
          refine barN [5, 6, 7, 31, 32, 33, 1000000] [.pointer (some ⟨b4, 0, none⟩), .pointer (some ⟨b7, 0, none⟩), .string (bs (v172 ++ x178)), .slice pa0 (x0.length) pc0, .int .i64 (((x0.length : Nat) : Int)), .int .i64 v173, .tuple ⟨[]⟩] (ce rfl (ce rfl (ce rfl (ce rfl (ce rfl (ce rfl (ce rfl (rfl)))))))) ?_
          intro e190
          obtain rfl := Option.some.inj q16
          exact hZ176 _ _ ⟨J168, hJ169, ce rfl (ce rfl (ce rfl (ce rfl (ce rfl (ce rfl (ce rfl (rfl))))))), hs171⟩
        · clear q12
          obtain ⟨r191, hm192, rfl⟩ := mapO q14
          clear q14
          obtain rfl : r191 = _ := hZ176
          refine bar ?_
          refine sqs ?_
          refine sqs ?_
          refine barN [5, 6, 7, 43, 1000000] [.pointer (some ⟨b4, 0, none⟩), .pointer (some ⟨b7, 0, none⟩), .string (bs v172), .bool (decide ((600 : Int) < (v172.length : Int))), .tuple ⟨[]⟩] (ce rfl (ce rfl (ce rfl (ce rfl (ce rfl (rfl)))))) ?_
          intro e193
          refine cdO hm192 (fun h194 q17 => ?_) (fun h194 q18 => ?_)
          · clear hm192
            refine sqs ?_
            obtain ⟨z195, h196, q19⟩ := bindO q17
            clear q17
            refine w_law49_lives  z195 h196 (hg.le (hJ23.trans (hJ123.trans hJ169))) hX (hn_Tab10.le (hJ23.trans (hJ123.trans hJ169))) hs171 ?_
            intro J197 w199 hJ198 hs200
            refine sto 0 hs200 rfl rfl rfl ?_
            intro w201 hs202
            have hs202 : St c J197 (.blk b7 (.cells ⟨[.bool z195]⟩ 4) :: .blk b4 (.cells ⟨[.int .i64 x2]⟩ 3) :: .blk b1 (.cells ⟨[.string (bs x1.ID), .bool x1.Redacted, .int .i64 x1.Err]⟩ 48) :: L) w201 := hs202
            refine bar ?_
            refine ld 0 hs202 rfl rfl rfl ?_
            obtain rfl := Option.some.inj q19
            exact k J197 w201 (hJ23.trans (hJ123.trans (hJ169.trans hJ198))) (((hs202.drop 0).drop 0).drop 0)
          · clear hm192
            refine bar ?_
            refine sqs ?_
            obtain ⟨z203, h204, q20⟩ := bindO q18
            clear q18
            refine w_ref49_Lines v172 z203 h204 (hg.le (hJ23.trans (hJ123.trans hJ169))) hX hs171 ?_
            intro a209 c210 J205 w207 hJ206 hs208 h211
            refine new hs208 ?_
            intro b212 w213 hs214
            have hs214 : St c J205 (.blk b212 (.cells ⟨[.slice none (0) 0]⟩ 24) :: .blk b7 (.cells ⟨[.bool false]⟩ 4) :: .blk b4 (.cells ⟨[.int .i64 x2]⟩ 3) :: .blk b1 (.cells ⟨[.string (bs x1.ID), .bool x1.Redacted, .int .i64 x1.Err]⟩ 48) :: L) w213 := hs214
            refine sto 0 hs214 rfl rfl rfl ?_
            intro w215 hs216
            have hs216 : St c J205 (.blk b212 (.cells ⟨[.slice a209 (z203.length) c210]⟩ 24) :: .blk b7 (.cells ⟨[.bool false]⟩ 4) :: .blk b4 (.cells ⟨[.int .i64 x2]⟩ 3) :: .blk b1 (.cells ⟨[.string (bs x1.ID), .bool x1.Redacted, .int .i64 x1.Err]⟩ 48) :: L) w215 := hs216
            refine barN [5, 6, 7, 10, 1000000] [.pointer (some ⟨b4, 0, none⟩), .pointer (some ⟨b7, 0, none⟩), .string (bs v172), .pointer (some ⟨b212, 0, none⟩), .tuple ⟨[]⟩] (ce rfl (ce rfl (ce rfl (ce rfl (ce rfl (rfl)))))) ?_
            intro e217
            refine sqs ?_
            refine fn_of good Tryd.func34 rfl rfl rfl ?_
            refine sqs ?_
            refine new hs216 ?_
            intro b218 w219 hs220
            have hs220 : St c J205 (.blk b218 (.cells ⟨[.string (bs v172)]⟩ 9) :: .blk b212 (.cells ⟨[.slice a209 (z203.length) c210]⟩ 24) :: .blk b7 (.cells ⟨[.bool false]⟩ 4) :: .blk b4 (.cells ⟨[.int .i64 x2]⟩ 3) :: .blk b1 (.cells ⟨[.string (bs x1.ID), .bool x1.Redacted, .int .i64 x1.Err]⟩ 48) :: L) w219 := hs220
            refine bar ?_
            refine sqs ?_
            refine barN [2] [.func (.func 85) ⟨[]⟩ ⟨[.pointer (some ⟨b218, 0, none⟩)]⟩] (ce rfl (rfl)) ?_
            intro e221
            refine bar ?_
            refine sqs ?_
            refine sqs ?_
            refine bar ?_
            refine bar ?_
            refine sqs ?_
            refine new hs220 ?_
            intro b222 w223 hs224
            have hs224 : St c J205 (.blk b222 (.cells ⟨[.int .i64 ((0 : Int))]⟩ 3) :: .blk b218 (.cells ⟨[.string (bs v172)]⟩ 9) :: .blk b212 (.cells ⟨[.slice a209 (z203.length) c210]⟩ 24) :: .blk b7 (.cells ⟨[.bool false]⟩ 4) :: .blk b4 (.cells ⟨[.int .i64 x2]⟩ 3) :: .blk b1 (.cells ⟨[.string (bs x1.ID), .bool x1.Redacted, .int .i64 x1.Err]⟩ 48) :: L) w223 := hs224
            refine sto 0 hs224 rfl rfl rfl ?_
            intro w225 hs226
            have hs226 : St c J205 (.blk b222 (.cells ⟨[.int .i64 ((0 : Int))]⟩ 3) :: .blk b218 (.cells ⟨[.string (bs v172)]⟩ 9) :: .blk b212 (.cells ⟨[.slice a209 (z203.length) c210]⟩ 24) :: .blk b7 (.cells ⟨[.bool false]⟩ 4) :: .blk b4 (.cells ⟨[.int .i64 x2]⟩ 3) :: .blk b1 (.cells ⟨[.string (bs x1.ID), .bool x1.Redacted, .int .i64 x1.Err]⟩ 48) :: L) w225 := hs226
            refine barN [5, 6, 10, 11, 12, 1000000] [.pointer (some ⟨b4, 0, none⟩), .pointer (some ⟨b7, 0, none⟩), .pointer (some ⟨b212, 0, none⟩), .func (.func 85) ⟨[]⟩ ⟨[.pointer (some ⟨b218, 0, none⟩)]⟩, .pointer (some ⟨b222, 0, none⟩), .tuple ⟨[]⟩] (ce rfl (ce rfl (ce rfl (ce rfl (ce rfl (ce rfl (rfl))))))) ?_
            intro e227
            refine sqs ?_
            refine sqs ?_
            refine bar ?_
            refine blk ?_
            refine rngR good hs226 rfl rfl rfl rfl rfl (by kernel_rfl) ?_
            intro r228 b229 b230 w232 h231 hs233
            refine fn_of good Tryd.func85 rfl rfl rfl ?_
            refine blk ?_
            refine loopP q20 [0, 1] (fun (s : Int × (List UInt8)) vs w' => ∃ (J : Im), Le J205 J ∧ vs = [.func (.yield b230) ⟨[]⟩ ⟨[]⟩, .pointer (some ⟨b218, 0, none⟩)] ∧ St c J (.blk b230 (lp r228 .ready none) :: .blk b229 (.deferred (some [])) :: .blk b222 (.cells ⟨[.int .i64 s.1]⟩ 3) :: .blk b218 (.cells ⟨[.string (bs s.2)]⟩ 9) :: .blk b212 (.cells ⟨[.slice a209 (z203.length) c210]⟩ 24) :: .blk b7 (.cells ⟨[.bool false]⟩ 4) :: .blk b4 (.cells ⟨[.int .i64 x2]⟩ 3) :: .blk b1 (.cells ⟨[.string (bs x1.ID), .bool x1.Redacted, .int .i64 x1.Err]⟩ 48) :: L) w') ⟨J205, Le.refl _, ce rfl (ce rfl (rfl)), hs233⟩ ?_
            clear q20
            rintro Z369 ⟨v366, v367⟩ t368 vs e470 w364 hI q21 hZ370
            try dsimp only at hI
            obtain ⟨J362, hJ363, rfl, hs365⟩ := hI
            replace q21 : p_law49_ReportLines_b2 x2 z203 v366 v367 = some t368 := q21
            unfold p_law49_ReportLines_b2 at q21
            refine sqs ?_
            refine sqs ?_
            refine ld 3 hs365 rfl rfl rfl ?_
            refine bar ?_
            refine cnO q21 (fun h371 q22 => ?_) (fun h371 q23 => ?_)
            · clear q21
              obtain ⟨r372, hm373, rfl⟩ := mapO q22
              clear q22
              obtain rfl : r372 = _ := hZ370
              refine endR 0 hs365 rfl (by decide) ?_
              intro w374 hs375
              have hs375 : St c J362 (.blk b229 (.deferred (some [])) :: .blk b222 (.cells ⟨[.int .i64 v366]⟩ 3) :: .blk b218 (.cells ⟨[.string (bs v367)]⟩ 9) :: .blk b212 (.cells ⟨[.slice a209 (z203.length) c210]⟩ 24) :: .blk b7 (.cells ⟨[.bool false]⟩ 4) :: .blk b4 (.cells ⟨[.int .i64 x2]⟩ 3) :: .blk b1 (.cells ⟨[.string (bs x1.ID), .bool x1.Redacted, .int .i64 x1.Err]⟩ 48) :: L) w374 := hs375
              refine barN [6, 10, 12, 1000000] [.pointer (some ⟨b7, 0, none⟩), .pointer (some ⟨b212, 0, none⟩), .pointer (some ⟨b222, 0, none⟩), .tuple ⟨[.pointer (some ⟨b229, 0, none⟩)]⟩] (ce rfl (ce rfl (ce rfl (ce rfl (rfl))))) ?_
              intro e376
              refine sqs ?_
              refine ld 1 hs375 rfl rfl rfl ?_
              refine ld 3 hs375 rfl rfl rfl ?_
              refine cdO hm373 (fun h377 q24 => ?_) (fun h377 q25 => ?_)
              · clear hm373
                refine nrmP [6, 75, 1000000] [.pointer (some ⟨b7, 0, none⟩), .bool true, .tuple ⟨[.pointer (some ⟨b229, 0, none⟩)]⟩] (ce rfl (ce rfl (ce rfl (rfl)))) ?_
                intro e378
                obtain ⟨z379, h380, q26⟩ := bindO q24
                clear q24
                refine w_law49_lives  z379 h380 (hg.le (hJ23.trans (hJ123.trans (hJ169.trans (hJ206.trans hJ363))))) hX (hn_Tab10.le (hJ23.trans (hJ123.trans (hJ169.trans (hJ206.trans hJ363))))) hs375 ?_
                intro J381 w383 hJ382 hs384
                refine sto 4 hs384 rfl rfl rfl ?_
                intro w385 hs386
                have hs386 : St c J381 (.blk b229 (.deferred (some [])) :: .blk b222 (.cells ⟨[.int .i64 v366]⟩ 3) :: .blk b218 (.cells ⟨[.string (bs v367)]⟩ 9) :: .blk b212 (.cells ⟨[.slice a209 (z203.length) c210]⟩ 24) :: .blk b7 (.cells ⟨[.bool z379]⟩ 4) :: .blk b4 (.cells ⟨[.int .i64 x2]⟩ 3) :: .blk b1 (.cells ⟨[.string (bs x1.ID), .bool x1.Redacted, .int .i64 x1.Err]⟩ 48) :: L) w385 := hs386
                refine bar ?_
                refine tookR 0 hs386 rfl ?_
                intro w387 hs388
                have hs388 : St c J381 (.blk b222 (.cells ⟨[.int .i64 v366]⟩ 3) :: .blk b218 (.cells ⟨[.string (bs v367)]⟩ 9) :: .blk b212 (.cells ⟨[.slice a209 (z203.length) c210]⟩ 24) :: .blk b7 (.cells ⟨[.bool z379]⟩ 4) :: .blk b4 (.cells ⟨[.int .i64 x2]⟩ 3) :: .blk b1 (.cells ⟨[.string (bs x1.ID), .bool x1.Redacted, .int .i64 x1.Err]⟩ 48) :: L) w387 := hs388
                refine ld 3 hs388 rfl rfl rfl ?_
                obtain rfl := Option.some.inj q26
                exact k J381 w387 (hJ23.trans (hJ123.trans (hJ169.trans (hJ206.trans (hJ363.trans hJ382))))) ((((((hs388.drop 0).drop 0).drop 0).drop 0).drop 0).drop 0)
              · clear hm373
                refine nrmO [6, 75, 1000000, 76] [.pointer (some ⟨b7, 0, none⟩), .bool false, .tuple ⟨[.pointer (some ⟨b229, 0, none⟩)]⟩, undef] (ce rfl (ce rfl (ce rfl (ce rfl (rfl))))) ?_
                intro e389
                refine sto 4 hs375 rfl rfl rfl ?_
                intro w390 hs391
                have hs391 : St c J362 (.blk b229 (.deferred (some [])) :: .blk b222 (.cells ⟨[.int .i64 v366]⟩ 3) :: .blk b218 (.cells ⟨[.string (bs v367)]⟩ 9) :: .blk b212 (.cells ⟨[.slice a209 (z203.length) c210]⟩ 24) :: .blk b7 (.cells ⟨[.bool false]⟩ 4) :: .blk b4 (.cells ⟨[.int .i64 x2]⟩ 3) :: .blk b1 (.cells ⟨[.string (bs x1.ID), .bool x1.Redacted, .int .i64 x1.Err]⟩ 48) :: L) w390 := hs391
                refine bar ?_
                refine tookR 0 hs391 rfl ?_
                intro w392 hs393
                have hs393 : St c J362 (.blk b222 (.cells ⟨[.int .i64 v366]⟩ 3) :: .blk b218 (.cells ⟨[.string (bs v367)]⟩ 9) :: .blk b212 (.cells ⟨[.slice a209 (z203.length) c210]⟩ 24) :: .blk b7 (.cells ⟨[.bool false]⟩ 4) :: .blk b4 (.cells ⟨[.int .i64 x2]⟩ 3) :: .blk b1 (.cells ⟨[.string (bs x1.ID), .bool x1.Redacted, .int .i64 x1.Err]⟩ 48) :: L) w392 := hs393
                refine ld 3 hs393 rfl rfl rfl ?_
                obtain rfl := Option.some.inj q25
                exact k J362 w392 (hJ23.trans (hJ123.trans (hJ169.trans (hJ206.trans hJ363)))) ((((((hs393.drop 0).drop 0).drop 0).drop 0).drop 0).drop 0)
            · clear q21
              refine bar ?_
              refine blk ?_
              refine sqs ?_
              refine ld 3 hs365 rfl rfl rfl ?_
              obtain ⟨z394, h395, q27⟩ := bindO q23
              clear q23
              refine w_strings_Cut v367 ([10] : List UInt8) z394 h395 (hg.le (hJ23.trans (hJ123.trans (hJ169.trans (hJ206.trans hJ363))))) hX hs365 ?_
              intro J396 w398 hJ397 hs399
              refine barN [0, 1, 3, 4] [.func (.yield b230) ⟨[]⟩ ⟨[]⟩, .pointer (some ⟨b218, 0, none⟩), .string (bs z394.1), .string (bs z394.2.1)] (ce rfl (ce rfl (ce rfl (ce rfl (rfl))))) ?_
              intro e400
              refine sqs ?_
              refine sqs ?_
              refine yldR good 0 hs399 rfl h231 rfl ?_
              refine nrmW [5, 6, 10, 12, 52] [.pointer (some ⟨b4, 0, none⟩), .pointer (some ⟨b7, 0, none⟩), .pointer (some ⟨b212, 0, none⟩), .pointer (some ⟨b222, 0, none⟩), .string (bs z394.1)] (ce rfl (ce rfl (ce rfl (ce rfl (ce rfl (rfl)))))) ?_
              intro e402
              refine begR 0 hs399 rfl ?_
              intro w403 hs404
              have hs404 : St c J396 (.blk b230 (lp r228 .busy none) :: .blk b229 (.deferred (some [])) :: .blk b222 (.cells ⟨[.int .i64 v366]⟩ 3) :: .blk b218 (.cells ⟨[.string (bs v367)]⟩ 9) :: .blk b212 (.cells ⟨[.slice a209 (z203.length) c210]⟩ 24) :: .blk b7 (.cells ⟨[.bool false]⟩ 4) :: .blk b4 (.cells ⟨[.int .i64 x2]⟩ 3) :: .blk b1 (.cells ⟨[.string (bs x1.ID), .bool x1.Redacted, .int .i64 x1.Err]⟩ 48) :: L) w403 := hs404
              refine nrmW [5, 6, 10, 12, 13] [.pointer (some ⟨b4, 0, none⟩), .pointer (some ⟨b7, 0, none⟩), .pointer (some ⟨b212, 0, none⟩), .pointer (some ⟨b222, 0, none⟩), .string (bs z394.1)] (ce rfl (ce rfl (ce rfl (ce rfl (ce rfl (rfl)))))) ?_
              intro e405
              refine blk ?_
              refine sqs ?_
              refine sqs ?_
              refine ld 2 hs404 rfl rfl rfl ?_
              refine ld 4 hs404 rfl rfl rfl ?_
              refine cdO q27 (fun h406 q28 => ?_) (fun h406 q29 => ?_)
              · clear q27
                refine nrmO [5, 6, 10, 12, 57, 58] [.pointer (some ⟨b4, 0, none⟩), .pointer (some ⟨b7, 0, none⟩), .pointer (some ⟨b212, 0, none⟩), .pointer (some ⟨b222, 0, none⟩), .bool true, undef] (ce rfl (ce rfl (ce rfl (ce rfl (ce rfl (ce rfl (rfl))))))) ?_
                intro e407
                refine barN [5, 6, 12, 64] [.pointer (some ⟨b4, 0, none⟩), .pointer (some ⟨b7, 0, none⟩), .pointer (some ⟨b222, 0, none⟩), .bool true] (ce rfl (ce rfl (ce rfl (ce rfl (rfl))))) ?_
                intro e408
                refine sto 5 hs404 rfl rfl rfl ?_
                intro w409 hs410
                have hs410 : St c J396 (.blk b230 (lp r228 .busy none) :: .blk b229 (.deferred (some [])) :: .blk b222 (.cells ⟨[.int .i64 v366]⟩ 3) :: .blk b218 (.cells ⟨[.string (bs v367)]⟩ 9) :: .blk b212 (.cells ⟨[.slice a209 (z203.length) c210]⟩ 24) :: .blk b7 (.cells ⟨[.bool false]⟩ 4) :: .blk b4 (.cells ⟨[.int .i64 x2]⟩ 3) :: .blk b1 (.cells ⟨[.string (bs x1.ID), .bool x1.Redacted, .int .i64 x1.Err]⟩ 48) :: L) w409 := hs410
                refine bar ?_
                refine erR1 0 hs410 rfl ?_
                intro w411 hs412
                have hs412 : St c J396 (.blk b230 (lp r228 .done (some (.ret))) :: .blk b229 (.deferred (some [])) :: .blk b222 (.cells ⟨[.int .i64 v366]⟩ 3) :: .blk b218 (.cells ⟨[.string (bs v367)]⟩ 9) :: .blk b212 (.cells ⟨[.slice a209 (z203.length) c210]⟩ 24) :: .blk b7 (.cells ⟨[.bool false]⟩ 4) :: .blk b4 (.cells ⟨[.int .i64 x2]⟩ 3) :: .blk b1 (.cells ⟨[.string (bs x1.ID), .bool x1.Redacted, .int .i64 x1.Err]⟩ 48) :: L) w411 := hs412
                refine nrmO [0, 1, 4, 16] [.func (.yield b230) ⟨[]⟩ ⟨[]⟩, .pointer (some ⟨b218, 0, none⟩), .string (bs z394.2.1), .bool false] (ce rfl (ce rfl (ce rfl (ce rfl (rfl))))) ?_
                intro e413
                refine bar ?_
                obtain ⟨r414, hm415, rfl⟩ := mapO q28
                clear q28
                obtain rfl : r414 = _ := hZ370
                refine endR 0 hs412 rfl (by decide) ?_
                intro w416 hs417
                have hs417 : St c J396 (.blk b229 (.deferred (some [])) :: .blk b222 (.cells ⟨[.int .i64 v366]⟩ 3) :: .blk b218 (.cells ⟨[.string (bs v367)]⟩ 9) :: .blk b212 (.cells ⟨[.slice a209 (z203.length) c210]⟩ 24) :: .blk b7 (.cells ⟨[.bool false]⟩ 4) :: .blk b4 (.cells ⟨[.int .i64 x2]⟩ 3) :: .blk b1 (.cells ⟨[.string (bs x1.ID), .bool x1.Redacted, .int .i64 x1.Err]⟩ 48) :: L) w416 := hs417
                refine ⟨rfl, ?_⟩
                refine tookR 0 hs417 rfl ?_
                intro w418 hs419
                have hs419 : St c J396 (.blk b222 (.cells ⟨[.int .i64 v366]⟩ 3) :: .blk b218 (.cells ⟨[.string (bs v367)]⟩ 9) :: .blk b212 (.cells ⟨[.slice a209 (z203.length) c210]⟩ 24) :: .blk b7 (.cells ⟨[.bool false]⟩ 4) :: .blk b4 (.cells ⟨[.int .i64 x2]⟩ 3) :: .blk b1 (.cells ⟨[.string (bs x1.ID), .bool x1.Redacted, .int .i64 x1.Err]⟩ 48) :: L) w418 := hs419
                refine ld 3 hs419 rfl rfl rfl ?_
                obtain rfl := Option.some.inj hm415
                exact k J396 w418 (hJ23.trans (hJ123.trans (hJ169.trans (hJ206.trans (hJ363.trans hJ397))))) ((((((hs419.drop 0).drop 0).drop 0).drop 0).drop 0).drop 0)
              · clear q27
                refine nrmP [5, 6, 10, 12, 13, 57] [.pointer (some ⟨b4, 0, none⟩), .pointer (some ⟨b7, 0, none⟩), .pointer (some ⟨b212, 0, none⟩), .pointer (some ⟨b222, 0, none⟩), .string (bs z394.1), .bool false] (ce rfl (ce rfl (ce rfl (ce rfl (ce rfl (ce rfl (rfl))))))) ?_
                intro e420
                refine ld 4 hs404 rfl rfl rfl ?_
                refine ld 2 hs404 rfl rfl rfl ?_
                obtain ⟨x421, h427, q30⟩ := bindO q29
                clear q29
                obtain ⟨ad422, r423, h424, h425, h426, h428, h429, h430⟩ := RdL.getI (RdL.mono h211 (hJ363.trans hJ397) (fun _ _ _ h => h)) h427
                obtain rfl : r423 = [.string (bs x421)] := h428
                refine idx h424 h425 h426 ?_
                refine ldc1 (h430 _ hs404.im 0 _ rfl) ?_
                refine barN [5, 6, 12, 64] [.pointer (some ⟨b4, 0, none⟩), .pointer (some ⟨b7, 0, none⟩), .pointer (some ⟨b222, 0, none⟩), .bool (!decide (z394.1 = x421))] (ce rfl (ce rfl (ce rfl (ce rfl (rfl))))) ?_
                intro e431
                refine cnO q30 (fun h432 q31 => ?_) (fun h432 q32 => ?_)
                · clear q30
                  refine bar ?_
                  refine sqs ?_
                  refine ld 2 hs404 rfl rfl rfl ?_
                  refine sto 2 hs404 rfl rfl rfl ?_
                  intro w433 hs434
                  have hs434 : St c J396 (.blk b230 (lp r228 .busy none) :: .blk b229 (.deferred (some [])) :: .blk b222 (.cells ⟨[.int .i64 ((IntKind.i64.wrap (v366 + (1 : Int))))]⟩ 3) :: .blk b218 (.cells ⟨[.string (bs v367)]⟩ 9) :: .blk b212 (.cells ⟨[.slice a209 (z203.length) c210]⟩ 24) :: .blk b7 (.cells ⟨[.bool false]⟩ 4) :: .blk b4 (.cells ⟨[.int .i64 x2]⟩ 3) :: .blk b1 (.cells ⟨[.string (bs x1.ID), .bool x1.Redacted, .int .i64 x1.Err]⟩ 48) :: L) w433 := hs434
                  refine bar ?_
                  refine sqs ?_
                  refine ld 2 hs434 rfl rfl rfl ?_
                  refine ld 6 hs434 rfl rfl rfl ?_
                  refine barN [6, 69] [.pointer (some ⟨b7, 0, none⟩), .bool (decide ((IntKind.i64.wrap (v366 + (1 : Int))) = x2))] (ce rfl (ce rfl (rfl))) ?_
                  intro e435
                  refine cdO q31 (fun h436 q33 => ?_) (fun h436 q34 => ?_)
                  · clear q31
                    refine sqs ?_
                    obtain ⟨z437, h438, q35⟩ := bindO q33
                    clear q33
                    refine w_law49_lives  z437 h438 (hg.le (hJ23.trans (hJ123.trans (hJ169.trans (hJ206.trans (hJ363.trans hJ397)))))) hX (hn_Tab10.le (hJ23.trans (hJ123.trans (hJ169.trans (hJ206.trans (hJ363.trans hJ397)))))) hs434 ?_
                    intro J439 w441 hJ440 hs442
                    refine sto 5 hs442 rfl rfl rfl ?_
                    intro w443 hs444
                    have hs444 : St c J439 (.blk b230 (lp r228 .busy none) :: .blk b229 (.deferred (some [])) :: .blk b222 (.cells ⟨[.int .i64 ((IntKind.i64.wrap (v366 + (1 : Int))))]⟩ 3) :: .blk b218 (.cells ⟨[.string (bs v367)]⟩ 9) :: .blk b212 (.cells ⟨[.slice a209 (z203.length) c210]⟩ 24) :: .blk b7 (.cells ⟨[.bool z437]⟩ 4) :: .blk b4 (.cells ⟨[.int .i64 x2]⟩ 3) :: .blk b1 (.cells ⟨[.string (bs x1.ID), .bool x1.Redacted, .int .i64 x1.Err]⟩ 48) :: L) w443 := hs444
                    refine bar ?_
                    refine erR1 0 hs444 rfl ?_
                    intro w445 hs446
                    have hs446 : St c J439 (.blk b230 (lp r228 .done (some (.ret))) :: .blk b229 (.deferred (some [])) :: .blk b222 (.cells ⟨[.int .i64 ((IntKind.i64.wrap (v366 + (1 : Int))))]⟩ 3) :: .blk b218 (.cells ⟨[.string (bs v367)]⟩ 9) :: .blk b212 (.cells ⟨[.slice a209 (z203.length) c210]⟩ 24) :: .blk b7 (.cells ⟨[.bool z437]⟩ 4) :: .blk b4 (.cells ⟨[.int .i64 x2]⟩ 3) :: .blk b1 (.cells ⟨[.string (bs x1.ID), .bool x1.Redacted, .int .i64 x1.Err]⟩ 48) :: L) w445 := hs446
                    refine nrmO [0, 1, 4, 16] [.func (.yield b230) ⟨[]⟩ ⟨[]⟩, .pointer (some ⟨b218, 0, none⟩), .string (bs z394.2.1), .bool false] (ce rfl (ce rfl (ce rfl (ce rfl (rfl))))) ?_
                    intro e447
                    refine bar ?_
                    obtain ⟨r448, hm449, rfl⟩ := mapO q35
                    clear q35
                    obtain rfl : r448 = _ := hZ370
                    refine endR 0 hs446 rfl (by decide) ?_
                    intro w450 hs451
                    have hs451 : St c J439 (.blk b229 (.deferred (some [])) :: .blk b222 (.cells ⟨[.int .i64 ((IntKind.i64.wrap (v366 + (1 : Int))))]⟩ 3) :: .blk b218 (.cells ⟨[.string (bs v367)]⟩ 9) :: .blk b212 (.cells ⟨[.slice a209 (z203.length) c210]⟩ 24) :: .blk b7 (.cells ⟨[.bool z437]⟩ 4) :: .blk b4 (.cells ⟨[.int .i64 x2]⟩ 3) :: .blk b1 (.cells ⟨[.string (bs x1.ID), .bool x1.Redacted, .int .i64 x1.Err]⟩ 48) :: L) w450 := hs451
                    refine ⟨rfl, ?_⟩
                    refine tookR 0 hs451 rfl ?_
                    intro w452 hs453
                    have hs453 : St c J439 (.blk b222 (.cells ⟨[.int .i64 ((IntKind.i64.wrap (v366 + (1 : Int))))]⟩ 3) :: .blk b218 (.cells ⟨[.string (bs v367)]⟩ 9) :: .blk b212 (.cells ⟨[.slice a209 (z203.length) c210]⟩ 24) :: .blk b7 (.cells ⟨[.bool z437]⟩ 4) :: .blk b4 (.cells ⟨[.int .i64 x2]⟩ 3) :: .blk b1 (.cells ⟨[.string (bs x1.ID), .bool x1.Redacted, .int .i64 x1.Err]⟩ 48) :: L) w452 := hs453
                    refine ld 3 hs453 rfl rfl rfl ?_
                    obtain rfl := Option.some.inj hm449
                    exact k J439 w452 (hJ23.trans (hJ123.trans (hJ169.trans (hJ206.trans (hJ363.trans (hJ397.trans hJ440)))))) ((((((hs453.drop 0).drop 0).drop 0).drop 0).drop 0).drop 0)
                  · clear q31
                    refine erR0 0 hs434 rfl ?_
                    intro w454 hs455
                    have hs455 : St c J396 (.blk b230 (lp r228 .ready none) :: .blk b229 (.deferred (some [])) :: .blk b222 (.cells ⟨[.int .i64 ((IntKind.i64.wrap (v366 + (1 : Int))))]⟩ 3) :: .blk b218 (.cells ⟨[.string (bs v367)]⟩ 9) :: .blk b212 (.cells ⟨[.slice a209 (z203.length) c210]⟩ 24) :: .blk b7 (.cells ⟨[.bool false]⟩ 4) :: .blk b4 (.cells ⟨[.int .i64 x2]⟩ 3) :: .blk b1 (.cells ⟨[.string (bs x1.ID), .bool x1.Redacted, .int .i64 x1.Err]⟩ 48) :: L) w454 := hs455
                    refine nrmO [0, 1, 4, 16] [.func (.yield b230) ⟨[]⟩ ⟨[]⟩, .pointer (some ⟨b218, 0, none⟩), .string (bs z394.2.1), .bool true] (ce rfl (ce rfl (ce rfl (ce rfl (rfl))))) ?_
                    intro e456
                    refine bar ?_
                    refine bar ?_
                    refine sto 3 hs455 rfl rfl rfl ?_
                    intro w457 hs458
                    have hs458 : St c J396 (.blk b230 (lp r228 .ready none) :: .blk b229 (.deferred (some [])) :: .blk b222 (.cells ⟨[.int .i64 ((IntKind.i64.wrap (v366 + (1 : Int))))]⟩ 3) :: .blk b218 (.cells ⟨[.string (bs z394.2.1)]⟩ 9) :: .blk b212 (.cells ⟨[.slice a209 (z203.length) c210]⟩ 24) :: .blk b7 (.cells ⟨[.bool false]⟩ 4) :: .blk b4 (.cells ⟨[.int .i64 x2]⟩ 3) :: .blk b1 (.cells ⟨[.string (bs x1.ID), .bool x1.Redacted, .int .i64 x1.Err]⟩ 48) :: L) w457 := hs458
                    obtain rfl := Option.some.inj q34
                    exact hZ370 _ _ ⟨J396, (hJ363.trans hJ397), ce rfl (ce rfl (rfl)), hs458⟩
                · clear q30
                  refine sqs ?_
                  refine sto 5 hs404 rfl rfl rfl ?_
                  intro w459 hs460
                  have hs460 : St c J396 (.blk b230 (lp r228 .busy none) :: .blk b229 (.deferred (some [])) :: .blk b222 (.cells ⟨[.int .i64 v366]⟩ 3) :: .blk b218 (.cells ⟨[.string (bs v367)]⟩ 9) :: .blk b212 (.cells ⟨[.slice a209 (z203.length) c210]⟩ 24) :: .blk b7 (.cells ⟨[.bool false]⟩ 4) :: .blk b4 (.cells ⟨[.int .i64 x2]⟩ 3) :: .blk b1 (.cells ⟨[.string (bs x1.ID), .bool x1.Redacted, .int .i64 x1.Err]⟩ 48) :: L) w459 := hs460
                  refine bar ?_
                  refine erR1 0 hs460 rfl ?_
                  intro w461 hs462
                  have hs462 : St c J396 (.blk b230 (lp r228 .done (some (.ret))) :: .blk b229 (.deferred (some [])) :: .blk b222 (.cells ⟨[.int .i64 v366]⟩ 3) :: .blk b218 (.cells ⟨[.string (bs v367)]⟩ 9) :: .blk b212 (.cells ⟨[.slice a209 (z203.length) c210]⟩ 24) :: .blk b7 (.cells ⟨[.bool false]⟩ 4) :: .blk b4 (.cells ⟨[.int .i64 x2]⟩ 3) :: .blk b1 (.cells ⟨[.string (bs x1.ID), .bool x1.Redacted, .int .i64 x1.Err]⟩ 48) :: L) w461 := hs462
                  refine nrmO [0, 1, 4, 16] [.func (.yield b230) ⟨[]⟩ ⟨[]⟩, .pointer (some ⟨b218, 0, none⟩), .string (bs z394.2.1), .bool false] (ce rfl (ce rfl (ce rfl (ce rfl (rfl))))) ?_
                  intro e463
                  refine bar ?_
                  obtain ⟨r464, hm465, rfl⟩ := mapO q32
                  clear q32
                  obtain rfl : r464 = _ := hZ370
                  refine endR 0 hs462 rfl (by decide) ?_
                  intro w466 hs467
                  have hs467 : St c J396 (.blk b229 (.deferred (some [])) :: .blk b222 (.cells ⟨[.int .i64 v366]⟩ 3) :: .blk b218 (.cells ⟨[.string (bs v367)]⟩ 9) :: .blk b212 (.cells ⟨[.slice a209 (z203.length) c210]⟩ 24) :: .blk b7 (.cells ⟨[.bool false]⟩ 4) :: .blk b4 (.cells ⟨[.int .i64 x2]⟩ 3) :: .blk b1 (.cells ⟨[.string (bs x1.ID), .bool x1.Redacted, .int .i64 x1.Err]⟩ 48) :: L) w466 := hs467
                  refine ⟨rfl, ?_⟩
                  refine tookR 0 hs467 rfl ?_
                  intro w468 hs469
                  have hs469 : St c J396 (.blk b222 (.cells ⟨[.int .i64 v366]⟩ 3) :: .blk b218 (.cells ⟨[.string (bs v367)]⟩ 9) :: .blk b212 (.cells ⟨[.slice a209 (z203.length) c210]⟩ 24) :: .blk b7 (.cells ⟨[.bool false]⟩ 4) :: .blk b4 (.cells ⟨[.int .i64 x2]⟩ 3) :: .blk b1 (.cells ⟨[.string (bs x1.ID), .bool x1.Redacted, .int .i64 x1.Err]⟩ 48) :: L) w468 := hs469
                  refine ld 3 hs469 rfl rfl rfl ?_
                  obtain rfl := Option.some.inj hm465
                  exact k J396 w468 (hJ23.trans (hJ123.trans (hJ169.trans (hJ206.trans (hJ363.trans hJ397))))) ((((((hs469.drop 0).drop 0).drop 0).drop 0).drop 0).drop 0)
      · clear q9
        refine sqs ?_
        refine sto 0 hs124 rfl rfl rfl ?_
        intro w472 hs473
        have hs473 : St c J122 (.blk b7 (.cells ⟨[.bool false]⟩ 4) :: .blk b4 (.cells ⟨[.int .i64 x2]⟩ 3) :: .blk b1 (.cells ⟨[.string (bs x1.ID), .bool x1.Redacted, .int .i64 x1.Err]⟩ 48) :: L) w472 := hs473
        refine bar ?_
        refine ld 0 hs473 rfl rfl rfl ?_
        obtain rfl := Option.some.inj q11
        exact k J122 w472 (hJ23.trans hJ123) (((hs473.drop 0).drop 0).drop 0)
    · clear q5
      refine drawS good [] [[], [], [1], [0, 1, 2], [0, 1, 2, 3], [0, 1, 2, 3, 4], [0, 1, 2, 3, 4, 5], [0, 1, 2, 3, 4], [0, 1, 2, 3, 4, 5, 6, 7], [0, 1, 2, 3, 4, 5, 6, 7, 8], [0, 1, 2, 3, 4, 5, 6, 7, 8, 9]] [pv (fun q26 => .string (bs z20)), pv (fun q26 => .slice pa0 (x0.length) pc0), pv (fun q26 => .string (bs z48)), pv (fun q26 => .bool (!decide (z20 = z48))), pv (fun q26 => .bool (!decide (z20 = z48))), pv (fun q26 => undef), pv (fun q26 => undef), pv (fun q26 => undef), pv (fun q26 => undef), pv (fun q26 => undef), pv (fun q26 => .bool true)] (sel [] []) (R := .blk b7 (.cells ⟨[.bool false]⟩ 4) :: .blk b4 (.cells ⟨[.int .i64 x2]⟩ 3) :: .blk b1 (.cells ⟨[.string (bs x1.ID), .bool x1.Redacted, .int .i64 x1.Err]⟩ 48) :: L) hs25 rfl ⟨fun _ _ _ _ _ _ _ h => ⟨Rc0, _, Le.refl _, rfl, trivial, h⟩, fun _ _ _ _ _ _ _ h => ⟨Rc0, _, Le.refl _, rfl, trivial, h⟩, ?_, fun _ _ _ _ _ _ _ h => ⟨Rc0, _, Le.refl _, rfl, trivial, h⟩, fun _ _ _ _ _ _ _ h => ⟨Rc0, _, Le.refl _, rfl, trivial, h⟩, ?_, ?_, ?_, ?_, ?_, ?_, trivial⟩ ?_
      · intro q26 J41 Lo46 e45 w44 hJ42 hF47 hs43
        have hs43 : St c J41 (.blk b7 (.cells ⟨[.bool false]⟩ 4) :: .blk b4 (.cells ⟨[.int .i64 x2]⟩ 3) :: .blk b1 (.cells ⟨[.string (bs x1.ID), .bool x1.Redacted, .int .i64 x1.Err]⟩ 48) :: (L ++ Lo46)) w44 := hs43
        refine w_ref49_Line x0 z48 h49 (hg.le (hJ23.trans hJ42)) hX hs43 (RdL.mono ph0 (hJ23.trans hJ42) (fun _ _ _ h => h)) ?_
        intro J50 w52 hJ51 hs53
        exact ⟨Rc0, J50, hJ51, rfl, trivial, hs53⟩
      · intro q26 J68 Lo73 e72 w71 hJ69 hF74 hs70
        have hs70 : St c J68 (.blk b7 (.cells ⟨[.bool false]⟩ 4) :: .blk b4 (.cells ⟨[.int .i64 x2]⟩ 3) :: .blk b1 (.cells ⟨[.string (bs x1.ID), .bool x1.Redacted, .int .i64 x1.Err]⟩ 48) :: (L ++ Lo73)) w71 := hs70
        refine ct (nF (decide_eq_false hk26_1)) ?_
        exact ⟨Rc0, J68, (Le.refl _), rfl, trivial, hs70⟩
      · intro q26 J75 Lo80 e79 w78 hJ76 hF81 hs77
        have hs77 : St c J75 (.blk b7 (.cells ⟨[.bool false]⟩ 4) :: .blk b4 (.cells ⟨[.int .i64 x2]⟩ 3) :: .blk b1 (.cells ⟨[.string (bs x1.ID), .bool x1.Redacted, .int .i64 x1.Err]⟩ 48) :: (L ++ Lo80)) w78 := hs77
        refine ct (nF (decide_eq_false hk26_1)) ?_
        exact ⟨Rc0, J75, (Le.refl _), rfl, trivial, hs77⟩
      · intro q26 J82 Lo87 e86 w85 hJ83 hF88 hs84
        have hs84 : St c J82 (.blk b7 (.cells ⟨[.bool false]⟩ 4) :: .blk b4 (.cells ⟨[.int .i64 x2]⟩ 3) :: .blk b1 (.cells ⟨[.string (bs x1.ID), .bool x1.Redacted, .int .i64 x1.Err]⟩ 48) :: (L ++ Lo87)) w85 := hs84
        refine ct (nF (decide_eq_false hk26_1)) ?_
        exact ⟨Rc0, J82, (Le.refl _), rfl, trivial, hs84⟩
      · intro q26 J89 Lo94 e93 w92 hJ90 hF95 hs91
        have hs91 : St c J89 (.blk b7 (.cells ⟨[.bool false]⟩ 4) :: .blk b4 (.cells ⟨[.int .i64 x2]⟩ 3) :: .blk b1 (.cells ⟨[.string (bs x1.ID), .bool x1.Redacted, .int .i64 x1.Err]⟩ 48) :: (L ++ Lo94)) w92 := hs91
        refine ct (nF (decide_eq_false hk26_1)) ?_
        exact ⟨Rc0, J89, (Le.refl _), rfl, trivial, hs91⟩
      · intro q26 J96 Lo101 e100 w99 hJ97 hF102 hs98
        have hs98 : St c J96 (.blk b7 (.cells ⟨[.bool false]⟩ 4) :: .blk b4 (.cells ⟨[.int .i64 x2]⟩ 3) :: .blk b1 (.cells ⟨[.string (bs x1.ID), .bool x1.Redacted, .int .i64 x1.Err]⟩ 48) :: (L ++ Lo101)) w99 := hs98
        refine ct (nF (decide_eq_false hk26_1)) ?_
        exact ⟨Rc0, J96, (Le.refl _), rfl, trivial, hs98⟩
      · intro q26 J103 Lo108 e107 w106 hJ104 hF109 hs105
        have hs105 : St c J103 (.blk b7 (.cells ⟨[.bool false]⟩ 4) :: .blk b4 (.cells ⟨[.int .i64 x2]⟩ 3) :: .blk b1 (.cells ⟨[.string (bs x1.ID), .bool x1.Redacted, .int .i64 x1.Err]⟩ 48) :: (L ++ Lo108)) w106 := hs105
        exact ⟨Rc0, J103, (Le.refl _), (pkTe (nF (decide_eq_false hk26_1))), trivial, hs105⟩
      intro q26 J110 e114 w113 hJ111 hF115 hs112
      have hs112 : St c J110 (.blk b7 (.cells ⟨[.bool false]⟩ 4) :: .blk b4 (.cells ⟨[.int .i64 x2]⟩ 3) :: .blk b1 (.cells ⟨[.string (bs x1.ID), .bool x1.Redacted, .int .i64 x1.Err]⟩ 48) :: L) w113 := hs112
      refine barN [0, 5, 6, 7, 30, 1000000] [.slice pa0 (x0.length) pc0, .pointer (some ⟨b4, 0, none⟩), .pointer (some ⟨b7, 0, none⟩), .string (bs z20), .bool true, .tuple ⟨[]⟩] (ce rfl (ce rfl (ce rfl (ce rfl (ce rfl (ce rfl (rfl))))))) ?_
      intro e116
      refine sto 0 hs112 rfl rfl rfl ?_
      intro w117 hs118
      have hs118 : St c J110 (.blk b7 (.cells ⟨[.bool false]⟩ 4) :: .blk b4 (.cells ⟨[.int .i64 x2]⟩ 3) :: .blk b1 (.cells ⟨[.string (bs x1.ID), .bool x1.Redacted, .int .i64 x1.Err]⟩ 48) :: L) w117 := hs118
      refine bar ?_
      refine ld 0 hs118 rfl rfl rfl ?_
      obtain rfl := Option.some.inj q7
      exact k J110 w117 (hJ23.trans hJ111) (((hs118.drop 0).drop 0).drop 0)
end B
end Go.Proofs.YtdbihpobfcbmeaaDoor
