/- Plain laws of hosts: what stands in brackets, third part: the two agree. -/
import Derived.Test.YtdbihpobfcbmeaaDoorE7
set_option linter.unusedVariables false
set_option linter.unusedSimpArgs false
namespace Go.Proofs.YtdbihpobfcbmeaaDoor
namespace B
open Go Go.RowKit

def wantI (t : List UInt8) : Nat := 1 + (if t.take 2 = [58, 58] then 1 else 0) + (if t.drop (t.length - 2) = [58, 58] then 1 else 0)
def refB (t : List UInt8) : Bool := (sp 58 t).all okE && (if dbl t = 0 then decide (cG (sp 58 t) = 8) && decide (cE (sp 58 t) = 0) else decide (dbl t = 1) && decide (cE (sp 58 t) = wantI t) && decide (cG (sp 58 t) ≤ 7))
def progB (t : List UInt8) : Bool := let c := Lib.cut t [58, 58]
  decide (0 ≤ grp c.1) && decide (0 ≤ grp c.2.1) && (if c.2.2 = true then decide (grp c.1 + grp c.2.1 ≤ 7) else decide (grp c.1 + grp c.2.1 = 8))
theorem cut_spec (t : List UInt8) : (Lib.cut t [58, 58] = (t, [], false) ∧ dbl t = 0) ∨ ∃ a b, t = a ++ 58 :: 58 :: b ∧ Lib.cut t [58, 58] = (a, b, true) ∧ dbl (a ++ [58]) = 0 := by
  rcases index_spec t [58, 58] with ⟨h1, h2⟩ | ⟨i, h1, h2, h3, h4⟩
  · left
    refine ⟨?_, dbl_none t h2⟩
    rw [Lib.cut, if_neg (by omega)]
  · right
    refine ⟨t.take i, t.drop (i + 2), h3, ?_, ?_⟩
    · rw [Lib.cut, if_pos (by omega), h1, Int.toNat_natCast]; rfl
    · cases hd : dbl (t.take i ++ [58]) with
      | zero => rfl
      | succ n =>
        obtain ⟨u, v, e⟩ := dbl_pos (t.take i ++ [58]) (by omega)
        have h5 : t = (t.take i ++ [58]) ++ 58 :: t.drop (i + 2) := h3.trans (by simp)
        have := h4 u (v ++ 58 :: t.drop (i + 2)) (h5.trans (by rw [e]; simp))
        have hl := congrArg List.length e
        simp at hl h2
        omega
theorem take2 (a b : List UInt8) (h : dbl (a ++ [58]) = 0) : ((a ++ 58 :: 58 :: b).take 2 = [58, 58]) ↔ a = [] := by
  constructor
  · intro h2
    match a, h, h2 with
    | [], _, _ => rfl
    | [x], h, h2 => simp at h2; subst h2; simp [dbl] at h
    | x :: y :: a, h, h2 => simp at h2; obtain ⟨rfl, rfl⟩ := h2; simp [dbl] at h
  · rintro rfl; rfl
theorem drop2 (a b : List UInt8) (h : dbl (58 :: b) = 0) : ((a ++ 58 :: 58 :: b).drop ((a ++ 58 :: 58 :: b).length - 2) = [58, 58]) ↔ b = [] := by
  constructor
  · intro h2
    have e : a ++ 58 :: 58 :: b = (a ++ 58 :: 58 :: b).take ((a ++ 58 :: 58 :: b).length - 2) ++ [58, 58] := by
      conv => lhs; rw [← List.take_append_drop ((a ++ 58 :: 58 :: b).length - 2) (a ++ 58 :: 58 :: b), h2]
    rcases List.eq_nil_or_concat b with rfl | ⟨q, x, rfl⟩
    · rfl
    · exfalso
      simp only [List.concat_eq_append] at *
      generalize (a ++ 58 :: 58 :: (q ++ [x])).take ((a ++ 58 :: 58 :: (q ++ [x])).length - 2) = w at e
      rw [show a ++ 58 :: 58 :: (q ++ [x]) = (a ++ 58 :: 58 :: q) ++ [x] by simp, show w ++ [58, 58] = (w ++ [58]) ++ [58] by simp] at e
      obtain ⟨e1, e2⟩ := List.append_inj' e rfl
      have hx : x = 58 := by simpa using e2
      subst hx
      rw [show a ++ 58 :: 58 :: q = (a ++ [58]) ++ (58 :: q) by simp] at e1
      have hl : (58 :: q).getLast? = some 58 := by
        have := congrArg List.getLast? e1
        rw [List.getLast?_append, List.getLast?_append] at this
        cases hq : (58 :: q).getLast? with
        | none => simp at hq
        | some y => rw [hq] at this; simpa using this
      have h3 := dbl_snoc (58 :: q)
      rw [List.cons_append, h, hl] at h3
      simp at h3
  · rintro rfl
    rw [show a ++ [58, 58] = a ++ [58, 58] from rfl, List.length_append]
    show (a ++ [58, 58]).drop (a.length + 2 - 2) = _
    rw [Nat.add_sub_cancel, List.drop_left]
theorem agree (t : List UInt8) (h2 : t ≠ []) : progB t = refB t := by
  rw [Bool.eq_iff_iff]
  rcases cut_spec t with ⟨hc, hd⟩ | ⟨a, b, rfl, hc, ha⟩
  · rw [progB, hc, refB, hd]
    obtain ⟨g1, g2, g3⟩ := grp_nn t
    have he : grp [] = 0 := rfl
    simp only [he, Bool.and_eq_true, decide_eq_true_eq, if_true, Bool.false_eq_true, if_false]
    constructor
    · rintro ⟨⟨h3, _⟩, h4⟩
      have h5 := g1.1 h3
      have h6 := g2 h3
      exact ⟨h5.1, by omega, h5.2.resolve_left h2⟩
    · rintro ⟨h3, h4, h5⟩
      have h6 := g1.2 ⟨h3, .inr h5⟩
      have h7 := g2 h6
      exact ⟨⟨h6, Int.le_refl _⟩, by omega⟩
  · have hda := dbl_app a b
    have hsp : sp 58 (a ++ 58 :: 58 :: b) = sp 58 a ++ [] :: sp 58 b := by rw [sp_app, sp, if_pos rfl]
    have hG : cG (sp 58 (a ++ 58 :: 58 :: b)) = cG (sp 58 a) + cG (sp 58 b) := by rw [hsp, cG_app, cG]; simp
    have hE : cE (sp 58 (a ++ 58 :: 58 :: b)) = cE (sp 58 a) + 1 + cE (sp 58 b) := by rw [hsp, cE_app, cE]; simp; omega
    have hA : (sp 58 (a ++ 58 :: 58 :: b)).all okE = ((sp 58 a).all okE && (sp 58 b).all okE) := by rw [hsp, List.all_append, List.all_cons]; rfl
    obtain ⟨a1, a2, a3⟩ := grp_nn a
    obtain ⟨b1, b2, b3⟩ := grp_nn b
    have ea := cE_sp a
    have eb := cE_sp b
    have hsn := dbl_snoc a
    have hbc := dbl_cons b
    have hP : progB (a ++ 58 :: 58 :: b) = (decide (0 ≤ grp a) && decide (0 ≤ grp b) && decide (grp a + grp b ≤ 7)) := by rw [progB, hc]; rfl
    have hR : refB (a ++ 58 :: 58 :: b) = (((sp 58 a).all okE && (sp 58 b).all okE) && (decide (dbl (a ++ 58 :: 58 :: b) = 1) && decide (cE (sp 58 a) + 1 + cE (sp 58 b) = wantI (a ++ 58 :: 58 :: b)) && decide (cG (sp 58 a) + cG (sp 58 b) ≤ 7))) := by
      rw [refB, hG, hE, hA, if_neg (by omega)]
    rw [hP, hR]
    simp only [Bool.and_eq_true, decide_eq_true_eq, if_true]
    by_cases hb0 : dbl (58 :: b) = 0
    · have hw : wantI (a ++ 58 :: 58 :: b) = 1 + (if a = [] then 1 else 0) + (if b = [] then 1 else 0) := by
        unfold wantI
        congr 1
        · congr 1
          by_cases h : a = []
          · rw [if_pos h, if_pos ((take2 a b ha).2 h)]
          · rw [if_neg h, if_neg (fun e => h ((take2 a b ha).1 e))]
        · by_cases h : b = []
          · rw [if_pos h, if_pos ((drop2 a b hb0).2 h)]
          · rw [if_neg h, if_neg (fun e => h ((drop2 a b hb0).1 e))]
      rw [hw]
      have ka : (a = [] ∨ cE (sp 58 a) = 0) ↔ cE (sp 58 a) = if a = [] then 1 else 0 := by
        by_cases h : a = []
        · subst h; simp [sp, cE]
        · simp [h]
      have la : cE (sp 58 a) = (if a = [] then 1 else 0) ∨ cE (sp 58 a) = (if a = [] then 1 else 0) + 1 := by
        by_cases h : a = []
        · subst h; left; simp [sp, cE]
        · rw [if_neg h]
          simp only [h, false_or] at ea
          have h1 : dbl a = 0 := by omega
          have h3 : (if a.getLast? = some 58 then 1 else 0) = 0 := by omega
          rw [h1, h3] at ea
          by_cases hh : a.head? = some 58
          · right; rw [ea, if_pos hh]
          · left; rw [ea, if_neg hh]
      have kb : (b = [] ∨ cE (sp 58 b) = 0) ↔ cE (sp 58 b) = if b = [] then 1 else 0 := by
        by_cases h : b = []
        · subst h; simp [sp, cE]
        · simp [h]
      have lb : cE (sp 58 b) = (if b = [] then 1 else 0) ∨ cE (sp 58 b) = (if b = [] then 1 else 0) + 1 := by
        by_cases h : b = []
        · subst h; left; simp [sp, cE]
        · rw [if_neg h]
          simp only [h, false_or] at eb
          have h1 : dbl b = 0 := by omega
          have h3 : (if b.head? = some 58 then 1 else 0) = 0 := by omega
          rw [h1, h3] at eb
          by_cases hh : b.getLast? = some 58
          · right; rw [eb, if_pos hh]
          · left; rw [eb, if_neg hh]
      rw [ka] at a1
      rw [kb] at b1
      generalize (if a = [] then 1 else 0) = za at *
      generalize (if b = [] then 1 else 0) = zb at *
      constructor
      · rintro ⟨⟨h3, h4⟩, h5⟩
        have q1 := a1.1 h3; have q2 := b1.1 h4; have := a2 h3; have := b2 h4
        exact ⟨⟨q1.1, q2.1⟩, ⟨by omega, by omega⟩, by omega⟩
      · rintro ⟨⟨h3, h4⟩, ⟨⟨h5, h6⟩, h7⟩⟩
        have h8 := a1.2 ⟨h3, by omega⟩
        have h9 := b1.2 ⟨h4, by omega⟩
        have := a2 h8; have := b2 h9
        exact ⟨⟨h8, h9⟩, by omega⟩
    · constructor
      · rintro ⟨⟨h3, h4⟩, h5⟩
        exfalso
        have h6 := b1.1 h4
        rcases h6.2 with rfl | h7
        · simp [dbl] at hb0
        · rw [eb] at h7
          by_cases hbn : b = []
          · subst hbn; simp [dbl] at hb0
          · simp only [hbn, false_or] at h7; omega
      · rintro ⟨_, ⟨⟨h5, _⟩, _⟩⟩
        omega
end B
end Go.Proofs.YtdbihpobfcbmeaaDoor
