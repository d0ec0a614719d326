/- Plain laws of hosts: brackets, kinds, parts; and that the statement's function answers true. -/
import Derived.Test.YtdbihpobfcbmeaaDoorE8
set_option linter.unusedVariables false
set_option linter.unusedSimpArgs false
namespace Go.Proofs.YtdbihpobfcbmeaaDoor
namespace B
open Go Go.RowKit

def midB (s : List UInt8) : List UInt8 := (s.take (s.length - 1)).drop 1
def brB (s : List UInt8) : Bool := decide (2 ≤ s.length) && decide (s.getD 0 0 = 91) && decide (s.getD (s.length - 1) 0 = 93) && progB (midB s)
theorem subS_mid (s : List UInt8) (h : 1 ≤ s.length) (hl : s.length ≤ 100000000) : subS s (1 : Int) (IntKind.i64.wrap ((s.length : Int) - (1 : Int))) = midB s := by
  rw [wlen1 _ h (by omega)]; rfl
theorem mid_len (s : List UInt8) : (midB s).length = s.length - 1 - 1 := by rw [midB, List.length_drop, List.length_take]; omega
theorem grp_le (t : List UInt8) : grp t ≤ (t.length : Int) + 1 := by
  obtain ⟨a1, a2, a3⟩ := grp_nn t
  by_cases h : 0 ≤ grp t
  · have h1 := a2 h
    have h2 := cEG (sp 58 t)
    have h3 := sp_le 58 t
    omega
  · omega
theorem brackets_p (s : List UInt8) (hl : s.length ≤ 10000000) : p_host_brackets s = some (brB s) := by
  unfold p_host_brackets brB
  by_cases h2 : (s.length : Int) < 2
  · rw [if_pos h2, decide_eq_false (by omega)]; rfl
  rw [if_neg h2, if_pos (by omega), decide_eq_true (by omega), Bool.true_and]
  by_cases h3 : s.getD 0 0 = 91
  · rw [if_pos (by show (((s.getD 0 0).toNat : Nat) : Int) = 91; rw [h3]; rfl), decide_eq_true h3, Bool.true_and]
    have hm := subS_mid s (by omega) (by omega)
    have hw := wlen1 s.length (by omega) (by omega)
    rw [hm, hw, if_pos (by omega), Int.toNat_natCast]
    by_cases h4 : s.getD (s.length - 1) 0 = 93
    · rw [if_pos (by rw [h4]; rfl), decide_eq_true h4, Bool.true_and, if_pos (by omega)]
      have hml := mid_len s
      have hcl : (Lib.cut (midB s) [58, 58]).1.length ≤ (midB s).length ∧ (Lib.cut (midB s) [58, 58]).2.1.length ≤ (midB s).length := by
        unfold Lib.cut; split
        · simp; omega
        · simp
      unfold p_strings_Cut
      rw [if_pos (by omega), Option.bind_some, groups_p _ (by omega), Option.bind_some, groups_p _ (by omega), Option.bind_some, progB]
      have hc3 := cut_spec (midB s)
      generalize Lib.cut (midB s) [58, 58] = c at *
      obtain ⟨a, b, two⟩ := c
      dsimp only at *
      have ga := grp_le a
      have gb := grp_le b
      have ga2 : -1 ≤ grp a := by have := (grp_nn a).2.2; by_cases h : grp a < 0; have := this h; omega; omega
      have gb2 : -1 ≤ grp b := by have := (grp_nn b).2.2; by_cases h : grp b < 0; have := this h; omega; omega
      by_cases g1 : grp a < 0
      · rw [if_pos g1, decide_eq_false (show ¬ 0 ≤ grp a by omega)]; rfl
      rw [if_neg g1, decide_eq_true (show 0 ≤ grp a by omega), Bool.true_and]
      by_cases g2 : grp b < 0
      · rw [if_pos g2, decide_eq_false (show ¬ 0 ≤ grp b by omega)]; rfl
      rw [if_neg g2, decide_eq_true (show 0 ≤ grp b by omega), Bool.true_and, w64 (n := grp a + grp b) (by omega) (by omega)]
      cases two with
      | true =>
        rw [if_pos rfl, if_pos rfl]
        by_cases g3 : grp a + grp b ≤ 7
        · rw [if_pos g3, decide_eq_true g3]
        · rw [if_neg g3, decide_eq_false g3]; rfl
      | false => rfl
    · have h4' : ¬ (((s.getD (s.length - 1) 0).toNat : Nat) : Int) = 93 := fun e => h4 ((byte_eq (n := 93) (by decide)).1 e)
      rw [if_neg h4', decide_eq_false h4]; rfl
  · have h3' : ¬ (((s.getD (0 : Int).toNat 0).toNat : Nat) : Int) = 91 := fun e => h3 ((byte_eq (n := 91) (by decide)).1 e)
    rw [if_neg h3', decide_eq_false h3]; rfl
theorem mst_le2 (x : List UInt8) : ¬ ((2 : Int) < ((mst x 0 : Nat) : Int)) ↔ x.all isH = true := by rw [← mst_H x]; omega
theorem rbr_b2 (s : List UInt8) (hl : s.length ≤ 10000000) (h2 : 4 ≤ s.length) : loopO (fun (q : Int × Int × Int) => p_ref27_brackets_b2 s ((dbl (midB s) : Nat) : Int) (sp 58 (midB s)) q.1 q.2.1 q.2.2) ((0 : Int), (0 : Int), (0 : Int)) = some (refB (midB s)) := by
  have hm := subS_mid s (by omega) (by omega)
  have hml := mid_len s
  have hle := sp_le 58 (midB s)
  have hmx := sp_mem_le 58 (midB s)
  have hR := refB
  rw [refB]
  have hcEG := cEG (sp 58 (midB s))
  generalize ht : midB s = t at *
  generalize hxs : sp 58 t = xs at *
  refine loopO_inv (fun st => ∃ (g e i : Nat), st = ((g : Int), (e : Int), (i : Int)) ∧ i ≤ xs.length ∧ (xs.drop i).all okE = xs.all okE ∧ g + cG (xs.drop i) = cG xs ∧ e + cE (xs.drop i) = cE xs) (fun st => xs.length - st.2.2.toNat) ⟨0, 0, 0, rfl, Nat.zero_le _, rfl, by simp, by simp⟩ (by simp; omega) ?_
  rintro st ⟨g, e, i, rfl, hi, h1, hg, he⟩
  dsimp only
  unfold p_ref27_brackets_b2
  by_cases h : i < xs.length
  · rw [if_pos (by omega), getI_nat, List.getElem?_eq_getElem h, Option.bind_some]
    have hxl := hmx xs[i] (List.getElem_mem h)
    rw [getD_of h] at h1 hg he
    rw [List.all_cons] at h1
    rw [cG] at hg
    rw [cE] at he
    generalize xs[i] = x at h1 hg he hxl ⊢
    by_cases hx : x = []
    · left
      rw [if_pos hx] at hg he
      rw [if_pos hx, wsucc _ (by omega), wsucc _ (by omega)]
      rw [hx, show okE [] = true from rfl, Bool.true_and] at h1
      exact ⟨_, rfl, ⟨g, e + 1, i + 1, rfl, by omega, h1, by omega, by omega⟩, by simp only [Int.toNat_natCast]; omega⟩
    · rw [if_neg hx] at hg he
      rw [if_neg hx, Option.bind_some]
      have bad : ¬ okG x = true → xs.all okE = false := fun hb => by rw [← h1, okE, decide_eq_false hx, Bool.eq_false_iff.2 hb]; rfl
      by_cases g1 : (4 : Int) < x.length
      · right; rw [if_pos g1, bad (fun hh => by have := (okG_iff x).1 hh; omega)]; rfl
      rw [if_neg g1, Option.bind_some, most_p x (by omega), Option.bind_some]
      by_cases g2 : (2 : Int) < ((mst x 0 : Nat) : Int)
      · right; rw [if_pos g2, bad (fun hh => (mst_le2 x).2 ((okG_iff x).1 hh).2.2 g2)]; rfl
      · left
        have hxp : 1 ≤ x.length := by
          cases x with
          | nil => exact absurd rfl hx
          | cons _ _ => simp
        have hok : okE x = true := by rw [okE, (okG_iff x).2 ⟨hxp, by omega, (mst_le2 x).1 g2⟩]; simp
        rw [hok, Bool.true_and] at h1
        rw [if_neg g2, wsucc _ (by omega), wsucc _ (by omega)]
        exact ⟨_, rfl, ⟨g + 1, e, i + 1, rfl, by omega, h1, by omega, by omega⟩, by simp only [Int.toNat_natCast]; omega⟩
  · right
    rw [List.drop_eq_nil_of_le (by omega)] at h1 hg he
    simp only [cG, cE, Nat.add_zero] at hg he
    rw [if_neg (by omega), ← h1, hm]
    rw [List.all_nil, Bool.true_and]
    subst hg; subst he
    by_cases hd : dbl t = 0
    · rw [if_pos (by omega), if_pos hd]
      by_cases g8 : cG xs = 8
      · rw [if_pos (by omega), decide_eq_true g8, Bool.true_and]
        show some (Sum.inr _) = _
        congr 2
        exact decide_eq_decide.2 (by omega)
      · rw [if_neg (by omega), decide_eq_false g8]; rfl
    · rw [if_neg (by omega), if_neg hd, if_pos (by omega)]
      have j2 : ∀ w : Nat, p_ref27_brackets_j2 ((dbl t : Nat) : Int) ((cG xs : Nat) : Int) ((cE xs : Nat) : Int) ((w : Nat) : Int) = some (decide (dbl t = 1) && decide (cE xs = w) && decide (cG xs ≤ 7)) := by
        intro w
        unfold p_ref27_brackets_j2
        by_cases a : dbl t = 1
        · rw [if_pos (by omega), decide_eq_true a, Bool.true_and]
          by_cases b : cE xs = w
          · rw [if_pos (by omega), decide_eq_true b, Bool.true_and]
            congr 1
            exact decide_eq_decide.2 (by omega)
          · rw [if_neg (by omega), decide_eq_false b]; rfl
        · rw [if_neg (by omega), decide_eq_false a]; rfl
      have j1 : ∀ w : Nat, w ≤ 10 → p_ref27_brackets_j1 s ((dbl t : Nat) : Int) ((cG xs : Nat) : Int) ((cE xs : Nat) : Int) ((w : Nat) : Int) = some (decide (dbl t = 1) && decide (cE xs = w + (if t.drop (t.length - 2) = [58, 58] then 1 else 0)) && decide (cG xs ≤ 7)) := by
        intro w hw
        unfold p_ref27_brackets_j1
        have hs2 : IntKind.i64.wrap ((t.length : Int) - (2 : Int)) = ((t.length - 2 : Nat) : Int) := by rw [w64 (by omega) (by omega)]; omega
        rw [hm, hs2, if_pos (by omega), subS_all]
        by_cases a : t.drop (t.length - 2) = [58, 58]
        · rw [if_pos a, wsucc _ (by omega), j2, if_pos a]
        · rw [if_neg a, j2, if_neg a]; rfl
      have e2 : subS t (0 : Int) (2 : Int) = t.take 2 := rfl
      rw [e2]
      by_cases a : t.take 2 = [58, 58]
      · rw [if_pos a, show IntKind.i64.wrap ((1 : Int) + (1 : Int)) = ((2 : Nat) : Int) from rfl, j1 2 (by decide), wantI, if_pos a]; rfl
      · rw [if_neg a, show (1 : Int) = ((1 : Nat) : Int) from rfl, j1 1 (by decide), wantI, if_neg a]; rfl
end B
end Go.Proofs.YtdbihpobfcbmeaaDoor
