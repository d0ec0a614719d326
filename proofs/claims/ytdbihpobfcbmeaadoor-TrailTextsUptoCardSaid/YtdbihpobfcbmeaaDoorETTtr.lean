/- Plain laws of ways' texts: TrailTexts. -/
import Derived.Test.YtdbihpobfcbmeaaDoorGTT
import Derived.Test.YtdbihpobfcbmeaaDoorPM
set_option linter.unusedVariables false
set_option linter.unusedSimpArgs false
namespace Go.Proofs.YtdbihpobfcbmeaaDoor
namespace B
open Go Go.RowKit

theorem repl_p (s old new : List UInt8) (h : s.length ≤ 1000000000) (ho : 1 ≤ old.length) (hn : new.length ≤ 2) : p_strings_ReplaceAll s old new = some (Lib.replaceAll s old new) := by
  unfold p_strings_ReplaceAll
  rw [if_pos]
  have := Nat.mul_le_mul_left (s.length + 1) hn
  exact ⟨by omega, ho, by omega⟩
theorem rep_len (s old new : List UInt8) (hn : new.length ≤ 2) : (Lib.replaceAll s old new).length ≤ 3 * s.length + 2 := by
  have h1 := replaceAll_len s old new
  have := Nat.mul_le_mul_left (s.length + 1) hn
  omega
theorem trailWrite_p (x0 : List (List UInt8)) (hl : x0.length ≤ 1000000) (ht : tot x0 ≤ 100000000) : p_trail_Write x0 = some (wayS x0) := by
  have hw := wayS_len x0
  unfold p_trail_Write
  refine loopO_inv (fun st => ∃ i : Nat, i ≤ x0.length ∧ st = ((i : Int), wayS (x0.take i))) (fun st => x0.length - st.1.toNat) ⟨0, Nat.zero_le _, by simp [wayS]⟩ (by simp; omega) ?_
  rintro st ⟨i, hi, rfl⟩
  dsimp only
  unfold p_trail_Write_b1
  by_cases hlt : i < x0.length
  · left
    have hx : x0[i]? = some x0[i] := List.getElem?_eq_getElem hlt
    have hxl : (x0[i]).length ≤ tot x0 := tot_mem (List.mem_of_getElem? hx)
    have hT : wayS (x0.take (i + 1)) = wayS (x0.take i) ++ (47 :: escB x0[i]) := by rw [take_at hx, wayS_snoc]
    have hle := wayS_take_le x0 (i + 1)
    have he := escB_len x0[i]
    have hr := rep_len x0[i] [126] [126, 48] (by simp)
    rw [hT] at hle
    rw [if_pos (by omega), getI_nat, hx, Option.bind_some, repl_p _ _ _ (by omega) (by simp) (by simp), Option.bind_some, repl_p _ _ _ (by omega) (by simp) (by simp), Option.bind_some, esc_two,
      if_pos (by simp only [List.length_cons, List.length_nil]; omega), if_pos (by simp only [List.length_append, List.length_cons, List.length_nil] at hle ⊢; omega), wsucc _ (by omega)]
    refine ⟨_, rfl, ⟨i + 1, by omega, ?_⟩, by simp only [Int.toNat_natCast]; omega⟩
    rw [hT]; rfl
  · right
    rw [if_neg (by omega)]
    obtain rfl : i = x0.length := by omega
    rw [List.take_of_length_le (Nat.le_refl _), if_pos (by omega)]; rfl
theorem trailRead_p (t : List UInt8) (h : t.length ≤ 10000000) : p_trail_Read t = some (readS t) := by
  unfold p_trail_Read
  cases t with
  | nil => rfl
  | cons c r =>
    simp only [List.length_cons] at h
    rw [if_neg (by simp), if_pos (by simp only [List.length_cons]; omega)]
    by_cases hc : c = 47
    · subst hc
      rw [if_pos (by rfl), if_pos (by simp only [List.length_cons]; omega)]
      have hsub : subS (47 :: r) (1 : Int) (((47 :: r : List UInt8).length : Nat) : Int) = r := by
        simp [subS]
      rw [hsub]
      unfold p_strings_Split
      rw [if_pos ⟨rfl, by omega⟩, Option.bind_some, show ([47] : List UInt8).getD 0 0 = 47 from rfl]
      have hsl : (sp 47 r).length ≤ r.length + 1 := by
        rw [sp_len]; have := @List.count_le_length _ _ (47 : UInt8) r; omega
      refine loopO_inv (fun st => ∃ (i : Nat) (l : List (List UInt8)), i ≤ (sp 47 r).length ∧ st = (l, (i : Int)) ∧ l.length = i ∧ decAll (sp 47 r) = (decAll ((sp 47 r).drop i)).map (l ++ ·)) (fun st => (sp 47 r).length - st.2.toNat)
        ⟨0, [], Nat.zero_le _, rfl, rfl, by cases h2 : decAll (sp 47 r) <;> simp [h2]⟩ (by simp; omega) ?_
      rintro st ⟨i, l, hi, rfl, hl, hd⟩
      dsimp only
      unfold p_trail_Read_b1
      by_cases hlt : i < (sp 47 r).length
      · have hx : (sp 47 r)[i]? = some (sp 47 r)[i] := List.getElem?_eq_getElem hlt
        obtain ⟨hpl, hp47⟩ := sp_mem 47 r _ (List.mem_of_getElem? hx)
        generalize (sp 47 r)[i] = p at hx hpl hp47
        have h1 := rep_len p [126, 49] [47] (by simp)
        have h2 := rep_len (Lib.replaceAll p [126, 49] [47]) [126, 48] [126] (by simp)
        rw [if_pos (by omega), getI_nat, hx, Option.bind_some, repl_p _ _ _ (by omega) (by simp) (by simp), Option.bind_some, repl_p _ _ _ (by omega) (by simp) (by simp), Option.bind_some,
          trailWrite_p _ (by simp) (by simp [tot]; omega), Option.bind_some, if_pos (by simp only [List.length_cons, List.length_nil]; omega)]
        rw [drop_at hx, decAll_cons] at hd
        cases hp : dec p with
        | some n =>
          left
          obtain rfl := esc_dec p.length p n (Nat.le_refl _) hp hp47
          rw [unesc_two, if_pos (by simp [wayS]), if_pos (by simp; omega), wsucc _ (by omega)]
          refine ⟨_, rfl, ⟨i + 1, _, hlt, rfl, by simp [hl], ?_⟩, by simp only [Int.toNat_natCast]; omega⟩
          rw [hd, dec_esc]
          simp only [Option.bind_some]
          cases decAll ((sp 47 r).drop (i + 1)) <;> simp
        | none =>
          right
          rw [if_neg]
          · rw [hp] at hd
            rw [readS, if_pos rfl, hd]; rfl
          · intro e
            simp only [wayS, List.flatMap_cons, List.flatMap_nil, List.append_nil, List.singleton_append, List.cons.injEq, true_and] at e
            rw [← e, dec_esc] at hp; cases hp
      · right
        rw [if_neg (by omega)]
        obtain rfl : i = (sp 47 r).length := by omega
        rw [List.drop_of_length_le (Nat.le_refl _)] at hd
        rw [readS, if_pos rfl, hd]
        simp [decAll]
    · rw [if_neg, readS, if_neg hc]
      intro e
      exact hc (UInt8.toNat_inj.1 (by simp at e ⊢; omega))
theorem refOne_p (s : List UInt8) (h : s.length ≤ 1000000000) : p_ref08_one s = some (47 :: escB s) := by
  unfold p_ref08_one
  refine loopO_inv (fun st => ∃ i : Nat, i ≤ s.length ∧ st = (47 :: escB (s.take i), (i : Int))) (fun st => s.length - st.2.toNat) ⟨0, Nat.zero_le _, by simp [escB]⟩ (by simp; omega) ?_
  rintro st ⟨i, hi, rfl⟩
  dsimp only
  unfold p_ref08_one_b1
  by_cases hlt : i < s.length
  · left
    have hx : s[i]? = some s[i] := List.getElem?_eq_getElem hlt
    have hgd : s.getD i 0 = s[i] := by rw [List.getD_eq_getElem?_getD, hx]; rfl
    have hT : escB (s.take (i + 1)) = escB (s.take i) ++ (if s[i] = 126 then [126, 48] else if s[i] = 47 then [126, 49] else [s[i]]) := by
      rw [take_at hx]; unfold escB; rw [List.flatMap_append, List.flatMap_cons, List.flatMap_nil, List.append_nil]
    have hel := escB_len (s.take i)
    rw [List.length_take] at hel
    rw [if_pos (by omega), if_pos (by omega), Int.toNat_natCast, hgd]
    by_cases h1 : s[i] = 126
    · rw [if_pos (by rw [h1]; rfl), if_pos (by simp only [List.length_cons, List.length_nil]; omega), wsucc _ (by omega)]
      refine ⟨_, rfl, ⟨i + 1, by omega, ?_⟩, by simp only [Int.toNat_natCast]; omega⟩
      rw [hT, if_pos h1]; rfl
    · rw [if_neg (by intro e; exact h1 (UInt8.toNat_inj.1 (by simp at e ⊢; omega)))]
      by_cases h2 : s[i] = 47
      · rw [if_pos (by rw [h2]; rfl), if_pos (by simp only [List.length_cons, List.length_nil]; omega), wsucc _ (by omega)]
        refine ⟨_, rfl, ⟨i + 1, by omega, ?_⟩, by simp only [Int.toNat_natCast]; omega⟩
        rw [hT, if_neg h1, if_pos h2]; rfl
      · have hsub : subS s ((i : Nat) : Int) ((i + 1 : Nat) : Int) = [s[i]] := by
          simp only [subS, Int.toNat_natCast]
          rw [take_at hx, List.drop_append_of_le_length (by simp; omega), List.drop_eq_nil_of_le (by simp; omega)]; rfl
        rw [if_neg (by intro e; exact h2 (UInt8.toNat_inj.1 (by simp at e ⊢; omega))), wsucc _ (by omega), hsub, if_pos (by omega), if_pos (by simp only [List.length_cons, List.length_nil]; omega)]
        refine ⟨_, rfl, ⟨i + 1, by omega, ?_⟩, by simp only [Int.toNat_natCast]; omega⟩
        rw [hT, if_neg h1, if_neg h2]; rfl
  · right
    rw [if_neg (by omega)]
    obtain rfl : i = s.length := by omega
    rw [List.take_of_length_le (Nat.le_refl _)]; rfl
theorem refWrite_p (x0 : List (List UInt8)) (hl : x0.length ≤ 1000000) (ht : tot x0 ≤ 100000000) : p_ref08_Write x0 = some (wayS x0) := by
  have hw := wayS_len x0
  unfold p_ref08_Write
  refine loopO_inv (fun st => ∃ i : Nat, i ≤ x0.length ∧ st = (wayS (x0.take i), (i : Int))) (fun st => x0.length - st.2.toNat) ⟨0, Nat.zero_le _, by simp [wayS]⟩ (by simp; omega) ?_
  rintro st ⟨i, hi, rfl⟩
  dsimp only
  unfold p_ref08_Write_b1
  by_cases hlt : i < x0.length
  · left
    have hx : x0[i]? = some x0[i] := List.getElem?_eq_getElem hlt
    have hxl : (x0[i]).length ≤ tot x0 := tot_mem (List.mem_of_getElem? hx)
    have hT : wayS (x0.take (i + 1)) = wayS (x0.take i) ++ (47 :: escB x0[i]) := by rw [take_at hx, wayS_snoc]
    have hle := wayS_take_le x0 (i + 1)
    rw [hT] at hle
    rw [if_pos (by omega), getI_nat, hx, Option.bind_some, refOne_p _ (by omega), Option.bind_some,
      if_pos (by simp only [List.length_append, List.length_cons] at hle ⊢; omega), wsucc _ (by omega)]
    refine ⟨_, rfl, ⟨i + 1, by omega, ?_⟩, by simp only [Int.toNat_natCast]; omega⟩
    rw [hT]
  · right
    rw [if_neg (by omega)]
    obtain rfl : i = x0.length := by omega
    rw [List.take_of_length_le (Nat.le_refl _)]; rfl
end B
end Go.Proofs.YtdbihpobfcbmeaaDoor
