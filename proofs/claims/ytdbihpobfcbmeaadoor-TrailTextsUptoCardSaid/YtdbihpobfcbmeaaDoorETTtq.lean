/- Plain law of TrailTexts. -/
import Derived.Test.YtdbihpobfcbmeaaDoorETTtr
set_option linter.unusedVariables false
set_option linter.unusedSimpArgs false
namespace Go.Proofs.YtdbihpobfcbmeaaDoor
namespace B
open Go Go.RowKit

theorem beq8 (a : UInt8) (n : Nat) (hn : n < 256) : ((a.toNat : Nat) : Int) = ((n : Nat) : Int) ↔ a = UInt8.ofNat n := by
  constructor
  · intro e; exact UInt8.toNat_inj.1 (by rw [UInt8.toNat_ofNat']; omega)
  · rintro rfl; rw [UInt8.toNat_ofNat']; omega
theorem refRead_p (t : List UInt8) (h : t.length ≤ 10000000) : p_ref08_Read t = some (readS t) := by
  unfold p_ref08_Read
  refine loopO_inv (fun st => ∃ (l : List (List UInt8)) (cur : List UInt8) (i : Nat), st = (l, cur, (i : Int)) ∧ i ≤ t.length ∧ l.length ≤ i ∧ cur.length ≤ i ∧ ((i = 0 ∧ l = [] ∧ cur = []) ∨ (0 < i ∧ refGo (t.drop i) cur l = readS t))) (fun st => t.length - st.2.2.toNat)
    ⟨[], [], 0, rfl, Nat.zero_le _, Nat.le_refl _, Nat.le_refl _, .inl ⟨rfl, rfl, rfl⟩⟩ (by simp; omega) ?_
  rintro st ⟨l, cur, i, rfl, hi, hl, hc, hI⟩
  dsimp only
  unfold p_ref08_Read_b1
  by_cases hlt : i < t.length
  · have hx : t[i]? = some t[i] := List.getElem?_eq_getElem hlt
    have hgd : t.getD i 0 = t[i] := by rw [List.getD_eq_getElem?_getD, hx]; rfl
    have hdr := drop_at hx
    rw [if_pos (by omega)]
    rcases hI with ⟨rfl, rfl, rfl⟩ | ⟨h0, hG⟩
    · rw [if_pos (by omega), if_pos (by omega), Int.toNat_natCast, hgd]
      rw [List.drop_zero] at hdr
      by_cases h47 : t[0] = 47
      · left
        rw [if_pos (by rw [h47]; rfl)]
        unfold p_ref08_Read_j1
        rw [if_pos (by omega), Int.toNat_natCast, hgd, if_pos (by rw [h47]; rfl), if_neg (by omega)]
        unfold p_ref08_Read_j2
        rw [if_pos (by omega), Int.toNat_natCast, hgd, if_pos (by rw [h47]; rfl), wsucc _ (by omega)]
        refine ⟨_, rfl, ⟨[], [], 1, rfl, hlt, by simp, by simp, .inr ⟨by omega, ?_⟩⟩, by simp only [Int.toNat_natCast]; omega⟩
        conv => rhs; rw [hdr, h47]
        rw [readS_go]
      · right
        rw [if_neg (by intro e; exact h47 (UInt8.toNat_inj.1 (by simp at e ⊢; omega)))]
        conv => rhs; rw [hdr]
        rw [readS, if_neg h47]; rfl
    · rw [if_neg (by omega)]
      unfold p_ref08_Read_j1
      rw [if_pos (by omega), Int.toNat_natCast, hgd]
      by_cases h47 : t[i] = 47
      · left
        rw [if_pos (by rw [h47]; rfl), if_pos (by omega), if_pos (by simp only [List.length_cons, List.length_nil]; omega)]
        unfold p_ref08_Read_j2
        rw [if_pos (by omega), Int.toNat_natCast, hgd, if_pos (by rw [h47]; rfl), wsucc _ (by omega)]
        refine ⟨_, rfl, ⟨_, _, i + 1, rfl, hlt, by simp; omega, by simp, .inr ⟨by omega, ?_⟩⟩, by simp only [Int.toNat_natCast]; omega⟩
        rw [← hG, hdr, h47]
        cases hd : t.drop (i + 1) with
        | nil => simp [refGo]
        | cons d r => rw [refGo, if_pos rfl]
      · have n47 : ¬ ((t[i].toNat : Nat) : Int) = (47 : Int) := by intro e; exact h47 (UInt8.toNat_inj.1 (by simp at e ⊢; omega))
        rw [if_neg n47]
        unfold p_ref08_Read_j2
        rw [if_pos (by omega), Int.toNat_natCast, hgd, if_neg n47]
        by_cases h126 : t[i] = 126
        · rw [if_pos (by rw [h126]; rfl), wsucc _ (by omega)]
          by_cases h2 : i + 1 < t.length
          · have hx2 : t[i + 1]? = some t[i + 1] := List.getElem?_eq_getElem h2
            have hgd2 : t.getD (i + 1) 0 = t[i + 1] := by rw [List.getD_eq_getElem?_getD, hx2]; rfl
            have hdr2 := drop_at hx2
            rw [if_neg (by omega), if_pos (by omega), Int.toNat_natCast, hgd2]
            rw [hdr, hdr2, refGo, if_neg h47, if_pos h126] at hG
            by_cases h48 : t[i + 1] = 48
            · left
              rw [if_pos h48] at hG
              rw [if_pos (by rw [h48]; rfl), if_pos (by simp only [List.length_cons, List.length_nil]; omega), wsucc _ (by omega)]
              exact ⟨_, rfl, ⟨_, _, i + 2, rfl, by omega, by omega, by simp; omega, .inr ⟨by omega, hG⟩⟩, by simp only [Int.toNat_natCast]; omega⟩
            · rw [if_neg h48] at hG
              rw [if_neg (by intro e; exact h48 (UInt8.toNat_inj.1 (by simp at e ⊢; omega)))]
              by_cases h49 : t[i + 1] = 49
              · left
                rw [if_pos h49] at hG
                rw [if_pos (by rw [h49]; rfl), if_pos (by simp only [List.length_cons, List.length_nil]; omega), wsucc _ (by omega)]
                exact ⟨_, rfl, ⟨_, _, i + 2, rfl, by omega, by omega, by simp; omega, .inr ⟨by omega, hG⟩⟩, by simp only [Int.toNat_natCast]; omega⟩
              · right
                rw [if_neg h49] at hG
                rw [if_neg (by intro e; exact h49 (UInt8.toNat_inj.1 (by simp at e ⊢; omega))), ← hG]; rfl
          · right
            rw [if_pos (by omega), ← hG, hdr, List.drop_eq_nil_of_le (by omega), refGo, if_neg h47, if_pos h126]; rfl
        · left
          have n126 : ¬ ((t[i].toNat : Nat) : Int) = (126 : Int) := by intro e; exact h126 (UInt8.toNat_inj.1 (by simp at e ⊢; omega))
          have hsub : subS t ((i : Nat) : Int) ((i + 1 : Nat) : Int) = [t[i]] := by
            simp only [subS, Int.toNat_natCast]
            rw [take_at hx, List.drop_append_of_le_length (by simp; omega), List.drop_eq_nil_of_le (by simp; omega)]; rfl
          rw [if_neg n126, wsucc _ (by omega), hsub, if_pos (by omega), if_pos (by simp only [List.length_cons, List.length_nil]; omega)]
          refine ⟨_, rfl, ⟨_, _, i + 1, rfl, by omega, by omega, by simp; omega, .inr ⟨by omega, ?_⟩⟩, by simp only [Int.toNat_natCast]; omega⟩
          rw [← hG, hdr]
          cases hd : t.drop (i + 1) with
          | nil => simp [refGo, h47, h126]
          | cons d r => rw [refGo, if_neg h47, if_neg h126]
  · right
    rw [if_neg (by omega)]
    obtain rfl : i = t.length := by omega
    rcases hI with ⟨h0, rfl, rfl⟩ | ⟨h0, hG⟩
    · rw [if_pos (by omega), List.eq_nil_of_length_eq_zero h0]; rfl
    · rw [if_neg (by omega), if_pos (by simp only [List.length_cons, List.length_nil]; omega), ← hG, List.drop_of_length_le (Nat.le_refl _)]; rfl
set_option maxRecDepth 100000 in
theorem lives08_p : p_law08_lives = some true := by kernel_rfl
theorem eqs1_p (z36 z46 : List (List UInt8) × Int) (h : z36 = z46) (hl : z36.1.length ≤ 100000000) : loopO (fun (s : Int) => p_law08_TrailTexts_b2 z36 z46 s) ((0 : Int)) = some true := by
  subst h
  refine loopO_inv (fun st => ∃ i : Nat, i ≤ z36.1.length ∧ st = (i : Int)) (fun st => z36.1.length - st.toNat) ⟨0, Nat.zero_le _, rfl⟩ (by simp; omega) ?_
  rintro st ⟨i, hi, rfl⟩
  unfold p_law08_TrailTexts_b2
  by_cases hlt : i < z36.1.length
  · left
    have hx : z36.1[i]? = some z36.1[i] := List.getElem?_eq_getElem hlt
    rw [if_pos (by omega), getI_nat, hx, Option.bind_some, Option.bind_some, if_pos rfl, wsucc _ (by omega)]
    exact ⟨_, rfl, ⟨i + 1, by omega, rfl⟩, by simp only [Int.toNat_natCast]; omega⟩
  · right
    rw [if_neg (by omega), lives08_p]; rfl
theorem trailTexts_p (x0 : List (List UInt8)) (t : List UInt8) (hs : tot x0 ≤ 2000000) : p_law08_TrailTexts x0 t = some true := by
  unfold p_law08_TrailTexts
  by_cases h1 : 20 < x0.length
  · rw [if_pos (by omega), lives08_p]; rfl
  rw [if_neg (by omega)]
  by_cases h2 : 300 < t.length
  · rw [if_pos (by omega), lives08_p]; rfl
  have hw := wayS_len x0
  rw [if_neg (by omega), trailWrite_p x0 (by omega) (by omega), Option.bind_some, trailRead_p _ (by omega), Option.bind_some, trailRead_p _ (by omega), Option.bind_some, refRead_p _ (by omega), Option.bind_some,
    refWrite_p x0 (by omega) (by omega), Option.bind_some, if_pos rfl, readS_way, if_pos rfl, if_pos rfl, if_pos rfl, if_pos rfl]
  have hrl : (readS t).1.length ≤ t.length + 1 := by
    cases t with
    | nil => simp [readS]
    | cons c r =>
      rw [readS]
      split
      · cases hd : decAll (sp 47 r) with
        | none => simp
        | some m =>
          have := decAll_len _ _ hd
          have := sp_len 47 r
          have := @List.count_le_length _ _ (47 : UInt8) r
          simp; omega
      · simp
  refine loopO_inv (fun st => ∃ i : Nat, i ≤ x0.length ∧ st = (i : Int)) (fun st => x0.length - st.toNat) ⟨0, Nat.zero_le _, rfl⟩ (by simp; omega) ?_
  rintro st ⟨i, hi, rfl⟩
  unfold p_law08_TrailTexts_b1
  dsimp only
  by_cases hlt : i < x0.length
  · left
    have hx : x0[i]? = some x0[i] := List.getElem?_eq_getElem hlt
    rw [if_pos (by omega), getI_nat, hx, Option.bind_some, Option.bind_some, if_pos rfl, wsucc _ (by omega)]
    exact ⟨_, rfl, ⟨i + 1, by omega, rfl⟩, by simp only [Int.toNat_natCast]; omega⟩
  · right
    rw [if_neg (by omega), eqs1_p _ _ rfl (by omega)]; rfl
end B
end Go.Proofs.YtdbihpobfcbmeaaDoor
