/- The plain law of server names: digits, words, brackets. No program here. -/
import Derived.Test.YtdbihpobfcbmeaaDoorL52
set_option linter.unusedVariables false
set_option linter.unusedSimpArgs false
namespace Go.Proofs.YtdbihpobfcbmeaaDoor
namespace B
open Go

/-! ### Numbers in digits -/
def isD (c : UInt8) : Bool := decide (48 ≤ c.toNat ∧ c.toNat ≤ 57)
def valD : List UInt8 → Nat → Nat
  | [], n => n
  | c :: r, n => valD r (10 * n + (c.toNat - 48))
theorem valD_append (a b : List UInt8) (n : Nat) : valD (a ++ b) n = valD b (valD a n) := by
  induction a generalizing n with
  | nil => rfl
  | cons c r ih => simp only [List.cons_append, valD, ih]
theorem valD_le (l : List UInt8) (n : Nat) : n ≤ valD l n := by
  induction l generalizing n with
  | nil => exact Nat.le_refl _
  | cons c r ih => have := ih (10 * n + (c.toNat - 48)); simp only [valD]; omega
/-- The digit d. -/
def dg (d : Nat) : UInt8 := UInt8.ofNat (48 + d)
theorem dg_toNat {d : Nat} (h : d < 10) : (dg d).toNat = 48 + d := by
  simp only [dg, UInt8.toNat_ofNat']; omega
theorem isD_dg {d : Nat} (h : d < 10) : isD (dg d) = true := by simp only [isD, dg_toNat h, decide_eq_true_eq]; omega
theorem dg_of {c : UInt8} (h : isD c = true) : dg (c.toNat - 48) = c ∧ c.toNat - 48 < 10 := by
  simp only [isD, decide_eq_true_eq] at h
  refine ⟨UInt8.toNat_inj.1 ?_, by omega⟩
  rw [dg_toNat (by omega)]; omega
/-- A number's digits. -/
def decN (n : Nat) : List UInt8 := if n < 10 then [dg n] else decN (n / 10) ++ [dg (n % 10)]
termination_by n
theorem decN_lt {n : Nat} (h : n < 10) : decN n = [dg n] := by rw [decN, if_pos h]
theorem decN_ge {n : Nat} (h : ¬ n < 10) : decN n = decN (n / 10) ++ [dg (n % 10)] := by rw [decN, if_neg h]
theorem decN_ne (n : Nat) : decN n ≠ [] := by
  rw [decN]; split <;> simp
theorem decN_all (n : Nat) : (decN n).all isD = true := by
  induction n using Nat.strongRecOn with
  | _ n ih =>
    by_cases h : n < 10
    · rw [decN_lt h]; simp [isD_dg h]
    · rw [decN_ge h, List.all_append, ih _ (by omega)]; simp [isD_dg (show n % 10 < 10 by omega)]
theorem decN_val (n : Nat) : valD (decN n) 0 = n := by
  induction n using Nat.strongRecOn with
  | _ n ih =>
    by_cases h : n < 10
    · rw [decN_lt h]; simp only [valD, dg_toNat h]; omega
    · rw [decN_ge h, valD_append, ih _ (by omega)]; simp only [valD, dg_toNat (show n % 10 < 10 by omega)]; omega
theorem decN_head (n : Nat) : (decN n).getD 0 0 = 48 → n = 0 ∧ decN n = [48] := by
  induction n using Nat.strongRecOn with
  | _ n ih =>
    intro h
    by_cases hn : n < 10
    · rw [decN_lt hn] at h ⊢
      have h : dg n = 48 := h
      have := congrArg UInt8.toNat h
      rw [dg_toNat hn] at this
      have h0 : n = 0 := by
        have e : (48 : UInt8).toNat = 48 := rfl
        omega
      subst h0; exact ⟨rfl, rfl⟩
    · rw [decN_ge hn] at h
      have hne := decN_ne (n / 10)
      have : (decN (n / 10)).getD 0 0 = 48 := by
        cases hd : decN (n / 10) with
        | nil => exact absurd hd hne
        | cons x r => rw [hd] at h; exact h
      have := (ih _ (by omega) this).1
      omega
/-- Digits without noughts ahead are those of their number. -/
theorem decN_of : ∀ (m : Nat) (l : List UInt8), l.length = m → l ≠ [] → l.all isD = true → (l.getD 0 0 = 48 → l = [48]) → decN (valD l 0) = l := by
  intro m
  induction m with
  | zero => intro l h hne; exact absurd (List.length_eq_zero_iff.1 h) hne
  | succ m ih =>
    intro l h hne ha hh
    obtain ⟨i, c, rfl⟩ : ∃ i c, l = i ++ [c] := ⟨l.dropLast, l.getLast hne, (List.dropLast_concat_getLast hne).symm⟩
    rw [List.all_append, Bool.and_eq_true] at ha
    have hc : isD c = true := by simpa using ha.2
    obtain ⟨hdc, hlt⟩ := dg_of hc
    rw [valD_append]
    simp only [valD]
    cases i with
    | nil => rw [decN_lt (by simp only [valD]; omega)]; simp only [valD]; rw [Nat.mul_zero, Nat.zero_add, hdc]; rfl
    | cons x r =>
      have hx : (x :: r).getD 0 0 = x := rfl
      have hne48 : x ≠ 48 := fun e => by
        have := hh (by show x = 48; exact e)
        simp at this
      have hi := ih (x :: r) (by simp at h ⊢; omega) (by simp) ha.1 (fun e => absurd e hne48)
      have hpos : 0 < valD (x :: r) 0 := by
        have hxD : isD x = true := by have := ha.1; simp at this; exact this.1
        have := (dg_of hxD)
        have hx48 : x.toNat ≠ 48 := fun e => hne48 (UInt8.toNat_inj.1 e)
        simp only [isD, decide_eq_true_eq] at hxD
        have := valD_le r (10 * 0 + (x.toNat - 48))
        simp only [valD]; omega
      rw [decN_ge (by omega)]
      rw [show (10 * valD (x :: r) 0 + (c.toNat - 48)) / 10 = valD (x :: r) 0 by omega, show (10 * valD (x :: r) 0 + (c.toNat - 48)) % 10 = c.toNat - 48 by omega, hi, hdc]
/-- The number of a text, as it is shown. -/
def numN (s : List UInt8) : Option Nat := if s ≠ [] ∧ s.all isD = true ∧ (s.getD 0 0 = 48 → s = [48]) then some (valD s 0) else none
theorem numN_iff (s : List UInt8) (n : Nat) : numN s = some n ↔ decN n = s := by
  unfold numN
  constructor
  · intro h
    split at h
    · rename_i h1
      cases h
      exact decN_of _ s rfl h1.1 h1.2.1 h1.2.2
    · cases h
  · rintro rfl
    rw [if_pos ⟨decN_ne n, decN_all n, fun h => (decN_head n h).2⟩, decN_val]
/-- That number, if it lies between two; else -1. -/
def numI (s : List UInt8) (least most : Int) : Int := match numN s with
  | some n => if least ≤ n ∧ (n : Int) ≤ most then n else -1
  | none => -1
/-! ### Bytes -/
def isL (c : UInt8) : Bool := decide ((97 ≤ c.toNat ∧ c.toNat ≤ 122) ∨ (65 ≤ c.toNat ∧ c.toNat ≤ 90))
def isW (c : UInt8) : Bool := isD c || isL c || decide (c.toNat = 45)
def isH (c : UInt8) : Bool := decide ((48 ≤ c.toNat ∧ c.toNat ≤ 57) ∨ (97 ≤ c.toNat ∧ c.toNat ≤ 102) ∨ (65 ≤ c.toNat ∧ c.toNat ≤ 70))
def clsN (n : Nat) : Nat := if 48 ≤ n ∧ n ≤ 57 then 1 else if (97 ≤ n ∧ n ≤ 102) ∨ (65 ≤ n ∧ n ≤ 70) then 2 else if (97 ≤ n ∧ n ≤ 122) ∨ (65 ≤ n ∧ n ≤ 90) then 3 else if n = 45 then 4 else 0
def mst : List UInt8 → Nat → Nat
  | [], n => n
  | c :: r, n => if clsN c.toNat = 0 then 9 else mst r (max n (clsN c.toNat))
theorem cls_le (n : Nat) : clsN n ≤ 4 := by unfold clsN; split; omega; split; omega; split; omega; split <;> omega
theorem cls_W (c : UInt8) : isW c = true ↔ clsN c.toNat ≠ 0 := by
  simp only [isW, isD, isL, clsN, Bool.or_eq_true, decide_eq_true_eq]
  split; omega; split; omega; split; omega; split <;> omega
theorem cls_D (c : UInt8) : isD c = true ↔ clsN c.toNat = 1 := by
  simp only [isD, clsN, decide_eq_true_eq]
  split; omega; split; omega; split; omega; split <;> omega
theorem cls_H (c : UInt8) : isH c = true ↔ clsN c.toNat = 1 ∨ clsN c.toNat = 2 := by
  simp only [isH, clsN, decide_eq_true_eq]
  split; omega; split; omega; split; omega; split <;> omega
theorem cls_hy (c : UInt8) : c = 45 ↔ clsN c.toNat = 4 := by
  have : c = 45 ↔ c.toNat = 45 := by rw [← UInt8.toNat_inj]; rfl
  rw [this]
  simp only [clsN]
  split; omega; split; omega; split; omega; split <;> omega
theorem mst_spec (l : List UInt8) : ∀ n, n ≤ 4 → (mst l n = 9 ∧ ¬ l.all isW = true) ∨ (l.all isW = true ∧ mst l n ≤ 4 ∧ n ≤ mst l n ∧ (∀ c ∈ l, clsN c.toNat ≤ mst l n) ∧ (mst l n = n ∨ ∃ c ∈ l, clsN c.toNat = mst l n)) := by
  induction l with
  | nil => intro n hn; exact .inr ⟨rfl, hn, Nat.le_refl _, by simp, .inl rfl⟩
  | cons c r ih =>
    intro n hn
    have hW := cls_W c
    have hle := cls_le c.toNat
    by_cases h0 : clsN c.toNat = 0
    · left
      refine ⟨by simp [mst, h0], ?_⟩
      rw [List.all_cons, Bool.and_eq_true]
      rintro ⟨h, _⟩
      exact hW.1 h h0
    · rcases ih (max n (clsN c.toNat)) (by omega) with ⟨h1, h2⟩ | ⟨h1, h2, h3, h4, h5⟩
      · left
        refine ⟨by simp [mst, h0, h1], ?_⟩
        rw [List.all_cons, Bool.and_eq_true]
        rintro ⟨_, h⟩
        exact h2 h
      · right
        have hm : mst (c :: r) n = mst r (max n (clsN c.toNat)) := by simp [mst, h0]
        rw [hm]
        refine ⟨by rw [List.all_cons, hW.2 h0, h1]; rfl, h2, by omega, ?_, ?_⟩
        · intro d hd
          rcases List.mem_cons.1 hd with rfl | hd
          · omega
          · exact h4 d hd
        · rcases h5 with h5 | ⟨d, hd, h5⟩
          · by_cases hnc : clsN c.toNat ≤ n
            · exact .inl (by omega)
            · exact .inr ⟨c, by simp, by omega⟩
          · exact .inr ⟨d, by simp [hd], h5⟩
theorem mst_W (l : List UInt8) : mst l 0 ≤ 4 ↔ l.all isW = true := by
  rcases mst_spec l 0 (by omega) with ⟨h1, h2⟩ | ⟨h1, h2, _⟩
  · rw [h1]; exact ⟨fun h => by omega, fun h => absurd h h2⟩
  · exact ⟨fun _ => h1, fun _ => h2⟩
theorem mst_D (l : List UInt8) (hw : l.all isW = true) : mst l 0 ≤ 1 ↔ l.all isD = true := by
  rcases mst_spec l 0 (by omega) with ⟨h1, h2⟩ | ⟨h1, h2, h3, h4, h5⟩
  · exact absurd hw h2
  · rw [List.all_eq_true]
    constructor
    · intro h c hc
      have := h4 c hc
      have := (cls_W c).1 (List.all_eq_true.1 hw c hc)
      exact (cls_D c).2 (by omega)
    · intro h
      rcases h5 with h5 | ⟨c, hc, h5⟩
      · omega
      · have := (cls_D c).1 (h c hc); omega
theorem mst_H (l : List UInt8) : mst l 0 ≤ 2 ↔ l.all isH = true := by
  rcases mst_spec l 0 (by omega) with ⟨h1, h2⟩ | ⟨h1, h2, h3, h4, h5⟩
  · rw [h1]
    refine ⟨fun h => by omega, fun h => absurd (List.all_eq_true.2 fun c hc => ?_) h2⟩
    rw [cls_W]
    have := (cls_H c).1 (List.all_eq_true.1 h c hc); omega
  · rw [List.all_eq_true]
    constructor
    · intro h c hc
      have := h4 c hc
      have := (cls_W c).1 (List.all_eq_true.1 h1 c hc)
      exact (cls_H c).2 (by omega)
    · intro h
      rcases h5 with h5 | ⟨c, hc, h5⟩
      · omega
      · have := (cls_H c).1 (h c hc); omega
/-! ### Parts between a byte -/
theorem sp_none (c : UInt8) : ∀ u : List UInt8, (∀ x ∈ u, x ≠ c) → sp c u = [u]
  | [], _ => rfl
  | b :: r, h => by rw [sp, if_neg (h b (by simp)), sp_none c r (fun x hx => h x (by simp [hx]))]; rfl
theorem sp_mid (c : UInt8) : ∀ (u v : List UInt8), (∀ x ∈ u, x ≠ c) → sp c (u ++ c :: v) = u :: sp c v
  | [], v, _ => by rw [List.nil_append, sp, if_pos rfl]
  | b :: r, v, h => by rw [List.cons_append, sp, if_neg (h b (by simp)), sp_mid c r v (fun x hx => h x (by simp [hx]))]; rfl
theorem sp_at (c : UInt8) (s : List UInt8) (j i : Nat) (hj : j ≤ i) (hi : i < s.length) (h : ∀ x ∈ (s.take i).drop j, x ≠ c) (hc : s.getD i 0 = c) : sp c (s.drop j) = (s.take i).drop j :: sp c (s.drop (i + 1)) := by
  have : s.drop j = (s.take i).drop j ++ c :: s.drop (i + 1) := by
    have h1 : s = s.take i ++ c :: s.drop (i + 1) := by
      rw [← hc, List.getD_eq_getElem?_getD, List.getElem?_eq_getElem hi, Option.getD_some, ← List.drop_eq_getElem_cons hi, List.take_append_drop]
    conv => lhs; rw [h1]
    rw [List.drop_append_of_le_length (by rw [List.length_take]; omega)]
  rw [this, sp_mid c _ _ h]
theorem drop_take_succ (s : List UInt8) (j i : Nat) (hj : j ≤ i) (hi : i < s.length) : (s.take (i + 1)).drop j = (s.take i).drop j ++ [s.getD i 0] := by
  rw [take_snoc s i hi, List.drop_append_of_le_length (by rw [List.length_take]; omega)]
/-! ### Words -/
def okPart (l : List UInt8) : Bool := decide (1 ≤ l.length) && decide (l.length ≤ 63) && decide (l.getD 0 0 ≠ 45) && decide (l.getD (l.length - 1) 0 ≠ 45) && l.all isW
def wordB (s : List UInt8) : Bool := (sp 46 s).all okPart && !(sp 46 s).all (fun l => l.all isD)
theorem okPart_iff (l : List UInt8) : okPart l = true ↔ 1 ≤ l.length ∧ l.length ≤ 63 ∧ l.getD 0 0 ≠ 45 ∧ l.getD (l.length - 1) 0 ≠ 45 ∧ l.all isW = true := by
  simp only [okPart, Bool.and_eq_true, decide_eq_true_eq, and_assoc]
theorem okPart_not {l : List UInt8} (h : ¬ (1 ≤ l.length ∧ l.length ≤ 63 ∧ l.getD 0 0 ≠ 45 ∧ l.getD (l.length - 1) 0 ≠ 45 ∧ l.all isW = true)) : okPart l = false := by
  cases hb : okPart l with
  | false => rfl
  | true => exact absurd ((okPart_iff l).1 hb) h
theorem wordB_ref (s : List UInt8) : wordB s = ((sp 46 s).all okPart && (sp 46 s).any fun x => decide (1 < mst x 0)) := by
  unfold wordB
  cases h : (sp 46 s).all okPart with
  | false => rfl
  | true =>
    rw [Bool.true_and, Bool.true_and, List.not_all_eq_any_not]
    rw [List.all_eq_true] at h
    revert h
    generalize sp 46 s = l
    intro h
    induction l with
    | nil => rfl
    | cons x r ih =>
      rw [List.any_cons, List.any_cons, ih (fun y hy => h y (by simp [hy]))]
      congr 1
      have hx := ((okPart_iff x).1 (h x (by simp))).2.2.2.2
      have := mst_D x hx
      cases hd : x.all isD with
      | true => rw [hd] at this; exact (decide_eq_false (by have := this.2 rfl; omega)).symm
      | false =>
        rw [hd] at this
        have h2 : ¬ mst x 0 ≤ 1 := fun h => by have := this.1 h; cases this
        exact (decide_eq_true (by omega)).symm
def fourB (s : List UInt8) : Bool := decide ((sp 46 s).length = 4) && (sp 46 s).all fun x => decide (0 ≤ numI x 0 255)
theorem decN_len : ∀ (k n : Nat), n < 10 ^ (k + 1) → (decN n).length ≤ k + 1
  | 0, n, h => by rw [decN_lt (by simpa using h)]; simp
  | k + 1, n, h => by
    by_cases hn : n < 10
    · rw [decN_lt hn]; simp
    · rw [decN_ge hn, List.length_append]
      have h2 : 10 ^ (k + 1 + 1) = 10 ^ (k + 1) * 10 := Nat.pow_succ ..
      have := decN_len k (n / 10) (by omega)
      simp; omega
theorem numI_of {s : List UInt8} {n lo hi : Nat} (h : decN n = s) (h1 : lo ≤ n) (h2 : n ≤ hi) : numI s lo hi = n := by
  rw [numI, (numN_iff s n).2 h]; simp only; rw [if_pos ⟨by omega, by omega⟩]
theorem numI_not {s : List UInt8} {lo hi : Nat} (h : ∀ n, lo ≤ n → n ≤ hi → decN n ≠ s) : numI s lo hi = -1 := by
  unfold numI
  cases hs : numN s with
  | none => rfl
  | some n =>
    simp only
    rw [if_neg]
    rintro ⟨h1, h2⟩
    exact h n (by omega) (by omega) ((numN_iff s n).1 hs)
theorem numI_lt (s : List UInt8) (lo hi : Nat) : numI s lo hi = -1 ∨ ∃ n : Nat, numI s lo hi = n ∧ lo ≤ n ∧ n ≤ hi := by
  unfold numI
  cases numN s with
  | none => exact .inl rfl
  | some n =>
    simp only
    split
    · rename_i h; exact .inr ⟨n, rfl, by omega, by omega⟩
    · exact .inl rfl
/-! ### A number at a place -/
def dsAt (s : List UInt8) (j : Nat) : List UInt8 := (s.drop j).takeWhile isD
def fromAt (s : List UInt8) (i : Nat) : Nat := if i < s.length ∧ s.getD i 0 = 45 then i + 1 else i
/-- Number, place behind, error. -/
def scanB (s : List UInt8) (i j : Nat) : Int × Int × Int :=
  if j = s.length then (0, 0, 5)
  else if dsAt s j = [] then (0, 0, 6)
  else if (s.getD j 0 = 48 ∧ (j + 1 < j + (dsAt s j).length ∨ i < j)) ∨ (j + (dsAt s j).length < s.length ∧ (s.getD (j + (dsAt s j).length) 0 = 46 ∨ s.getD (j + (dsAt s j).length) 0 = 101 ∨ s.getD (j + (dsAt s j).length) 0 = 69)) then (0, 0, 12)
  else if 9007199254740991 < valD (dsAt s j) 0 then (0, 0, 2)
  else (if i < j then - (valD (dsAt s j) 0 : Int) else (valD (dsAt s j) 0 : Int), ((j + (dsAt s j).length : Nat) : Int), 0)
def scanN (s : List UInt8) (i : Nat) : Int × Int × Int := scanB s i (fromAt s i)
theorem dsAt_of (s : List UInt8) (j k : Nat) (hjk : j ≤ k) (hk : k ≤ s.length) (h : ∀ x ∈ (s.take k).drop j, isD x = true) (he : ¬ (k < s.length ∧ isD (s.getD k 0) = true)) : dsAt s j = (s.take k).drop j := by
  have h1 : s.drop j = (s.take k).drop j ++ s.drop k := by
    conv => lhs; rw [← List.take_append_drop k s]
    rw [List.drop_append_of_le_length (by rw [List.length_take]; omega)]
  rw [dsAt, h1, List.takeWhile_append_of_pos h]
  by_cases hlt : k < s.length
  · have hd : isD (s.getD k 0) = false := by
      cases hb : isD (s.getD k 0) with
      | false => rfl
      | true => exact absurd ⟨hlt, hb⟩ he
    have : s.drop k = s.getD k 0 :: s.drop (k + 1) := by
      rw [List.getD_eq_getElem?_getD, List.getElem?_eq_getElem hlt, Option.getD_some, List.drop_eq_getElem_cons hlt]
    rw [this, List.takeWhile_cons, hd]; simp
  · have : s.drop k = [] := List.drop_eq_nil_of_le (by omega)
    rw [this]; simp
theorem valD_snoc (l : List UInt8) (c : UInt8) : valD (l ++ [c]) 0 = 10 * valD l 0 + (c.toNat - 48) := by rw [valD_append]; rfl
end B
end Go.Proofs.YtdbihpobfcbmeaaDoor
