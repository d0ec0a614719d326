/- Plain laws of hosts: put together, the parts are the text; and that the second statement's function answers true. -/
import Derived.Test.YtdbihpobfcbmeaaDoorEA
import Derived.Test.YtdbihpobfcbmeaaDoorGB
set_option linter.unusedVariables false
set_option linter.unusedSimpArgs false
namespace Go.Proofs.YtdbihpobfcbmeaaDoor
namespace B
open Go Go.RowKit

theorem decDigits_decN : ∀ n : Nat, Lib.decDigits n = decN n := by
  intro n
  induction n using Nat.strongRecOn with
  | _ n ih =>
    by_cases h : n < 10
    · rw [Lib.decDigits, dif_pos h, decN_lt h]; rfl
    · rw [Lib.decDigits, dif_neg h, decN_ge h, ih (n / 10) (by omega)]; rfl
theorem show_num (n : Nat) (h : n ≤ 9223372036854775807) : p_num_Show ((n : Nat) : Int) = some (decN n) := by
  unfold p_num_Show p_strconv_FormatInt p_internal_strconv_FormatInt
  rw [if_pos ⟨rfl, by omega, by omega⟩]
  simp only [Option.bind_some]
  rw [Lib.itoa, if_neg (by omega), Int.toNat_natCast, decDigits_decN]
theorem lastI_at (b : UInt8) : ∀ (s : List UInt8) (i : Nat), lastI b s = some i → s.getD i 0 = b
  | [], i, h => by simp [lastI] at h
  | c :: s, i, h => by
    rw [lastI] at h
    split at h
    · rename_i k hk; cases h; exact lastI_at b s k hk
    · split at h
      · cases h; assumption
      · cases h
theorem lastI_none (b : UInt8) : ∀ s : List UInt8, (∀ x ∈ s, x ≠ b) → lastI b s = none
  | [], _ => rfl
  | c :: s, h => by rw [lastI, lastI_none b s (fun x hx => h x (by simp [hx])), if_neg (h c (by simp))]
theorem lastI_mid (b : UInt8) (v : List UInt8) (hv : ∀ x ∈ v, x ≠ b) : ∀ u : List UInt8, lastI b (u ++ b :: v) = some u.length
  | [] => by rw [List.nil_append, lastI, lastI_none b v hv, if_pos rfl]; rfl
  | c :: u => by rw [List.cons_append, lastI, lastI_mid b v hv u]; rfl
theorem all_sp (b c : UInt8) (hbc : c ≠ b) : ∀ s : List UInt8, c ∈ s → ∃ x ∈ sp b s, c ∈ x
  | d :: s, h => by
    rw [sp]
    by_cases hd : d = b
    · rw [if_pos hd]
      rcases List.mem_cons.1 h with rfl | h
      · exact absurd hd hbc
      · obtain ⟨x, hx, hc⟩ := all_sp b c hbc s h
        exact ⟨x, by simp [hx], hc⟩
    · rw [if_neg hd]
      cases hs : sp b s with
      | nil => exact absurd hs (sp_ne b s)
      | cons y r =>
        rcases List.mem_cons.1 h with rfl | h
        · exact ⟨c :: y, by simp [cons1], by simp⟩
        · obtain ⟨x, hx, hc⟩ := all_sp b c hbc s h
          rw [hs] at hx
          rcases List.mem_cons.1 hx with rfl | hx
          · exact ⟨d :: x, by simp [cons1], by simp [hc]⟩
          · exact ⟨x, by simp [cons1, hx], hc⟩
theorem colon_kind (u : List UInt8) (n : Nat) : kindN (u ++ 58 :: decN n) = 0 := by
  have hm : (58 : UInt8) ∈ u ++ 58 :: decN n := by simp
  obtain ⟨x, hx, hc⟩ := all_sp 46 58 (by decide) _ hm
  have hw : wordB (u ++ 58 :: decN n) = false := by
    rw [wordB, Bool.and_eq_false_iff]
    left
    rw [List.all_eq_false]
    refine ⟨x, hx, fun h => ?_⟩
    have := ((okPart_iff x).1 h).2.2.2.2
    have := List.all_eq_true.1 this 58 hc
    exact absurd this (by decide)
  have hf : fourB (u ++ 58 :: decN n) = false := by
    rw [fourB, Bool.and_eq_false_iff]
    right
    rw [List.all_eq_false]
    refine ⟨x, hx, fun h => ?_⟩
    have hn : numN x = none := by
      rw [numN, if_neg]
      rintro ⟨_, h2, _⟩
      exact absurd (List.all_eq_true.1 h2 58 hc) (by decide)
    rw [numI, hn] at h
    exact absurd h (by decide)
  have hb : brB (u ++ 58 :: decN n) = false := by
    have hne := decN_ne n
    have hl : (u ++ 58 :: decN n).getD ((u ++ 58 :: decN n).length - 1) 0 ≠ 93 := by
      obtain ⟨q, d, hq⟩ : ∃ q d, decN n = q ++ [d] := ⟨(decN n).dropLast, (decN n).getLast hne, (List.dropLast_concat_getLast hne).symm⟩
      have hd : isD d = true := List.all_eq_true.1 (decN_all n) d (by rw [hq]; simp)
      rw [hq, show u ++ 58 :: (q ++ [d]) = (u ++ 58 :: q) ++ [d] by simp, List.length_append, List.length_singleton, Nat.add_sub_cancel, List.getD_eq_getElem?_getD, List.getElem?_append_right (Nat.le_refl _), Nat.sub_self]
      intro e
      simp at e
      rw [e] at hd; exact absurd hd (by decide)
    rw [brB, decide_eq_false hl, Bool.and_false, Bool.false_and]
  rw [kindN, hw, hf, hb]; rfl
/-- Parts of a name with a number behind it. -/
theorem parts_join (u : List UInt8) (n : Nat) (hu : kindN u ≠ 0) (hn : n ≤ 65535) : partsF (u ++ 58 :: decN n) = if 230 < (u ++ 58 :: decN n).length then ([], 0, 4) else if n = 0 then ([], 0, 25) else (u, (n : Int), 0) := by
  have hv : ∀ x ∈ decN n, x ≠ 58 := fun x hx e => by
    have := List.all_eq_true.1 (decN_all n) x hx
    rw [e] at this; exact absurd this (by decide)
  unfold partsF
  split
  · rfl
  rw [colon_kind, if_neg (by decide), lastI_mid 58 (decN n) hv u]
  dsimp only
  rw [List.take_left, if_neg hu, show u.length + 1 = (u ++ [58]).length by simp, show u ++ 58 :: decN n = (u ++ [58]) ++ decN n by simp, List.drop_left]
  by_cases h0 : n = 0
  · subst h0
    have : numI (decN 0) 1 65535 = -1 := numI_not (lo := 1) (hi := 65535) (fun m h1 h2 e => by
      have := (numN_iff (decN 0) m).2 e
      rw [(numN_iff (decN 0) 0).2 rfl] at this
      cases this; omega)
    rw [this]; rfl
  · have : numI (decN n) 1 65535 = n := numI_of (lo := 1) (hi := 65535) rfl (by omega) hn
    rw [this, if_neg (by omega), if_neg h0]
theorem kind_le (s : List UInt8) : kindN s ≤ 3 := by unfold kindN; repeat' split
                                                     all_goals omega
theorem parts_len (s : List UInt8) : (partsF s).1.length ≤ s.length := by
  unfold partsF
  repeat' split
  all_goals first | (simp; done) | (simp only [List.length_take]; omega) | exact Nat.le_refl _
/-- What stands where the parts are told. -/
theorem parts_ok (s : List UInt8) (h : (partsF s).2.2 = 0) : kindN (partsF s).1 ≠ 0 ∧ (((partsF s).2.1 = 0 ∧ s = (partsF s).1) ∨ ∃ n : Nat, 1 ≤ n ∧ n ≤ 65535 ∧ (partsF s).2.1 = n ∧ s = (partsF s).1 ++ 58 :: decN n) := by
  unfold partsF at *
  by_cases h0 : 230 < s.length
  · rw [if_pos h0] at h; exact absurd h (by decide)
  rw [if_neg h0] at h ⊢
  by_cases h1 : 0 < kindN s
  · rw [if_pos h1]; exact ⟨Nat.pos_iff_ne_zero.1 h1, .inl ⟨rfl, rfl⟩⟩
  rw [if_neg h1] at h ⊢
  cases hq : lastI 58 s with
  | none => rw [hq] at h; simp at h
  | some i =>
    rw [hq] at h
    dsimp only at h ⊢
    by_cases h2 : kindN (s.take i) = 0
    · rw [if_pos h2] at h; exact absurd h (by decide)
    rw [if_neg h2] at h ⊢
    by_cases h3 : numI (s.drop (i + 1)) 1 65535 < 0
    · rw [if_pos h3] at h; exact absurd h (by decide)
    rw [if_neg h3]
    refine ⟨h2, .inr ?_⟩
    dsimp only
    have hlt := lastI_lt 58 s i hq
    have hat := lastI_at 58 s i hq
    rcases numI_lt (s.drop (i + 1)) 1 65535 with h4 | ⟨n, h4, h5, h6⟩
    · have h4 : numI (s.drop (i + 1)) 1 65535 = -1 := h4
      omega
    · have h4 : numI (s.drop (i + 1)) 1 65535 = n := h4
      refine ⟨n, h5, h6, h4, ?_⟩
      have hd : decN n = s.drop (i + 1) := by
        unfold numI at h4
        cases hn : numN (s.drop (i + 1)) with
        | none => rw [hn] at h4; simp only at h4; omega
        | some m =>
          rw [hn] at h4
          simp only at h4
          split at h4
          · have : m = n := by omega
            subst this
            exact (numN_iff _ _).1 hn
          · omega
      rw [hd]
      conv => lhs; rw [← List.take_append_drop i s, drop_getD s i hlt, hat]
theorem parts_err (s : List UInt8) (h : ¬ (partsF s).2.2 = 0) : (partsF s).1 = [] ∧ (partsF s).2.1 = 0 := by
  unfold partsF at *
  by_cases h0 : 230 < s.length
  · rw [if_pos h0]; exact ⟨rfl, rfl⟩
  rw [if_neg h0] at h ⊢
  by_cases h1 : 0 < kindN s
  · rw [if_pos h1] at h; exact absurd rfl h
  rw [if_neg h1] at h ⊢
  cases hq : lastI 58 s with
  | none => exact ⟨rfl, rfl⟩
  | some i =>
    rw [hq] at h
    dsimp only at h ⊢
    by_cases h2 : kindN (s.take i) = 0
    · rw [if_pos h2]; exact ⟨rfl, rfl⟩
    rw [if_neg h2] at h ⊢
    by_cases h3 : numI (s.drop (i + 1)) 1 65535 < 0
    · rw [if_pos h3]; exact ⟨rfl, rfl⟩
    · rw [if_neg h3] at h; exact absurd rfl h
theorem back_j1 (u : List UInt8) (e : Int × Int) (n : Nat) (hu : kindN u ≠ 0) (hl : u.length ≤ 1000) (hn : n ≤ 65535) : p_law27_HostBack_j1 ((n : Nat) : Int) (u, e) = some true := by
  unfold p_law27_HostBack_j1
  have hdl := decN_len 5 n (by omega)
  dsimp only
  rw [if_pos (by simp; omega), wnat n (by omega), show_num n (by omega), Option.bind_some, if_pos (by simp; omega)]
  rw [show u ++ [58] ++ decN n = u ++ 58 :: decN n by simp, parts_p _ (by simp; omega), Option.bind_some, parts_join u n hu hn]
  by_cases h : 230 < (u ++ 58 :: decN n).length
  · rw [if_pos h]
    by_cases h0 : n = 0
    · rw [if_pos (show ((n : Nat) : Int) = 0 by omega), if_pos (show (230 : Int) < ((u ++ 58 :: decN n).length : Int) by omega), if_pos rfl, lives27]; rfl
    · rw [if_neg (show ¬ ((n : Nat) : Int) = 0 by omega), if_pos (show (230 : Int) < ((u ++ 58 :: decN n).length : Int) by omega), if_pos rfl, lives27]; rfl
  · rw [if_neg h]
    by_cases h0 : n = 0
    · rw [if_pos h0, if_pos (show ((n : Nat) : Int) = 0 by omega), if_neg (show ¬ (230 : Int) < ((u ++ 58 :: decN n).length : Int) by omega), if_pos rfl, lives27]; rfl
    · rw [if_neg h0, if_neg (show ¬ ((n : Nat) : Int) = 0 by omega), if_neg (show ¬ (230 : Int) < ((u ++ 58 :: decN n).length : Int) by omega), if_pos rfl, if_pos rfl, if_pos rfl, lives27]; rfl
/-- The statement's function answers true, whatever text and port it is given. -/
theorem hostBack_true (s : List UInt8) (n : Nat) (hn : n ≤ 65535) : p_law27_HostBack s ((n : Nat) : Int) = some true := by
  unfold p_law27_HostBack
  by_cases h : (300 : Int) < s.length
  · rw [if_pos h, lives27]; rfl
  rw [if_neg h, parts_p s (by omega), Option.bind_some]
  have hpl := parts_len s
  by_cases h0 : (partsF s).2.2 = 0
  · rw [if_pos h0]
    obtain ⟨hk, hor⟩ := parts_ok s h0
    have hj := back_j1 (partsF s).1 (partsF s).2 n hk (by omega) hn
    rw [show ((partsF s).1, (partsF s).2) = partsF s from rfl] at hj
    rw [kind_p _ (by omega), Option.bind_some, if_neg (by omega)]
    rcases hor with ⟨h1, h2⟩ | ⟨m, h1, h2, h3, h4⟩
    · rw [if_pos h1, if_pos h2, if_neg (by omega), hj]
    · have hdl := decN_len 5 m (by omega)
      rw [if_neg (by omega), if_pos (by omega), if_pos (by simp; omega), h3, show_num m (by omega), Option.bind_some, if_pos (by simp; omega), if_pos (by rw [List.append_assoc]; exact h4), hj]
  · rw [if_neg h0]
    have := parts_err s h0
    rw [if_pos this.1, if_pos this.2, lives27]; rfl
end B
end Go.Proofs.YtdbihpobfcbmeaaDoor
