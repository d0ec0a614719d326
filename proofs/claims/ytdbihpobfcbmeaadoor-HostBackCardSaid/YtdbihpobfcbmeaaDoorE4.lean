/- Plain laws of hosts: a number that is read; four numbers. -/
import Derived.Test.YtdbihpobfcbmeaaDoorE3
set_option linter.unusedVariables false
set_option linter.unusedSimpArgs false
namespace Go.Proofs.YtdbihpobfcbmeaaDoor
namespace B
open Go Go.RowKit

theorem isD_iff (b : UInt8) : isD b = true ↔ (48 : Int) ≤ ((b.toNat : Nat) : Int) ∧ ((b.toNat : Nat) : Int) ≤ 57 := by rw [isD, decide_eq_true_eq]; omega
theorem scan_done (s : List UInt8) (i j k : Nat) (n : Int) (o : Bool) (hij : i ≤ j) (hjk : j ≤ k) (hj : j < s.length) (hk : k ≤ s.length) (hl : s.length ≤ 100000000) (hd : isD (s.getD j 0) = true)
    (hall : ∀ x ∈ (s.take k).drop j, isD x = true) (he : ¬ (k < s.length ∧ isD (s.getD k 0) = true))
    (hn : (o = false ∧ n = valD ((s.take k).drop j) 0 ∧ valD ((s.take k).drop j) 0 ≤ 9007199254740991) ∨ (o = true ∧ 9007199254740991 < valD ((s.take k).drop j) 0)) :
    p_num_Scan_j2 s (i : Int) (j : Int) n (k : Int) o = some (scanB s i j) := by
  have hds := dsAt_of s j k hjk hk hall he
  have hlen : ((s.take k).drop j).length = k - j := by rw [List.length_drop, List.length_take]; omega
  have hjk2 : j < k := by
    rcases Nat.lt_or_eq_of_le hjk with h | h
    · exact h
    · subst h; exact absurd ⟨hj, hd⟩ he
  have hB : scanB s i j = if (s.getD j 0 = 48 ∧ (j + 1 < k ∨ i < j)) ∨ (k < s.length ∧ (s.getD k 0 = 46 ∨ s.getD k 0 = 101 ∨ s.getD k 0 = 69)) then (0, 0, 12)
      else if 9007199254740991 < valD ((s.take k).drop j) 0 then (0, 0, 2) else (if i < j then - (valD ((s.take k).drop j) 0 : Int) else (valD ((s.take k).drop j) 0 : Int), ((k : Nat) : Int), 0) := by
    rw [scanB, if_neg (by omega), hds, if_neg (by intro h; rw [h] at hlen; simp at hlen; omega), hlen, show j + (k - j) = k by omega]
  rw [scan_j2 s i j k n o hj hl, hB, scan_j3]
  by_cases hC : (s.getD j 0 = 48 ∧ (j + 1 < k ∨ i < j)) ∨ (k < s.length ∧ (s.getD k 0 = 46 ∨ s.getD k 0 = 101 ∨ s.getD k 0 = 69))
  · rw [if_pos hC, if_pos hC]
  · rw [if_neg hC, if_neg hC]
    rcases hn with ⟨rfl, h1, h2⟩ | ⟨rfl, h2⟩
    · rw [if_neg (by decide), if_neg (show ¬ 9007199254740991 < valD ((s.take k).drop j) 0 by omega), h1]
      by_cases hi : i < j
      · rw [if_pos hi, if_pos hi, w64 (by omega) (by omega)]; congr 2; omega
      · rw [if_neg hi, if_neg hi]
    · rw [if_pos rfl, if_pos h2]
theorem scan_loop (s : List UInt8) (i j : Nat) (hij : i ≤ j) (hj : j < s.length) (hl : s.length ≤ 100000000) (hd : isD (s.getD j 0) = true) :
    loopO (fun (q : Int × Int × Bool) => p_num_Scan_b1 s (i : Int) (j : Int) q.1 q.2.1 q.2.2) ((0 : Int), (j : Int), false) = some (scanB s i j) := by
  refine loopO_inv (fun st => ∃ (n : Int) (k : Nat) (o : Bool), st = (n, (k : Int), o) ∧ j ≤ k ∧ k ≤ s.length ∧ (∀ x ∈ (s.take k).drop j, isD x = true) ∧ 0 ≤ n ∧ n ≤ 9007199254740991 ∧
    ((o = false ∧ n = valD ((s.take k).drop j) 0 ∧ valD ((s.take k).drop j) 0 ≤ 9007199254740991) ∨ (o = true ∧ n = 9007199254740991 ∧ 9007199254740991 < valD ((s.take k).drop j) 0))) (fun st => s.length - st.2.1.toNat)
    ⟨0, j, false, rfl, Nat.le_refl _, by omega, by rw [List.drop_eq_nil_of_le (by rw [List.length_take]; omega)]; simp, by decide, by decide, .inl ⟨rfl, by rw [List.drop_eq_nil_of_le (by rw [List.length_take]; omega)]; rfl, by rw [List.drop_eq_nil_of_le (by rw [List.length_take]; omega)]; decide⟩⟩ (by simp; omega) ?_
  rintro st ⟨n, k, o, rfl, hjk, hk, hall, hn0, hn1, hn⟩
  dsimp only
  unfold p_num_Scan_b1
  simp only [Int.toNat_natCast]
  have fin : ¬ (k < s.length ∧ isD (s.getD k 0) = true) → Option.map Sum.inr (p_num_Scan_j2 s (i : Int) (j : Int) n (k : Int) o) = some (Sum.inr (α := Int × Int × Bool) (scanB s i j)) := by
    intro he
    rw [scan_done s i j k n o hij hjk hj hk hl hd hall he (hn.imp id fun h => ⟨h.1, h.2.2⟩)]; rfl
  by_cases h : k < s.length
  · rw [if_pos (by omega), if_pos (by omega)]
    by_cases h1 : (48 : Int) ≤ (((s.getD k 0).toNat : Nat) : Int)
    · rw [if_pos h1]
      by_cases h2 : (((s.getD k 0).toNat : Nat) : Int) ≤ 57
      · rw [if_pos h2]
        left
        have hdk : isD (s.getD k 0) = true := (isD_iff _).2 ⟨h1, h2⟩
        have hts := drop_take_succ s j k hjk h
        have hv : valD ((s.take (k + 1)).drop j) 0 = 10 * valD ((s.take k).drop j) 0 + ((s.getD k 0).toNat - 48) := by rw [hts, valD_snoc]
        have hall2 : ∀ x ∈ (s.take (k + 1)).drop j, isD x = true := by
          rw [hts]; intro x hx
          rcases List.mem_append.1 hx with hx | hx
          · exact hall x hx
          · simp only [List.mem_singleton] at hx; rw [hx]; exact hdk
        have hw : IntKind.i64.wrap (IntKind.i64.wrap ((10 : Int) * n) + IntKind.i64.wrap (IntKind.u8.wrap ((((s.getD k 0).toNat : Nat) : Int) - 48))) = 10 * n + ((((s.getD k 0).toNat : Nat) : Int) - 48) := by
          rw [wu8 (by omega) (by omega), w64 (n := 10 * n) (by omega) (by omega), w64 (n := (((s.getD k 0).toNat : Nat) : Int) - 48) (by omega) (by omega), w64 (by omega) (by omega)]
        rw [hw, wsucc _ (by omega)]
        generalize hg : (s.getD k 0).toNat = d at *
        by_cases h3 : (9007199254740991 : Int) < 10 * n + ((d : Int) - 48)
        · rw [if_pos h3]
          refine ⟨_, rfl, ⟨_, k + 1, true, rfl, by omega, by omega, hall2, by decide, by decide, .inr ⟨rfl, rfl, ?_⟩⟩, by simp only [Int.toNat_natCast]; omega⟩
          rw [hv]
          rcases hn with ⟨_, e, _⟩ | ⟨_, _, e⟩ <;> omega
        · rw [if_neg h3]
          refine ⟨_, rfl, ⟨_, k + 1, o, rfl, by omega, by omega, hall2, by omega, by omega, ?_⟩, by simp only [Int.toNat_natCast]; omega⟩
          rw [hv]
          rcases hn with ⟨a, e, f⟩ | ⟨a, e, f⟩
          · exact .inl ⟨a, by omega, by omega⟩
          · omega
      · rw [if_neg h2]; right; exact fin (fun hh => h2 ((isD_iff _).1 hh.2).2)
    · rw [if_neg h1]; right; exact fin (fun hh => h1 ((isD_iff _).1 hh.2).1)
  · rw [if_neg (by omega)]; right; exact fin (fun hh => h hh.1)
theorem dsAt_nil (s : List UInt8) (j : Nat) (hj : j < s.length) (hd : ¬ isD (s.getD j 0) = true) : dsAt s j = [] := by
  rw [dsAt, drop_getD s j hj, List.takeWhile_cons, if_neg hd]
theorem scan_p (s : List UInt8) (i : Nat) (hi : i ≤ s.length) (hl : s.length ≤ 100000000) : p_num_Scan s ((i : Nat) : Int) = some (scanN s i) := by
  have j1 : ∀ j : Nat, i ≤ j → j ≤ s.length → p_num_Scan_j1 s (i : Int) (j : Int) = some (scanB s i j) := by
    intro j hij hj
    unfold p_num_Scan_j1
    by_cases h0 : j = s.length
    · rw [if_pos (by omega), scanB, if_pos h0]
    have bad : ¬ isD (s.getD j 0) = true → some ((0 : Int), (0 : Int), (6 : Int)) = some (scanB s i j) := fun h => by
      rw [scanB, if_neg h0, if_pos (dsAt_nil s j (by omega) h)]
    rw [if_neg (by omega), if_pos (by omega), if_pos (by omega), Int.toNat_natCast]
    by_cases h1 : (48 : Int) ≤ (((s.getD j 0).toNat : Nat) : Int)
    · rw [if_pos h1]
      by_cases h2 : (((s.getD j 0).toNat : Nat) : Int) ≤ 57
      · rw [if_pos h2]
        exact scan_loop s i j hij (by omega) hl ((isD_iff _).2 ⟨h1, h2⟩)
      · rw [if_neg h2]; exact bad (fun hh => h2 ((isD_iff _).1 hh).2)
    · rw [if_neg h1]; exact bad (fun hh => h1 ((isD_iff _).1 hh).1)
  unfold p_num_Scan
  rw [if_neg (by omega), if_neg (by omega), scanN, fromAt]
  by_cases h : i < s.length
  · rw [if_pos (by omega), if_pos (by omega), Int.toNat_natCast]
    by_cases h2 : s.getD i 0 = 45
    · rw [if_pos (by rw [h2]; rfl), if_pos ⟨h, h2⟩, wsucc _ (by omega)]
      exact j1 (i + 1) (by omega) (by omega)
    · have h3 : ¬ (((s.getD i 0).toNat : Nat) : Int) = 45 := fun e => h2 ((byte_eq (n := 45) (by decide)).1 e)
      rw [if_neg h3, if_neg (fun e => h2 e.2)]
      exact j1 i (Nat.le_refl _) hi
  · rw [if_neg (by omega), if_neg (fun e => h e.1)]
    exact j1 i (Nat.le_refl _) hi
theorem takeWhile_all (l : List UInt8) (h : l.takeWhile isD = l) : l.all isD = true := by
  rw [← h]
  induction l with
  | nil => rfl
  | cons a l ih =>
    rw [List.takeWhile_cons] at h ⊢
    cases hd : isD a with
    | false => rw [hd] at h; simp at h
    | true =>
      rw [hd] at h
      simp only [if_true, List.cons.injEq, true_and] at h ⊢
      rw [List.all_cons, hd, ih h]; rfl
theorem takeWhile_self (l : List UInt8) (h : l.all isD = true) : l.takeWhile isD = l := by
  induction l with
  | nil => rfl
  | cons a l ih =>
    rw [List.all_cons, Bool.and_eq_true] at h
    rw [List.takeWhile_cons, if_pos h.1, ih h.2]
theorem valD_pos (l : List UInt8) (h : l ≠ []) (h0 : l.getD 0 0 ≠ 48) (hd : isD (l.getD 0 0) = true) : 0 < valD l 0 := by
  cases l with
  | nil => exact absurd rfl h
  | cons c r =>
    have h1 := (isD_iff c).1 hd
    have h2 : c.toNat ≠ 48 := fun e => h0 (UInt8.toNat_inj.1 e)
    have h3 := valD_le r (10 * 0 + (c.toNat - 48))
    show 0 < valD r (10 * 0 + (c.toNat - 48))
    omega
def tellN (len lo hi : Int) (q : Int × Int × Int) : Option Int := if q.2.2 = (0 : Int) then (if q.2.1 = len then (if q.1 < lo then (some (-1 : Int)) else (if hi < q.1 then (some (-1 : Int)) else (some q.1))) else (some (-1 : Int))) else (some (-1 : Int))
theorem getD_mem0 (s : List UInt8) (h : 0 < s.length) : s.getD 0 0 ∈ s := by
  rw [List.getD_eq_getElem?_getD, List.getElem?_eq_getElem h]; exact List.getElem_mem _
theorem head_dsAt (s : List UInt8) (j : Nat) (h : dsAt s j ≠ []) : (dsAt s j).getD 0 0 = s.getD j 0 ∧ isD (s.getD j 0) = true := by
  by_cases hj : j < s.length
  · by_cases hd : isD (s.getD j 0) = true
    · rw [dsAt, drop_getD s j hj, List.takeWhile_cons, if_pos hd]; exact ⟨rfl, hd⟩
    · exact absurd (dsAt_nil s j hj hd) h
  · rw [dsAt, List.drop_eq_nil_of_le (by omega)] at h; exact absurd rfl h
/-- A number between two that are not below 0. -/
theorem number_p (s : List UInt8) (lo hi : Nat) (hl : s.length ≤ 100000000) (hh : hi ≤ 65535) : p_host_number s (lo : Int) (hi : Int) = some (numI s lo hi) := by
  unfold p_host_number
  have h0 := scan_p s 0 (Nat.zero_le _) hl
  rw [show ((0 : Nat) : Int) = (0 : Int) from rfl] at h0
  rw [h0, Option.bind_some, scanN, fromAt]
  show tellN s.length lo hi _ = _
  have no : numN s = none → numI s lo hi = -1 := fun h => by rw [numI, h]
  by_cases hm : 0 < s.length ∧ s.getD 0 0 = 45
  · rw [if_pos hm, scanB]
    have hnn : numN s = none := by
      rw [numN, if_neg]
      rintro ⟨h1, h2, h3⟩
      have := List.all_eq_true.1 h2 _ (getD_mem0 s hm.1)
      rw [hm.2] at this; exact absurd this (by decide)
    rw [no hnn]
    by_cases c1 : 0 + 1 = s.length
    · rw [if_pos c1]; rfl
    rw [if_neg c1]
    by_cases c2 : dsAt s (0 + 1) = []
    · rw [if_pos c2]; rfl
    rw [if_neg c2]
    obtain ⟨g1, g2⟩ := head_dsAt s (0 + 1) c2
    split
    · rfl
    · rename_i c3
      split
      · rfl
      · have hp := valD_pos _ c2 (by rw [g1]; intro e; exact c3 (.inl ⟨e, .inr (by omega)⟩)) (by rw [g1]; exact g2)
        rw [if_pos (by omega)]
        unfold tellN
        rw [if_pos rfl]
        by_cases c4 : (((0 + 1 + (dsAt s (0 + 1)).length : Nat) : Int)) = (s.length : Int)
        · rw [if_pos c4, if_pos (by show -(valD (dsAt s (0 + 1)) 0 : Int) < _; omega)]
        · rw [if_neg c4]
  · rw [if_neg hm, scanB]
    by_cases c1 : 0 = s.length
    · rw [if_pos c1]
      have : s = [] := List.eq_nil_of_length_eq_zero c1.symm
      rw [no (by rw [numN, if_neg (fun h => h.1 this)])]; rfl
    rw [if_neg c1]
    have hds : dsAt s 0 = s.takeWhile isD := by rw [dsAt, List.drop_zero]
    have hall : s.all isD = true → dsAt s 0 = s := fun h => by rw [hds, takeWhile_self s h]
    by_cases c2 : dsAt s 0 = []
    · rw [if_pos c2]
      rw [no (by rw [numN, if_neg (fun h => h.1 (by rw [← hall h.2.1, c2]))])]; rfl
    rw [if_neg c2]
    have hlen : (dsAt s 0).length ≤ s.length := by rw [hds]; exact (List.takeWhile_prefix _).length_le
    split
    · rename_i c3
      rw [no (by
        rw [numN, if_neg]
        rintro ⟨h1, h2, h3⟩
        have e := hall h2
        rw [e] at c3
        rcases c3 with ⟨c4, c5 | c5⟩ | ⟨c4, _⟩
        · rw [h3 c4] at c5; simp at c5
        · omega
        · omega)]; rfl
    · rename_i c3
      split
      · rename_i c4
        have : numI s lo hi = -1 := by
          unfold numI numN
          split
          · rename_i n hn
            split at hn
            · rename_i h1
              cases hn
              rw [hall h1.2.1] at c4
              rw [if_neg (by omega)]
            · cases hn
          · rfl
        rw [this]; rfl
      · rename_i c4
        rw [if_neg (by omega)]
        unfold tellN
        rw [if_pos rfl]
        by_cases c5 : (((0 + (dsAt s 0).length : Nat) : Int)) = (s.length : Int)
        · rw [if_pos c5]
          have e : dsAt s 0 = s := by
            rw [hds] at c5 ⊢
            exact (List.takeWhile_prefix isD).eq_of_length (by omega)
          have ha : s.all isD = true := takeWhile_all s (by rw [← hds]; exact e)
          rw [e] at c3 c4 ⊢
          have hn : numN s = some (valD s 0) := by
            rw [numN, if_pos]
            refine ⟨fun h => c1 (by rw [h]; rfl), ha, fun h => ?_⟩
            have : s.length = 1 := by
              by_cases h1 : 1 < s.length
              · exact absurd (.inl ⟨h, .inl (by omega)⟩) c3
              · omega
            match s, this, h with
            | [x], _, h => simp at h; rw [h]
          rw [numI, hn]
          dsimp only
          by_cases a1 : ((valD s 0 : Nat) : Int) < lo
          · rw [if_pos a1, if_neg (by omega)]
          · rw [if_neg a1]
            by_cases a2 : (hi : Int) < ((valD s 0 : Nat) : Int)
            · rw [if_pos a2, if_neg (by omega)]
            · rw [if_neg a2, if_pos (by omega)]
        · rw [if_neg c5]
          rw [no (by rw [numN, if_neg (fun h => c5 (by rw [hall h.2.1]; omega))])]
end B
end Go.Proofs.YtdbihpobfcbmeaaDoor
