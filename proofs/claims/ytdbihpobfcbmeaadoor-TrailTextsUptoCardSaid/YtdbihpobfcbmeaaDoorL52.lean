/- The plain law of patterns: a pattern cut at its stars and looked for greedily, and the table of ends, tell the same. No program here. -/
import Derived.Lib.SplitLaws
set_option linter.unusedVariables false
set_option linter.unusedSimpArgs false
namespace Go.Proofs.YtdbihpobfcbmeaaDoor
namespace B
open Go

/-! ### A text cut at a byte -/
def cons1 (b : UInt8) : List (List UInt8) → List (List UInt8)
  | [] => [[b]]
  | x :: xs => (b :: x) :: xs
def sp (c : UInt8) : List UInt8 → List (List UInt8)
  | [] => [[]]
  | b :: l => if b = c then [] :: sp c l else cons1 b (sp c l)
theorem splitK_cons (c b : UInt8) (h : b ≠ c) (l : List UInt8) : ∀ k, Lib.splitK [c] 0 k (b :: l) = cons1 b (Lib.splitK [c] 0 k l)
  | 0 => rfl
  | k + 1 => by
    have h0 : List.isPrefixOf [c] (b :: l) = false := by simp [List.isPrefixOf]; exact fun h' => h h'.symm
    have hge := Lib.index_ge l [c]
    have hi : Lib.index (b :: l) [c] = if Lib.index l [c] == -1 then -1 else Lib.index l [c] + 1 := by rw [Lib.index, h0]; rfl
    unfold Lib.splitK
    rw [hi]
    by_cases hm : Lib.index l [c] = -1
    · simp [hm, cons1]
    · have e1 : (Lib.index l [c] == -1) = false := by simpa using hm
      have e2 : (Lib.index l [c] + 1 == -1) = false := by simp; omega
      have e3 : (Lib.index l [c] + 1).toNat = (Lib.index l [c]).toNat + 1 := by omega
      rw [e1]
      simp only [Bool.false_eq_true, if_false, e2, e3, cons1, Nat.add_zero, List.take_succ_cons, List.length_singleton]
      rw [show (Lib.index l [c]).toNat + 1 + 1 = ((Lib.index l [c]).toNat + 1) + 1 from rfl, List.drop_succ_cons]
theorem sp_split (c : UInt8) : ∀ l, Lib.splitK [c] 0 (l.count c) l = sp c l
  | [] => rfl
  | b :: l => by
    by_cases h : b = c
    · subst h
      have hi : Lib.index (b :: l) [b] = 0 := by rw [Lib.index]; simp [List.isPrefixOf]
      rw [List.count_cons_self, Lib.splitK, hi, sp, if_pos rfl, ← sp_split b l]
      simp
    · rw [List.count_cons_of_ne (by simpa using h), splitK_cons c b h, sp_split c l, sp, if_neg h]
theorem split_sp (c : UInt8) (l : List UInt8) : Lib.split l [c] = sp c l := by rw [Lib.split, Lib.count_one, sp_split]
theorem sp_ne (c : UInt8) (l : List UInt8) : sp c l ≠ [] := by
  cases l with
  | nil => simp [sp]
  | cons b l =>
    unfold sp
    split
    · simp
    · cases sp c l <;> simp [cons1]
theorem sp_len (c : UInt8) (l : List UInt8) : (sp c l).length = l.count c + 1 := by
  induction l with
  | nil => rfl
  | cons b l ih =>
    unfold sp
    split
    · rename_i h; subst h; simp [ih]
    · rename_i h
      rw [List.count_cons_of_ne (by simpa using h), ← ih]
      have := sp_ne c l
      cases hs : sp c l with
      | nil => exact absurd hs this
      | cons x xs => rfl
theorem sp_one (c : UInt8) : ∀ (l x : List UInt8), sp c l = [x] → x = l
  | [], x, h => by simp [sp] at h; exact h
  | b :: l, x, h => by
    unfold sp at h
    split at h
    · simp at h; exact absurd h.2 (sp_ne c l)
    · cases hs : sp c l with
      | nil => exact absurd hs (sp_ne c l)
      | cons y ys =>
        rw [hs] at h
        simp [cons1] at h
        obtain ⟨rfl, rfl⟩ := h
        rw [sp_one c l y hs]

/-! ### What a pattern lets pass -/
def M : List UInt8 → List UInt8 → Prop
  | [], s => s = []
  | c :: p, s => if c = 42 then ∃ u v, s = u ++ v ∧ M p v else ∃ v, s = c :: v ∧ M p v
theorem M_star (p s : List UInt8) : M (42 :: p) s ↔ ∃ u v, s = u ++ v ∧ M p v := by simp [M]
theorem M_lit {c : UInt8} (h : c ≠ 42) (p s : List UInt8) : M (c :: p) s ↔ ∃ v, s = c :: v ∧ M p v := by simp [M, h]
theorem M_append : ∀ (p q s : List UInt8), M (p ++ q) s ↔ ∃ u v, s = u ++ v ∧ M p u ∧ M q v
  | [], q, s => by
    constructor
    · intro h; exact ⟨[], s, rfl, rfl, h⟩
    · rintro ⟨u, v, rfl, hu, hv⟩
      have : u = [] := hu
      subst this; exact hv
  | c :: p, q, s => by
    by_cases h : c = 42
    · subst h
      rw [List.cons_append, M_star]
      constructor
      · rintro ⟨u, v, rfl, h⟩
        obtain ⟨u2, v2, rfl, h1, h2⟩ := (M_append p q v).1 h
        exact ⟨u ++ u2, v2, by simp, (M_star _ _).2 ⟨u, u2, rfl, h1⟩, h2⟩
      · rintro ⟨u, v, rfl, h1, h2⟩
        obtain ⟨u1, u2, rfl, h3⟩ := (M_star _ _).1 h1
        exact ⟨u1, u2 ++ v, by simp, (M_append p q _).2 ⟨u2, v, rfl, h3, h2⟩⟩
    · rw [List.cons_append, M_lit h]
      constructor
      · rintro ⟨v, rfl, h'⟩
        obtain ⟨u2, v2, rfl, h1, h2⟩ := (M_append p q v).1 h'
        exact ⟨c :: u2, v2, by simp, (M_lit h _ _).2 ⟨u2, rfl, h1⟩, h2⟩
      · rintro ⟨u, v, rfl, h1, h2⟩
        obtain ⟨u1, rfl, h3⟩ := (M_lit h _ _).1 h1
        exact ⟨u1 ++ v, by simp, (M_append p q _).2 ⟨u1, v, rfl, h3, h2⟩⟩
theorem M_any (s : List UInt8) : M [42] s := (M_star _ _).2 ⟨s, [], by simp, rfl⟩
theorem M_more {p s : List UInt8} (h : M p s) (x : List UInt8) : M (p ++ [42]) (s ++ x) := (M_append _ _ _).2 ⟨s, x, rfl, h, M_any x⟩
theorem M_snoc_star (p s : List UInt8) : M (p ++ [42]) s ↔ ∃ u v, s = u ++ v ∧ M p u := by
  rw [M_append]
  constructor
  · rintro ⟨u, v, h, hu, _⟩; exact ⟨u, v, h, hu⟩
  · rintro ⟨u, v, h, hu⟩; exact ⟨u, v, h, hu, M_any v⟩
theorem M_snoc_lit {c : UInt8} (h : c ≠ 42) (p s : List UInt8) : M (p ++ [c]) s ↔ ∃ u, s = u ++ [c] ∧ M p u := by
  rw [M_append]
  constructor
  · rintro ⟨u, v, rfl, hu, hv⟩
    obtain ⟨w, rfl, hw⟩ := (M_lit h _ _).1 hv
    have : w = [] := hw
    subst this
    exact ⟨u, rfl, hu⟩
  · rintro ⟨u, rfl, hu⟩; exact ⟨u, [c], rfl, hu, (M_lit h _ _).2 ⟨[], rfl, rfl⟩⟩
/-! One more byte of the pattern, one more of the text. -/
theorem M_star_0 (p s : List UInt8) : M (p ++ [42]) (s.take 0) ↔ M p (s.take 0) := by
  simp only [List.take_zero]
  rw [M_snoc_star]
  constructor
  · rintro ⟨u, v, h, hu⟩
    obtain ⟨rfl, rfl⟩ := List.append_eq_nil_iff.1 h.symm
    exact hu
  · intro h; exact ⟨[], [], rfl, h⟩
theorem take_snoc (s : List UInt8) (k : Nat) (h : k < s.length) : s.take (k + 1) = s.take k ++ [s.getD k 0] := by
  rw [List.getD_eq_getElem?_getD, List.getElem?_eq_getElem h, Option.getD_some, List.take_succ_eq_append_getElem h]
theorem M_star_s (p s : List UInt8) (k : Nat) (h : k < s.length) : M (p ++ [42]) (s.take (k + 1)) ↔ M p (s.take (k + 1)) ∨ M (p ++ [42]) (s.take k) := by
  rw [M_snoc_star, M_snoc_star, take_snoc s k h]
  constructor
  · rintro ⟨u, v, e, hu⟩
    rcases List.eq_nil_or_concat v with rfl | ⟨v', d, rfl⟩
    · left; rw [e]; simpa using hu
    · right
      rw [List.concat_eq_append, ← List.append_assoc] at e
      exact ⟨u, v', (List.append_inj' e rfl).1, hu⟩
  · rintro (h | ⟨u, v, e, hu⟩)
    · exact ⟨_, [], by simp, h⟩
    · exact ⟨u, v ++ [s.getD k 0], by rw [e]; simp, hu⟩
theorem M_lit_0 {c : UInt8} (h : c ≠ 42) (p s : List UInt8) : ¬ M (p ++ [c]) (s.take 0) := by
  simp only [List.take_zero]
  rw [M_snoc_lit h]
  rintro ⟨u, e, _⟩
  simp at e
theorem M_lit_s {c : UInt8} (h : c ≠ 42) (p s : List UInt8) (k : Nat) (hk : k < s.length) : M (p ++ [c]) (s.take (k + 1)) ↔ M p (s.take k) ∧ s.getD k 0 = c := by
  rw [M_snoc_lit h, take_snoc s k hk]
  constructor
  · rintro ⟨u, e, hu⟩
    have := List.append_inj' e rfl
    simp at this
    exact ⟨by rw [this.1]; exact hu, by rw [List.getD_eq_getElem?_getD]; exact this.2⟩
  · rintro ⟨h1, h2⟩; exact ⟨_, by rw [h2], h1⟩

/-! ### By parts -/
def H : List (List UInt8) → List UInt8 → Prop
  | [], _ => False
  | [x], s => s = x
  | x :: y :: ys, s => ∃ u v, s = x ++ (u ++ v) ∧ H (y :: ys) v
theorem H_cons {xs : List (List UInt8)} (hx : xs ≠ []) (x s : List UInt8) : H (x :: xs) s ↔ ∃ u v, s = x ++ (u ++ v) ∧ H xs v := by
  cases xs with
  | nil => exact absurd rfl hx
  | cons y ys => rfl
theorem M_H : ∀ (p s : List UInt8), M p s ↔ H (sp 42 p) s
  | [], s => by simp [M, sp, H]
  | c :: p, s => by
    by_cases h : c = 42
    · subst h
      rw [M_star, sp, if_pos rfl, H_cons (sp_ne _ _)]
      simp only [List.nil_append, M_H p]
    · rw [M_lit h, sp, if_neg h]
      cases hs : sp 42 p with
      | nil => exact absurd hs (sp_ne _ _)
      | cons x xs =>
        simp only [M_H p, hs, cons1]
        cases xs with
        | nil => simp [H]
        | cons y ys =>
          simp only [H]
          constructor
          · rintro ⟨v, rfl, u, v', rfl, hv⟩; exact ⟨u, v', by simp, hv⟩
          · rintro ⟨u, v, rfl, hv⟩; exact ⟨_, rfl, u, v, rfl, hv⟩
theorem index_spec : ∀ s sub : List UInt8, (Lib.index s sub = -1 ∧ ∀ u v, s ≠ u ++ (sub ++ v)) ∨
    ∃ i : Nat, Lib.index s sub = i ∧ i + sub.length ≤ s.length ∧ s = s.take i ++ (sub ++ s.drop (i + sub.length)) ∧ ∀ u v, s = u ++ (sub ++ v) → i ≤ u.length
  | [], sub => by
    cases sub with
    | nil => exact .inr ⟨0, rfl, by simp, by simp, by simp⟩
    | cons a t => exact .inl ⟨rfl, by simp⟩
  | b :: l, sub => by
    unfold Lib.index
    cases hp : sub.isPrefixOf (b :: l) with
    | true =>
      obtain ⟨t, ht⟩ := List.isPrefixOf_iff_prefix.1 hp
      refine .inr ⟨0, by simp, by rw [← ht]; simp, ?_, by simp⟩
      rw [← ht]; simp
    | false =>
      have hnp : ∀ v, b :: l ≠ sub ++ v := fun v e => by
        have : sub.isPrefixOf (b :: l) = true := List.isPrefixOf_iff_prefix.2 ⟨v, e.symm⟩
        rw [hp] at this; cases this
      rcases index_spec l sub with ⟨h1, h2⟩ | ⟨i, h1, h2, h3, h4⟩
      · refine .inl ⟨by simp [h1], fun u v e => ?_⟩
        cases u with
        | nil => exact hnp v (by simpa using e)
        | cons a u => simp at e; exact h2 u v e.2
      · refine .inr ⟨i + 1, ?_, by simp only [List.length_cons]; omega, ?_, fun u v e => ?_⟩
        · have : ((i : Int) == -1) = false := by simp
          simp [h1, this]
        · rw [List.take_succ_cons, show i + 1 + sub.length = (i + sub.length) + 1 by omega, List.drop_succ_cons, List.cons_append, ← h3]
        · cases u with
          | nil => exact absurd (by simpa using e) (hnp v)
          | cons a u => simp at e; have := h4 u v e.2; simp; omega
/-- The parts behind the first, looked for from the left; the last at the end. -/
def gr : List (List UInt8) → List UInt8 → Bool
  | [], _ => false
  | [x], r => x.isSuffixOf r
  | x :: y :: ys, r => if Lib.index r x < 0 then false else gr (y :: ys) (r.drop ((Lib.index r x).toNat + x.length))
theorem gr_iff : ∀ (xs : List (List UInt8)), xs ≠ [] → ∀ r, gr xs r = true ↔ ∃ u v, r = u ++ v ∧ H xs v
  | [], h, _ => absurd rfl h
  | [x], _, r => by
    simp only [gr, H, List.isSuffixOf_iff_suffix]
    constructor
    · rintro ⟨u, rfl⟩; exact ⟨u, x, rfl, rfl⟩
    · rintro ⟨u, v, rfl, rfl⟩; exact ⟨u, rfl⟩
  | x :: y :: ys, _, r => by
    have ih := gr_iff (y :: ys) (by simp)
    rcases index_spec r x with ⟨h1, h2⟩ | ⟨i, h1, h2, h3, h4⟩
    · simp only [gr, h1]
      constructor
      · intro h; simp at h
      · rintro ⟨u, v, rfl, u', v', rfl, _⟩; exact absurd rfl (h2 u _)
    · have hn : ¬ (Lib.index r x < 0) := by omega
      have he : (Lib.index r x).toNat = i := by omega
      simp only [gr, hn, if_false, he, ih]
      constructor
      · rintro ⟨u, v, h5, h6⟩
        exact ⟨r.take i, x ++ (u ++ v), by rw [← h5]; exact h3, u, v, rfl, h6⟩
      · rintro ⟨u, v, rfl, u', v', rfl, hv⟩
        have hi := h4 u _ rfl
        have hs1 : v' <:+ u ++ (x ++ (u' ++ v')) := ⟨u ++ (x ++ u'), by simp⟩
        have hs2 : (u ++ (x ++ (u' ++ v'))).drop (i + x.length) <:+ u ++ (x ++ (u' ++ v')) := List.drop_suffix _ _
        obtain ⟨w, hw⟩ := List.suffix_of_suffix_length_le hs1 hs2 (by simp; omega)
        exact ⟨w, v', hw.symm, hv⟩
/-- The whole, as the program tells it. -/
def globF (p s : List UInt8) : Bool := match sp 42 p with
  | [] => false
  | [_] => decide (p = s)
  | x :: xs => x.isPrefixOf s && gr xs (s.drop x.length)
theorem globF_iff (p s : List UInt8) : globF p s = true ↔ M p s := by
  unfold globF
  split
  · rename_i h; exact absurd h (sp_ne _ _)
  · rename_i x h
    have := sp_one _ _ _ h
    subst this
    rw [M_H, h]
    simp only [decide_eq_true_eq, H]
    exact ⟨fun h => h.symm, fun h => h.symm⟩
  · rename_i x xs hxs h
    have hne : xs ≠ [] := fun e => hxs e
    rw [M_H, h, H_cons hne]
    simp only [Bool.and_eq_true, gr_iff _ hne, List.isPrefixOf_iff_prefix]
    constructor
    · rintro ⟨⟨t, rfl⟩, u, v, h1, h2⟩
      simp at h1
      exact ⟨u, v, by rw [h1], h2⟩
    · rintro ⟨u, v, rfl, h2⟩
      exact ⟨⟨u ++ v, rfl⟩, u, v, by simp, h2⟩
theorem gr_step (l : List (List UInt8)) (i : Nat) (x : List UInt8) (hx : l[i]? = some x) (h : i + 1 < l.length) (r : List UInt8) : gr (l.drop i) r = if Lib.index r x < 0 then false else gr (l.drop (i + 1)) (r.drop ((Lib.index r x).toNat + x.length)) := by
  have h0 : i < l.length := by omega
  rw [List.getElem?_eq_getElem h0] at hx
  cases hx
  rw [List.drop_eq_getElem_cons h0, List.drop_eq_getElem_cons h]
  rfl
theorem gr_last (l : List (List UInt8)) (i : Nat) (x : List UInt8) (hx : l[i]? = some x) (h : i + 1 = l.length) (r : List UInt8) : gr (l.drop i) r = x.isSuffixOf r := by
  have h0 : i < l.length := by omega
  rw [List.getElem?_eq_getElem h0] at hx
  cases hx
  rw [List.drop_eq_getElem_cons h0, List.drop_eq_nil_of_le (by omega)]
  rfl
theorem globF_one (p s : List UInt8) (h : (sp 42 p).length = 1) : globF p s = decide (p = s) := by
  unfold globF
  match hs : sp 42 p, h with
  | [x], _ => rfl
theorem globF_more (p s x : List UInt8) (hx : (sp 42 p)[0]? = some x) (h : (sp 42 p).length ≠ 1) : globF p s = (x.isPrefixOf s && gr ((sp 42 p).drop 1) (s.drop x.length)) := by
  unfold globF
  match hs : sp 42 p with
  | [] => rw [hs] at hx; simp at hx
  | [y] => rw [hs] at h; simp at h
  | y :: z :: zs => rw [hs] at hx; simp at hx; subst hx; rfl
noncomputable def mb (p s : List UInt8) : Bool := @decide (M p s) (Classical.propDecidable _)
theorem mb_iff (p s : List UInt8) : mb p s = true ↔ M p s := by unfold mb; exact @decide_eq_true_iff _ (Classical.propDecidable _)
theorem globF_mb (p s : List UInt8) : globF p s = mb p s := by rw [Bool.eq_iff_iff, globF_iff, mb_iff]
theorem mb_0 (k : Nat) (s : List UInt8) (hk : k ≤ s.length) : mb [] (s.take k) = decide (k = 0) := by
  rw [Bool.eq_iff_iff, mb_iff, decide_eq_true_eq]
  show s.take k = [] ↔ k = 0
  rw [List.take_eq_nil_iff]
  constructor
  · rintro (h | rfl)
    · exact h
    · simpa using hk
  · exact .inl
theorem mb_star_0 (p s : List UInt8) : mb (p ++ [42]) (s.take 0) = mb p (s.take 0) := by rw [Bool.eq_iff_iff, mb_iff, mb_iff, M_star_0]
theorem mb_star_s (p s : List UInt8) (k : Nat) (h : k < s.length) : mb (p ++ [42]) (s.take (k + 1)) = (mb p (s.take (k + 1)) || mb (p ++ [42]) (s.take k)) := by rw [Bool.eq_iff_iff, Bool.or_eq_true, mb_iff, mb_iff, mb_iff, M_star_s p s k h]
theorem mb_lit_0 {c : UInt8} (h : c ≠ 42) (p s : List UInt8) : mb (p ++ [c]) (s.take 0) = false := by
  have : ¬ mb (p ++ [c]) (s.take 0) = true := by rw [mb_iff]; exact M_lit_0 h p s
  simpa using this
theorem mb_lit_s {c : UInt8} (h : c ≠ 42) (p s : List UInt8) (k : Nat) (hk : k < s.length) : mb (p ++ [c]) (s.take (k + 1)) = (mb p (s.take k) && decide (s.getD k 0 = c)) := by
  rw [Bool.eq_iff_iff, Bool.and_eq_true, decide_eq_true_eq, mb_iff, mb_iff, M_lit_s h p s k hk]
end B
end Go.Proofs.YtdbihpobfcbmeaaDoor
