/- Words without the program: strings.ReplaceAll, and the escapes of a way's names. -/
import Derived.Test.YtdbihpobfcbmeaaDoorPL
import Derived.Lib.Replace
set_option linter.unusedVariables false
set_option linter.unusedSimpArgs false
namespace Go.Proofs.YtdbihpobfcbmeaaDoor
namespace B
open Go Go.RowKit

theorem replaceAll_eq {old new : List UInt8} (hn : old ≠ new) (s : List UInt8) : Lib.replaceAll s old new = Lib.replaceK old new (Lib.count s old) s := by
  unfold Lib.replaceAll Lib.replace Lib.replaceNum
  rw [if_neg (by simpa using hn), if_pos (by left; omega)]
theorem replaceAll_nil {old new : List UInt8} (ho : old ≠ []) (hn : old ≠ new) : Lib.replaceAll [] old new = [] := by
  rw [replaceAll_eq hn, Lib.count_miss]
  · rfl
  · cases old with
    | nil => exact absurd rfl ho
    | cons b l => rfl
theorem replaceAll_hit {old new : List UInt8} (ho : old ≠ []) (hn : old ≠ new) (l : List UInt8) : Lib.replaceAll (old ++ l) old new = new ++ Lib.replaceAll l old new := by
  have hi : Lib.index (old ++ l) old = ((0 : Nat) : Int) := by
    cases old with
    | nil => exact absurd rfl ho
    | cons b r =>
      rw [List.cons_append, Lib.index, if_pos]; · rfl
      rw [← List.cons_append, List.isPrefixOf_iff_prefix]; exact List.prefix_append _ _
  have hc := Lib.count_hit ho hi
  rw [Nat.zero_add, List.drop_left] at hc
  rw [replaceAll_eq hn, replaceAll_eq hn, hc, Nat.add_comm, Lib.replaceK_hit _ _ _ _ 0 hi, Nat.zero_add, List.drop_left]
  simp
theorem replaceAll_miss {old new : List UInt8} (ho : old ≠ []) (hn : old ≠ new) (c : UInt8) (l : List UInt8) (h : old.isPrefixOf (c :: l) = false) : Lib.replaceAll (c :: l) old new = c :: Lib.replaceAll l old new := by
  rw [replaceAll_eq hn, replaceAll_eq hn]
  have hx : Lib.index (c :: l) old = if Lib.index l old == -1 then -1 else Lib.index l old + 1 := by rw [Lib.index, h]; rfl
  rcases Lib.index_spec l old with ⟨h1, _⟩ | ⟨i, h1, _⟩
  · rw [h1] at hx
    rw [Lib.count_miss h1, Lib.count_miss (hx.trans rfl)]; rfl
  · have hx : Lib.index (c :: l) old = ((i + 1 : Nat) : Int) := by
      rw [hx, h1, if_neg]
      · push_cast; rfl
      · intro e; have := beq_iff_eq.1 e; omega
    have hd : (c :: l).drop (i + 1 + old.length) = l.drop (i + old.length) := by
      rw [show i + 1 + old.length = (i + old.length) + 1 by omega, List.drop_succ_cons]
    rw [Lib.count_hit ho hx, Lib.count_hit ho h1, hd, Nat.add_comm, Lib.replaceK_hit _ _ _ _ _ hx, Lib.replaceK_hit _ _ _ _ _ h1, hd, List.take_succ_cons]
    rfl
theorem replaceK_len (old new : List UInt8) : ∀ (k : Nat) (s : List UInt8), (Lib.replaceK old new k s).length ≤ s.length + k * new.length
  | 0, s => by simp [Lib.replaceK]
  | k + 1, s => by
    rw [Lib.replaceK]
    split
    · omega
    · have ih := replaceK_len old new k (s.drop ((Lib.index s old).toNat + old.length))
      rw [List.length_drop] at ih
      rw [List.length_append, List.length_append, List.length_take, Nat.succ_mul]
      omega
theorem replaceAll_len (s old new : List UInt8) : (Lib.replaceAll s old new).length ≤ s.length + (s.length + 1) * new.length := by
  by_cases hn : old = new
  · unfold Lib.replaceAll Lib.replace
    rw [if_pos (by simpa using hn)]; omega
  · rw [replaceAll_eq hn]
    have h1 := replaceK_len old new (Lib.count s old) s
    have h2 := Nat.mul_le_mul_right new.length (Lib.count_le s old)
    omega
/-- One byte for some. -/
def rep1 (b : UInt8) (new : List UInt8) (s : List UInt8) : List UInt8 := s.flatMap fun c => if c = b then new else [c]
theorem replaceAll_one (b : UInt8) (new : List UInt8) (hn : [b] ≠ new) : ∀ s : List UInt8, Lib.replaceAll s [b] new = rep1 b new s
  | [] => replaceAll_nil (by simp) hn
  | c :: l => by
    have ih := replaceAll_one b new hn l
    by_cases h : c = b
    · subst h
      have := replaceAll_hit (by simp) hn l
      rw [List.singleton_append] at this
      rw [this, ih, rep1, rep1, List.flatMap_cons, if_pos rfl]
    · rw [replaceAll_miss (by simp) hn c l (by simp [List.isPrefixOf]; exact fun e => h e.symm), ih, rep1, rep1, List.flatMap_cons, if_neg h]; rfl

/-! ### The escapes of a way's names -/
def escB (s : List UInt8) : List UInt8 := s.flatMap fun c => if c = 126 then [126, 48] else if c = 47 then [126, 49] else [c]
theorem escB_cons (c : UInt8) (s : List UInt8) : escB (c :: s) = (if c = 126 then [126, 48] else if c = 47 then [126, 49] else [c]) ++ escB s := rfl
theorem escB_len (s : List UInt8) : (escB s).length ≤ 2 * s.length := by
  induction s with
  | nil => simp [escB]
  | cons c s ih =>
    rw [escB_cons, List.length_append, List.length_cons]
    have : (if c = 126 then [126, 48] else if c = 47 then [126, 49] else [c] : List UInt8).length ≤ 2 := by
      split
      · simp
      · split <;> simp
    omega
theorem esc_two (s : List UInt8) : Lib.replaceAll (Lib.replaceAll s [126] [126, 48]) [47] [126, 49] = escB s := by
  rw [replaceAll_one _ _ (by simp), replaceAll_one _ _ (by simp)]
  induction s with
  | nil => rfl
  | cons c s ih =>
    rw [escB_cons, ← ih, rep1, rep1, List.flatMap_cons, List.flatMap_append]
    congr 1
    by_cases h : c = 126
    · rw [if_pos h, if_pos h]; rfl
    · rw [if_neg h, if_neg h]
      by_cases h2 : c = 47
      · rw [if_pos h2]; subst h2; rfl
      · rw [if_neg h2]; simp [h2]
theorem unesc_a (n : List UInt8) : Lib.replaceAll (escB n) [126, 49] [47] = rep1 126 [126, 48] n := by
  induction n with
  | nil => exact replaceAll_nil (by simp) (by simp)
  | cons c n ih =>
    rw [escB_cons, rep1, List.flatMap_cons]
    by_cases h : c = 126
    · rw [if_pos h, if_pos h, List.cons_append, List.cons_append, List.nil_append, replaceAll_miss (by simp) (by simp) _ _ (by simp [List.isPrefixOf]),
        replaceAll_miss (by simp) (by simp) _ _ (by simp [List.isPrefixOf]), ih]; rfl
    · rw [if_neg h, if_neg h]
      by_cases h2 : c = 47
      · rw [if_pos h2, replaceAll_hit (by simp) (by simp), ih, h2]; rfl
      · rw [if_neg h2, List.singleton_append, replaceAll_miss (by simp) (by simp) _ _ (by simp [List.isPrefixOf]; intro e; exact absurd e.symm h), ih]; rfl
theorem unesc_b (n : List UInt8) : Lib.replaceAll (rep1 126 [126, 48] n) [126, 48] [126] = n := by
  induction n with
  | nil => exact replaceAll_nil (by simp) (by simp)
  | cons c n ih =>
    rw [rep1, List.flatMap_cons]
    by_cases h : c = 126
    · rw [if_pos h, replaceAll_hit (by simp) (by simp)]
      subst h; exact congrArg (126 :: ·) ih
    · rw [if_neg h, List.singleton_append, replaceAll_miss (by simp) (by simp) _ _ (by simp [List.isPrefixOf]; intro e; exact absurd e.symm h)]
      exact congrArg (c :: ·) ih
theorem unesc_two (n : List UInt8) : Lib.replaceAll (Lib.replaceAll (escB n) [126, 49] [47]) [126, 48] [126] = n := by rw [unesc_a, unesc_b]
/-- A name out of its escapes. -/
def dec : List UInt8 → Option (List UInt8)
  | [] => some []
  | c :: l =>
    if c = 126 then
      match l with
      | [] => none
      | d :: r => if d = 48 then (dec r).map (126 :: ·) else if d = 49 then (dec r).map (47 :: ·) else none
    else (dec l).map (c :: ·)
theorem dec_tilde (d : UInt8) (r : List UInt8) : dec (126 :: d :: r) = if d = 48 then (dec r).map (126 :: ·) else if d = 49 then (dec r).map (47 :: ·) else none := by rw [dec.eq_def]; rfl
theorem dec_one : dec [126] = none := by rfl
theorem dec_ne {c : UInt8} (h : c ≠ 126) (l : List UInt8) : dec (c :: l) = (dec l).map (c :: ·) := by rw [dec.eq_def]; exact if_neg h
theorem dec_esc (n : List UInt8) : dec (escB n) = some n := by
  induction n with
  | nil => rfl
  | cons c n ih =>
    rw [escB_cons]
    by_cases h : c = 126
    · rw [if_pos h, List.cons_append, List.cons_append, List.nil_append, dec_tilde, if_pos rfl, ih, h]; rfl
    · rw [if_neg h]
      by_cases h2 : c = 47
      · rw [if_pos h2, List.cons_append, List.cons_append, List.nil_append, dec_tilde, if_neg (by decide), if_pos rfl, ih, h2]; rfl
      · rw [if_neg h2, List.singleton_append, dec_ne h, ih]; rfl
theorem esc_dec : ∀ (k : Nat) (s n : List UInt8), s.length ≤ k → dec s = some n → 47 ∉ s → escB n = s
  | _, [], n, _, h, _ => by cases h; rfl
  | 0, c :: l, n, hk, _, _ => by simp at hk
  | k + 1, c :: l, n, hk, h, hs => by
    simp only [List.length_cons] at hk
    simp only [List.mem_cons, not_or] at hs
    by_cases hc : c = 126
    · subst hc
      cases l with
      | nil => rw [dec_one] at h; cases h
      | cons d r =>
        simp only [List.length_cons] at hk
        simp only [List.mem_cons, not_or] at hs
        rw [dec_tilde] at h
        by_cases hd : d = 48
        · rw [if_pos hd] at h
          cases hr : dec r with
          | none => rw [hr] at h; cases h
          | some m =>
            rw [hr] at h; cases h
            rw [escB_cons, esc_dec k r m (by omega) hr hs.2.2, hd]; rfl
        · rw [if_neg hd] at h
          by_cases hd2 : d = 49
          · rw [if_pos hd2] at h
            cases hr : dec r with
            | none => rw [hr] at h; cases h
            | some m =>
              rw [hr] at h; cases h
              rw [escB_cons, esc_dec k r m (by omega) hr hs.2.2, hd2]; rfl
          · rw [if_neg hd2] at h; cases h
    · rw [dec_ne hc] at h
      cases hr : dec l with
      | none => rw [hr] at h; cases h
      | some m =>
        rw [hr] at h; cases h
        rw [escB_cons, esc_dec k l m (by omega) hr hs.2, if_neg hc, if_neg (Ne.symm hs.1)]; rfl
/-! ### Ways -/
def tot (xs : List (List UInt8)) : Nat := (xs.map List.length).sum
theorem tot_cons (x : List UInt8) (xs : List (List UInt8)) : tot (x :: xs) = x.length + tot xs := rfl
theorem tot_take : ∀ (xs : List (List UInt8)) (k : Nat), tot (xs.take k) ≤ tot xs
  | [], k => by simp
  | x :: r, 0 => by simp [tot]
  | x :: r, k + 1 => by
    have := tot_take r k
    rw [List.take_succ_cons, tot_cons, tot_cons]; omega
theorem tot_le : ∀ (xs : List (List UInt8)), tot xs + xs.length ≤ (xs.map fun s => s.length + 1).sum
  | [] => by simp [tot]
  | x :: r => by
    have := tot_le r
    simp only [tot_cons, List.map_cons, List.sum_cons, List.length_cons] at this ⊢; omega
theorem tot_mem {xs : List (List UInt8)} {x : List UInt8} (h : x ∈ xs) : x.length ≤ tot xs := by
  induction xs with
  | nil => cases h
  | cons y r ih =>
    rw [tot_cons]
    rcases List.mem_cons.1 h with rfl | h
    · omega
    · have := ih h; omega
def wayS (xs : List (List UInt8)) : List UInt8 := xs.flatMap fun x => 47 :: escB x
theorem wayS_cons (x : List UInt8) (xs : List (List UInt8)) : wayS (x :: xs) = (47 :: escB x) ++ wayS xs := rfl
theorem wayS_snoc (xs : List (List UInt8)) (x : List UInt8) : wayS (xs ++ [x]) = wayS xs ++ (47 :: escB x) := by simp [wayS]
theorem wayS_len : ∀ xs : List (List UInt8), (wayS xs).length ≤ 2 * tot xs + xs.length
  | [] => by simp [wayS]
  | x :: r => by
    have := wayS_len r
    have := escB_len x
    rw [wayS_cons, tot_cons, List.length_append, List.length_cons, List.length_cons]; omega
theorem wayS_take_le (xs : List (List UInt8)) (k : Nat) : (wayS (xs.take k)).length ≤ (wayS xs).length := by
  conv => rhs; rw [← List.take_append_drop k xs]
  unfold wayS
  rw [List.flatMap_append, List.length_append]; omega
def decAll : List (List UInt8) → Option (List (List UInt8))
  | [] => some []
  | p :: ps => (dec p).bind fun n => (decAll ps).map (n :: ·)
theorem decAll_cons (p : List UInt8) (ps : List (List UInt8)) : decAll (p :: ps) = (dec p).bind fun n => (decAll ps).map (n :: ·) := rfl
theorem decAll_esc : ∀ xs : List (List UInt8), decAll (xs.map escB) = some xs
  | [] => rfl
  | x :: r => by rw [List.map_cons, decAll_cons, dec_esc, decAll_esc r]; rfl
theorem decAll_len : ∀ (xs ys : List (List UInt8)), decAll xs = some ys → ys.length = xs.length
  | [], ys, h => by cases h; rfl
  | p :: ps, ys, h => by
    rw [decAll_cons] at h
    cases hp : dec p with
    | none => rw [hp] at h; cases h
    | some n =>
      cases hq : decAll ps with
      | none => rw [hp, hq] at h; cases h
      | some m => rw [hp, hq] at h; cases h; simp [decAll_len ps m hq]
theorem dec_len : ∀ (k : Nat) (s n : List UInt8), s.length ≤ k → dec s = some n → n.length ≤ s.length
  | _, [], n, _, h => by cases h; simp
  | 0, c :: l, n, hk, _ => by simp at hk
  | k + 1, c :: l, n, hk, h => by
    simp only [List.length_cons] at hk
    by_cases hc : c = 126
    · subst hc
      cases l with
      | nil => rw [dec_one] at h; cases h
      | cons d r =>
        simp only [List.length_cons] at hk
        rw [dec_tilde] at h
        have key : ∀ x, (dec r).map (x :: ·) = some n → n.length ≤ (126 :: d :: r).length := by
          intro x h
          cases hr : dec r with
          | none => rw [hr] at h; cases h
          | some m =>
            rw [hr] at h; cases h
            have := dec_len k r m (by omega) hr
            simp; omega
        split at h
        · exact key _ h
        · split at h
          · exact key _ h
          · cases h
    · rw [dec_ne hc] at h
      cases hr : dec l with
      | none => rw [hr] at h; cases h
      | some m =>
        rw [hr] at h; cases h
        have := dec_len k l m (by omega) hr
        simp; omega
/-- What a way's text reads as: names, and what is wrong with it. -/
def readS : List UInt8 → List (List UInt8) × Int
  | [] => ([], 0)
  | c :: r => if c = 47 then (match decAll (sp 47 r) with | some l => (l, 0) | none => ([], 6)) else ([], 6)
theorem cons1_eq (b : UInt8) (x : List UInt8) (l : List (List UInt8)) : cons1 b (x :: l) = (b :: x) :: l := rfl
theorem sp_app (c : UInt8) : ∀ (a r : List UInt8), c ∉ a → sp c (a ++ c :: r) = a :: sp c r
  | [], r, _ => by simp [sp]
  | b :: a, r, h => by
    simp only [List.mem_cons, not_or] at h
    rw [List.cons_append, sp, if_neg (Ne.symm h.1), sp_app c a r h.2]; rfl
theorem sp_no (c : UInt8) : ∀ (a : List UInt8), c ∉ a → sp c a = [a]
  | [], _ => rfl
  | b :: a, h => by
    simp only [List.mem_cons, not_or] at h
    rw [sp, if_neg (Ne.symm h.1), sp_no c a h.2]; rfl
theorem sp_mem (c : UInt8) : ∀ (s p : List UInt8), p ∈ sp c s → p.length ≤ s.length ∧ c ∉ p
  | [], p, h => by simp [sp] at h; subst h; simp
  | b :: s, p, h => by
    rw [sp] at h
    split at h
    · rcases List.mem_cons.1 h with rfl | h
      · simp
      · have := sp_mem c s p h; simp; exact ⟨by omega, this.2⟩
    · rename_i hb
      cases hs : sp c s with
      | nil => exact absurd hs (sp_ne c s)
      | cons x l =>
        rw [hs, cons1_eq] at h
        have ih := sp_mem c s
        rw [hs] at ih
        rcases List.mem_cons.1 h with rfl | h
        · have := ih x (by simp)
          simp only [List.length_cons, List.mem_cons, not_or]
          exact ⟨by omega, Ne.symm hb, this.2⟩
        · have := ih p (by simp [h]); simp; exact ⟨by omega, this.2⟩
theorem escB_no47 (s : List UInt8) : 47 ∉ escB s := by
  induction s with
  | nil => simp [escB]
  | cons c s ih =>
    rw [escB_cons, List.mem_append, not_or]
    refine ⟨?_, ih⟩
    split
    · decide
    · split
      · decide
      · rename_i h; simp; exact fun e => h e.symm
theorem sp_way : ∀ (x : List UInt8) (xs : List (List UInt8)), sp 47 (escB x ++ wayS xs) = (x :: xs).map escB
  | x, [] => by simp [wayS, sp_no 47 _ (escB_no47 x)]
  | x, y :: r => by
    rw [wayS_cons, List.cons_append, sp_app 47 _ _ (escB_no47 x), sp_way y r]; rfl
theorem readS_way (xs : List (List UInt8)) : readS (wayS xs) = (xs, 0) := by
  cases xs with
  | nil => rfl
  | cons x r => rw [wayS_cons, List.cons_append, readS, if_pos rfl, sp_way, decAll_esc]
/-- A way's text read from its front. -/
def refGo : List UInt8 → List UInt8 → List (List UInt8) → List (List UInt8) × Int
  | [], cur, acc => (acc ++ [cur], 0)
  | [c], cur, acc => if c = 47 then (acc ++ [cur] ++ [[]], 0) else if c = 126 then ([], 6) else (acc ++ [cur ++ [c]], 0)
  | c :: d :: r, cur, acc => if c = 47 then refGo (d :: r) [] (acc ++ [cur]) else if c = 126 then (if d = 48 then refGo r (cur ++ [126]) acc else if d = 49 then refGo r (cur ++ [47]) acc else ([], 6)) else refGo (d :: r) (cur ++ [c]) acc
def putS (cur : List UInt8) (acc : List (List UInt8)) : Option (List (List UInt8)) → List (List UInt8) × Int
  | some (n :: m) => (acc ++ (cur ++ n) :: m, 0)
  | some [] => ([], 0)
  | none => ([], 6)
theorem decAll_ne {p : List UInt8} {ps : List (List UInt8)} (b : UInt8) (hb : b ≠ 126) : decAll (cons1 b (p :: ps)) = (decAll (p :: ps)).map (cons1 b) := by
  rw [cons1_eq, decAll_cons, decAll_cons, dec_ne hb]
  cases dec p with
  | none => rfl
  | some n => cases decAll ps <;> rfl
theorem decAll_two {p : List UInt8} {ps : List (List UInt8)} (d : UInt8) : decAll (cons1 126 (cons1 d (p :: ps))) = if d = 48 then (decAll (p :: ps)).map (cons1 126) else if d = 49 then (decAll (p :: ps)).map (cons1 47) else none := by
  rw [cons1_eq, cons1_eq, decAll_cons, decAll_cons, dec_tilde]
  split
  · cases dec p with
    | none => rfl
    | some n => cases decAll ps <;> rfl
  · split
    · cases dec p with
      | none => rfl
      | some n => cases decAll ps <;> rfl
    · rfl
theorem putS_cons1 (b : UInt8) (cur : List UInt8) (acc : List (List UInt8)) (o : Option (List (List UInt8))) : putS (cur ++ [b]) acc o = putS cur acc (o.map (cons1 b)) ∨ o = some [] := by
  cases o with
  | none => left; rfl
  | some l =>
    cases l with
    | nil => right; rfl
    | cons n m => left; simp [putS, cons1_eq]
theorem decAll_not_nil (p : List UInt8) (ps : List (List UInt8)) : decAll (p :: ps) ≠ some [] := by
  rw [decAll_cons]
  cases dec p with
  | none => simp
  | some n => cases decAll ps <;> simp
theorem refGo_put : ∀ (k : Nat) (s cur : List UInt8) (acc : List (List UInt8)), s.length ≤ k → refGo s cur acc = putS cur acc (decAll (sp 47 s))
  | _, [], cur, acc, _ => by simp [refGo, sp, decAll, dec, putS]
  | 0, c :: l, cur, acc, h => by simp at h
  | k + 1, c :: l, cur, acc, h => by
    simp only [List.length_cons] at h
    by_cases hc : c = 47
    · subst hc
      have e : refGo (47 :: l) cur acc = refGo l [] (acc ++ [cur]) := by
        cases l with
        | nil => simp [refGo]
        | cons d r => rw [refGo, if_pos rfl]
      rw [e, refGo_put k l _ _ (by omega), sp, if_pos rfl, decAll_cons]
      cases hd : decAll (sp 47 l) with
      | none => rfl
      | some m =>
        cases m with
        | nil =>
          cases hs : sp 47 l with
          | nil => exact absurd hs (sp_ne _ _)
          | cons p ps => rw [hs] at hd; exact absurd hd (decAll_not_nil _ _)
        | cons n m => simp [putS, dec]
    · cases l with
      | nil =>
        rw [refGo, if_neg hc]
        by_cases h2 : c = 126
        · subst h2; rfl
        · rw [if_neg h2, sp, if_neg hc]
          show _ = putS cur acc (decAll [[c]])
          rw [decAll_cons, dec_ne h2]; rfl
      | cons d r =>
        rw [refGo, if_neg hc, sp, if_neg hc]
        by_cases h2 : c = 126
        · subst h2
          rw [if_pos rfl]
          by_cases hd47 : d = 47
          · subst hd47
            rw [if_neg (by decide), if_neg (by decide), sp, if_pos rfl, cons1_eq, decAll_cons, dec_one]; rfl
          · rw [sp, if_neg hd47]
            cases hs : sp 47 r with
            | nil => exact absurd hs (sp_ne _ _)
            | cons p ps =>
              rw [decAll_two]
              simp only [List.length_cons] at h
              by_cases h48 : d = 48
              · rw [if_pos h48, if_pos h48, refGo_put k r _ _ (by omega), hs]
                exact (putS_cons1 _ _ _ _).resolve_right (decAll_not_nil _ _)
              · rw [if_neg h48, if_neg h48]
                by_cases h49 : d = 49
                · rw [if_pos h49, if_pos h49, refGo_put k r _ _ (by omega), hs]
                  exact (putS_cons1 _ _ _ _).resolve_right (decAll_not_nil _ _)
                · rw [if_neg h49, if_neg h49]; rfl
        · rw [if_neg h2, refGo_put k (d :: r) _ _ (by omega)]
          cases hs : sp 47 (d :: r) with
          | nil => exact absurd hs (sp_ne _ _)
          | cons p ps =>
            rw [decAll_ne c h2]
            exact (putS_cons1 _ _ _ _).resolve_right (decAll_not_nil _ _)
theorem readS_go (r : List UInt8) : readS (47 :: r) = refGo r [] [] := by
  rw [refGo_put r.length r [] [] (Nat.le_refl _), readS, if_pos rfl]
  cases hd : decAll (sp 47 r) with
  | none => rfl
  | some m =>
    cases m with
    | nil =>
      cases hs : sp 47 r with
      | nil => exact absurd hs (sp_ne _ _)
      | cons p ps => rw [hs] at hd; exact absurd hd (decAll_not_nil _ _)
    | cons n m => simp [putS]
end B
end Go.Proofs.YtdbihpobfcbmeaaDoor
