/- Plain laws of hosts: what stands in brackets, second part: of double colons and empty parts. -/
import Derived.Test.YtdbihpobfcbmeaaDoorE6
set_option linter.unusedVariables false
set_option linter.unusedSimpArgs false
namespace Go.Proofs.YtdbihpobfcbmeaaDoor
namespace B
open Go Go.RowKit

def cE : List (List UInt8) → Nat
  | [] => 0
  | x :: r => (if x = [] then 1 else 0) + cE r
def cG : List (List UInt8) → Nat
  | [] => 0
  | x :: r => (if x = [] then 0 else 1) + cG r
theorem cEG : ∀ l : List (List UInt8), cE l + cG l = l.length
  | [] => rfl
  | x :: r => by have := cEG r; simp only [cE, cG, List.length_cons]; split <;> omega
theorem cE_app : ∀ l m : List (List UInt8), cE (l ++ m) = cE l + cE m
  | [], m => by simp [cE]
  | x :: r, m => by rw [List.cons_append, cE, cE, cE_app r m]; omega
theorem cG_app : ∀ l m : List (List UInt8), cG (l ++ m) = cG l + cG m
  | [], m => by simp [cG]
  | x :: r, m => by rw [List.cons_append, cG, cG, cG_app r m]; omega
def dbl : List UInt8 → Nat
  | [] => 0
  | x :: r => (if x = 58 ∧ r.head? = some 58 then 1 else 0) + dbl r
theorem dbl_c (x : UInt8) (r : List UInt8) : dbl (x :: r) = (if x = 58 ∧ r.head? = some 58 then 1 else 0) + dbl r := rfl
theorem dbl_app : ∀ a b : List UInt8, dbl (a ++ 58 :: 58 :: b) = dbl (a ++ [58]) + 1 + dbl (58 :: b)
  | [], b => by simp [dbl]
  | x :: a, b => by
    rw [List.cons_append, dbl_c x, dbl_app a b, List.cons_append, dbl_c x (a ++ [58])]
    have : (a ++ 58 :: 58 :: b).head? = (a ++ [58]).head? := by cases a <;> rfl
    rw [this]; omega
theorem dbl_snoc : ∀ a : List UInt8, dbl (a ++ [58]) = dbl a + (if a.getLast? = some 58 then 1 else 0)
  | [] => by simp [dbl]
  | [x] => by simp [dbl]
  | x :: y :: a => by
    rw [List.cons_append, dbl_c x, dbl_snoc (y :: a), dbl_c x (y :: a), List.getLast?_cons_cons]
    exact (Nat.add_assoc _ _ _).symm
theorem dbl_cons (b : List UInt8) : dbl (58 :: b) = (if b.head? = some 58 then 1 else 0) + dbl b := by simp [dbl]
theorem dbl_pos : ∀ t : List UInt8, dbl t ≠ 0 → ∃ u v, t = u ++ ([58, 58] ++ v)
  | [], h => by simp [dbl] at h
  | x :: r, h => by
    by_cases hx : x = 58 ∧ r.head? = some 58
    · obtain ⟨rfl, hr⟩ := hx
      cases r with
      | nil => simp at hr
      | cons y r => simp at hr; subst hr; exact ⟨[], r, rfl⟩
    · rw [dbl, if_neg hx, Nat.zero_add] at h
      obtain ⟨u, v, rfl⟩ := dbl_pos r h
      exact ⟨x :: u, v, rfl⟩
theorem dbl_none (t : List UInt8) (h : ∀ u v, t ≠ u ++ ([58, 58] ++ v)) : dbl t = 0 := by
  cases hd : dbl t with
  | zero => rfl
  | succ n => obtain ⟨u, v, e⟩ := dbl_pos t (by omega); exact absurd e (h u v)
theorem sp_app (c : UInt8) : ∀ u v : List UInt8, sp c (u ++ c :: v) = sp c u ++ sp c v
  | [], v => by simp [sp]
  | x :: u, v => by
    rw [List.cons_append, sp, sp, sp_app c u v]
    by_cases h : x = c
    · rw [if_pos h, if_pos h]; rfl
    · rw [if_neg h, if_neg h]
      cases hs : sp c u with
      | nil => exact absurd hs (sp_ne c u)
      | cons y r => rfl
theorem sp_head (c : UInt8) (l : List UInt8) : ∃ x r, sp c l = x :: r ∧ (x = [] ↔ (l = [] ∨ l.head? = some c)) := by
  cases l with
  | nil => exact ⟨[], [], rfl, by simp⟩
  | cons b l =>
    by_cases h : b = c
    · exact ⟨[], sp c l, by rw [sp, if_pos h], by simp [h]⟩
    · cases hs : sp c l with
      | nil => exact absurd hs (sp_ne c l)
      | cons y r => exact ⟨b :: y, r, by rw [sp, if_neg h, hs]; rfl, by simp [h]⟩
/-- How many empty parts there are. -/
theorem cE_sp : ∀ l : List UInt8, cE (sp 58 l) = dbl l + (if l = [] ∨ l.head? = some 58 then 1 else 0) + (if l.getLast? = some 58 then 1 else 0)
  | [] => by simp [sp, cE, dbl]
  | x :: r => by
    have ih := cE_sp r
    have hlast : (x :: r).getLast? = if r = [] then some x else r.getLast? := by
      cases r with
      | nil => rfl
      | cons y r => rw [List.getLast?_cons_cons]; simp
    by_cases hx : x = 58
    · subst hx
      rw [sp, if_pos rfl, cE, ih, dbl_cons, hlast]
      by_cases hr : r = []
      · subst hr; simp [dbl]
      · simp [hr]; omega
    · obtain ⟨y, q, hs, hy⟩ := sp_head 58 r
      rw [sp, if_neg hx, hs]
      simp only [cons1, cE]
      rw [hs, cE] at ih
      have h1 : dbl (x :: r) = dbl r := by rw [dbl, if_neg (fun h => hx h.1)]; omega
      rw [h1, hlast, if_neg (by simp : ¬ (x :: y) = []), if_neg (by simp [hx] : ¬ (x :: r = [] ∨ (x :: r).head? = some 58))]
      by_cases hr : r = []
      · subst hr; simp [sp] at hs; obtain ⟨rfl, rfl⟩ := hs; simp [cE, dbl, hx]
      · rw [if_neg hr]
        by_cases hh : r.head? = some 58
        · rw [if_pos (hy.2 (.inr hh)), if_pos (.inr hh)] at ih; omega
        · rw [if_neg (fun e => by rcases hy.1 e with h | h; exact hr h; exact hh h), if_neg (by rintro (h | h); exact hr h; exact hh h)] at ih; omega
def okE (x : List UInt8) : Bool := decide (x = []) || okG x
theorem all_okG : ∀ l : List (List UInt8), l.all okG = true ↔ l.all okE = true ∧ cE l = 0
  | [] => by simp [cE]
  | x :: r => by
    rw [List.all_cons, List.all_cons, Bool.and_eq_true, Bool.and_eq_true, all_okG r, cE]
    by_cases h : x = []
    · subst h
      have : okG [] = false := by rw [Bool.eq_false_iff, ne_eq, okG_iff]; simp
      simp [this]
    · simp only [okE, h, decide_false, Bool.false_or, if_neg, not_false_iff, Nat.zero_add]
      constructor
      · rintro ⟨a, b, c⟩; exact ⟨⟨a, b⟩, c⟩
      · rintro ⟨⟨a, b⟩, c⟩; exact ⟨a, b, c⟩
theorem grp_nn (t : List UInt8) : (0 ≤ grp t ↔ ((sp 58 t).all okE = true ∧ (t = [] ∨ cE (sp 58 t) = 0))) ∧ (0 ≤ grp t → grp t = cG (sp 58 t)) ∧ (grp t < 0 → grp t = -1) := by
  unfold grp
  by_cases h : t = []
  · subst h
    refine ⟨?_, ?_, ?_⟩
    · simp [sp, okE]
    · intro _; simp [sp, cG]
    · intro h; simp at h
  · rw [if_neg h]
    by_cases h2 : (sp 58 t).all okG = true
    · rw [if_pos h2]
      have := (all_okG _).1 h2
      have h3 := cEG (sp 58 t)
      refine ⟨⟨fun _ => ⟨this.1, .inr this.2⟩, fun _ => by omega⟩, fun _ => by omega, fun h => by omega⟩
    · rw [if_neg h2]
      refine ⟨⟨fun h => by omega, fun hh => absurd ((all_okG _).2 ⟨hh.1, hh.2.resolve_left h⟩) h2⟩, fun h => by omega, fun _ => rfl⟩
end B
end Go.Proofs.YtdbihpobfcbmeaaDoor
