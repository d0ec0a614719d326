/- Plain laws of hosts: word names. -/
import Derived.Test.YtdbihpobfcbmeaaDoorE1
set_option linter.unusedVariables false
set_option linter.unusedSimpArgs false
namespace Go.Proofs.YtdbihpobfcbmeaaDoor
namespace B
open Go Go.RowKit

theorem split_p (s : List UInt8) (b : UInt8) (hl : s.length ≤ 100000000) : p_strings_Split s [b] = some (sp b s) := by
  unfold p_strings_Split
  rw [if_pos ⟨rfl, by omega⟩]; rfl
theorem cut46 (s : List UInt8) (hl : s.length ≤ 100000000) : p_ref27_cut s (46 : Int) = some (sp 46 s) := cut_p s 46 hl
theorem cut58 (s : List UInt8) (hl : s.length ≤ 100000000) : p_ref27_cut s (58 : Int) = some (sp 58 s) := cut_p s 58 hl
theorem host_b2' (a : Bool) (v : Int) (x : List UInt8) (hl : x.length ≤ 100000000) : loopO (fun s : Int => p_host_word_b2 a v x s) (0 : Int) = if x.all isW = true then some (.inl (a && x.all isD, IntKind.i64.wrap (v + 1))) else some (.inr false) := host_b2 a v x hl
theorem sp_mem_le (b : UInt8) : ∀ (s : List UInt8) x, x ∈ sp b s → x.length ≤ s.length
  | [], x, h => by simp [sp] at h; subst h; simp
  | c :: s, x, h => by
    simp only [sp] at h
    split at h
    · rcases List.mem_cons.1 h with rfl | h
      · simp
      · have := sp_mem_le b s x h; simp; omega
    · cases hs : sp b s with
      | nil => exact absurd hs (sp_ne b s)
      | cons y r =>
        rw [hs] at h
        simp only [cons1, List.mem_cons] at h
        rcases h with rfl | h
        · have := sp_mem_le b s y (by rw [hs]; simp); simp; omega
        · have := sp_mem_le b s x (by rw [hs]; simp [h]); simp; omega
theorem sp_le (b : UInt8) (s : List UInt8) : (sp b s).length ≤ s.length + 1 := by rw [sp_len]; have := List.count_le_length (a := b) (l := s); omega
theorem byte_eq {b : UInt8} {n : Nat} (hn : n < 256) : ((b.toNat : Nat) : Int) = (n : Int) ↔ b = UInt8.ofNat n := by
  constructor
  · intro h
    apply UInt8.toNat_inj.1
    rw [UInt8.toNat_ofNat_of_lt' (by exact hn)]; omega
  · rintro rfl
    rw [UInt8.toNat_ofNat_of_lt' (by exact hn)]
theorem word_p (s : List UInt8) (hl : s.length ≤ 10000000) : p_host_word s = some (wordB s) := by
  unfold p_host_word
  rw [split_p s 46 (by omega), Option.bind_some]
  have hml := sp_mem_le 46 s
  have hle := sp_le 46 s
  rw [wordB]
  generalize sp 46 s = xs at *
  refine loopO_inv (fun st => ∃ (a : Bool) (i : Nat), st = (a, (i : Int)) ∧ i ≤ xs.length ∧ (xs.drop i).all okPart = xs.all okPart ∧ (a && (xs.drop i).all (fun l => l.all isD)) = xs.all (fun l => l.all isD)) (fun st => xs.length - st.2.toNat) ⟨true, 0, rfl, Nat.zero_le _, rfl, by simp⟩ (by simp; omega) ?_
  rintro st ⟨a, i, rfl, hi, h1, h2⟩
  dsimp only
  unfold p_host_word_b1
  by_cases h : i < xs.length
  · rw [if_pos (by omega), getI_nat, List.getElem?_eq_getElem h, Option.bind_some]
    have hxl := hml xs[i] (List.getElem_mem h)
    rw [getD_of h, List.all_cons] at h1 h2
    generalize xs[i] = x at h1 h2 hxl ⊢
    have bad : okPart x = false → some (!a) = some (!a) → (none : Option Nat) = none → ((xs.all okPart && !xs.all fun l => l.all isD) = false) := fun hb _ _ => by rw [← h1, hb]; rfl
    by_cases g1 : (x.length : Int) < 1
    · right; rw [if_pos g1, bad (okPart_not (by omega)) rfl rfl]; rfl
    rw [if_neg g1]
    by_cases g2 : (63 : Int) < x.length
    · right; rw [if_pos g2, bad (okPart_not (by omega)) rfl rfl]; rfl
    rw [if_neg g2, if_pos (by omega)]
    by_cases g3 : ((x.getD (0 : Int).toNat 0).toNat : Int) = 45
    · right
      rw [if_pos g3, bad (okPart_not (fun hh => hh.2.2.1 ((byte_eq (n := 45) (by decide)).1 g3))) rfl rfl]; rfl
    rw [if_neg g3, wlen1 _ (by omega) (by omega), if_pos (by omega), Int.toNat_natCast]
    by_cases g4 : ((x.getD (x.length - 1) 0).toNat : Int) = 45
    · right
      rw [if_pos g4, bad (okPart_not (fun hh => hh.2.2.2.1 ((byte_eq (n := 45) (by decide)).1 g4))) rfl rfl]; rfl
    rw [if_neg g4, host_b2' _ _ _ (by omega)]
    by_cases g5 : x.all isW = true
    · left
      have hok : okPart x = true := (okPart_iff x).2 ⟨by omega, by omega, fun e => g3 ((byte_eq (n := 45) (by decide)).2 e), fun e => g4 ((byte_eq (n := 45) (by decide)).2 e), g5⟩
      rw [if_pos g5, wsucc _ (by omega)]
      rw [hok, Bool.true_and] at h1
      refine ⟨_, rfl, ⟨_, i + 1, rfl, by omega, h1, by rw [← h2, Bool.and_assoc]⟩, by simp only [Int.toNat_natCast]; omega⟩
    · right
      rw [if_neg g5, bad (okPart_not (fun hh => g5 hh.2.2.2.2)) rfl rfl]
  · right
    rw [if_neg (by omega)]
    rw [List.drop_eq_nil_of_le (by omega)] at h1 h2
    rw [← h1, ← h2]
    simp
theorem rword_p (s : List UInt8) (hl : s.length ≤ 10000000) : p_ref27_word s = some (wordB s) := by
  unfold p_ref27_word
  rw [cut46 s (by omega), Option.bind_some]
  have hml := sp_mem_le 46 s
  have hle := sp_le 46 s
  rw [wordB_ref]
  generalize sp 46 s = xs at *
  refine loopO_inv (fun st => ∃ (a : Bool) (i : Nat), st = (a, (i : Int)) ∧ i ≤ xs.length ∧ (xs.drop i).all okPart = xs.all okPart ∧ (a || (xs.drop i).any (fun x => decide (1 < mst x 0))) = xs.any (fun x => decide (1 < mst x 0))) (fun st => xs.length - st.2.toNat) ⟨false, 0, rfl, Nat.zero_le _, rfl, by simp⟩ (by simp; omega) ?_
  rintro st ⟨a, i, rfl, hi, h1, h2⟩
  dsimp only
  unfold p_ref27_word_b1
  by_cases h : i < xs.length
  · rw [if_pos (by omega), getI_nat, List.getElem?_eq_getElem h, Option.bind_some]
    have hxl := hml xs[i] (List.getElem_mem h)
    rw [getD_of h, List.all_cons] at h1
    rw [getD_of h, List.any_cons] at h2
    generalize xs[i] = x at h1 h2 hxl ⊢
    have bad : okPart x = false → ((xs.all okPart && xs.any fun x => decide (1 < mst x 0)) = false) := fun hb => by rw [← h1, hb]; rfl
    by_cases g1 : (x.length : Int) = 0
    · right; rw [if_pos g1, bad (okPart_not (by omega))]; rfl
    rw [if_neg g1]
    by_cases g2 : (63 : Int) < x.length
    · right; rw [if_pos g2, bad (okPart_not (by omega))]; rfl
    rw [if_neg g2, most_p x (by omega), Option.bind_some]
    by_cases g5 : (4 : Int) < ((mst x 0 : Nat) : Int)
    · right
      rw [if_pos g5, bad (okPart_not (fun hh => by have := (mst_W x).2 hh.2.2.2.2; omega))]; rfl
    rw [if_neg g5, if_pos (by omega), class_p, Option.bind_some]
    by_cases g3 : ((clsN (x.getD (0 : Int).toNat 0).toNat : Nat) : Int) = 4
    · right
      rw [if_pos g3, bad (okPart_not (fun hh => hh.2.2.1 ((cls_hy _).2 (by exact_mod_cast g3))))]; rfl
    rw [if_neg g3, wlen1 _ (by omega) (by omega), if_pos (by omega), Int.toNat_natCast, class_p, Option.bind_some]
    by_cases g4 : ((clsN (x.getD (x.length - 1) 0).toNat : Nat) : Int) = 4
    · right
      rw [if_pos g4, bad (okPart_not (fun hh => hh.2.2.2.1 ((cls_hy _).2 (by exact_mod_cast g4))))]; rfl
    rw [if_neg g4]
    left
    have hok : okPart x = true := (okPart_iff x).2 ⟨by omega, by omega, fun e => g3 (by have := (cls_hy _).1 e; exact_mod_cast this), fun e => g4 (by have := (cls_hy _).1 e; exact_mod_cast this), (mst_W x).1 (by omega)⟩
    rw [hok, Bool.true_and] at h1
    cases a with
    | true => exact ⟨_, by rw [if_pos rfl, wsucc _ (by omega)], ⟨true, i + 1, rfl, by omega, h1, by rw [← h2]; simp⟩, by simp only [Int.toNat_natCast]; omega⟩
    | false =>
      refine ⟨_, by rw [if_neg (by decide), wsucc _ (by omega)]; rfl, ⟨_, i + 1, rfl, by omega, h1, ?_⟩, by simp only [Int.toNat_natCast]; omega⟩
      rw [← h2, Bool.false_or]
      congr 1
      exact decide_eq_decide.2 (by omega)
  · right
    rw [if_neg (by omega)]
    rw [List.drop_eq_nil_of_le (by omega)] at h1 h2
    rw [← h1, ← h2]
    simp
end B
end Go.Proofs.YtdbihpobfcbmeaaDoor
