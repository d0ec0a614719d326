/- What each operation asks, and that it suffices: the third part of the interpreter. -/
import Derived.Test.YtdbihpobfcbmeaaDoorB1
set_option linter.unusedVariables false
set_option linter.unusedSimpArgs false
namespace Go.Proofs.YtdbihpobfcbmeaaDoor
namespace B
open Go
section
variable {P : Program} {T : TT} {w : World}
theorem binStr_run (op : BinOp) (t : Nat) (a b : ByteArray) (K : Value → Prop) (h : binStr op a b K) :
    ∃ v, (binOp op t (.string a) (.string b)).run P w = .ok v w ∧ K v := by
  have he : (a.toList == b.toList) = decide (tl a = tl b) := by rw [tl_toList, tl_toList, Bool.beq_eq_decide_eq]
  have hl : Op.bytesLess a.toList b.toList = strLt (tl a) (tl b) := by rw [tl_toList, tl_toList]; rfl
  cases op <;> simp only [binStr] at h
  case add =>
    obtain ⟨h0, hK⟩ := req_out h
    rw [tl_length, tl_length] at h0
    refine ⟨_, ?_, hK⟩
    simp only [binOp, Op.stringOp]
    rw [if_neg (by have : IntKind.i64.max = 9223372036854775807 := by decide
                   omega)]
    have : a ++ b = bs (tl a ++ tl b) := by
      apply ByteArray.ext; apply Array.ext'; simp [tl, bs]
    rw [this]; rfl
  case eql => exact ⟨_, by simp only [binOp, Op.stringOp, he]; rfl, h⟩
  case neq => exact ⟨_, by simp only [binOp, Op.stringOp, he]; rfl, h⟩
  case lss => exact ⟨_, by simp only [binOp, Op.stringOp, hl]; rfl, h⟩
  case leq => exact ⟨_, by simp only [binOp, Op.stringOp, hl, he]; rfl, h⟩
  case gtr => exact ⟨_, by simp only [binOp, Op.stringOp, hl, he]; rfl, h⟩
  case geq => exact ⟨_, by simp only [binOp, Op.stringOp, hl]; rfl, h⟩
  all_goals exact h.elim

theorem Good.td (hg : Good P T) (t : Nat) (h : ∀ d, (tat T t).d = d → d = .other → False) : tdOK P t (tat T t).d = true := by
  have := hg.ti t
  unfold tiOK at this
  cases hd : (tat T t).d
  case other => exact (h _ hd rfl).elim
  all_goals (rw [hd] at this; simp only [Bool.and_eq_true] at this; exact this.1)
theorem Good.bool (hg : Good P T) {t : Nat} (h : (tat T t).d = .bool) : P.underlying t = some .bool := by
  have := hg.td t (fun d hd h2 => by rw [h] at hd; subst hd; cases h2)
  rw [h] at this; simp only [tdOK] at this
  split at this <;> simp_all
theorem Good.str (hg : Good P T) {t : Nat} (h : (tat T t).d = .str) : P.underlying t = some .string := by
  have := hg.td t (fun d hd h2 => by rw [h] at hd; subst hd; cases h2)
  rw [h] at this; simp only [tdOK] at this
  split at this <;> simp_all
theorem Good.int (hg : Good P T) {t : Nat} {k : IntKind} (h : (tat T t).d = .int k) : P.underlying t = some (.int k) := by
  have := hg.td t (fun d hd h2 => by rw [h] at hd; subst hd; cases h2)
  rw [h] at this; simp only [tdOK] at this
  split at this <;> simp_all
theorem Good.ptr (hg : Good P T) {t e : Nat} (h : (tat T t).d = .ptr e) : P.underlying t = some (.pointer e) := by
  have := hg.td t (fun d hd h2 => by rw [h] at hd; subst hd; cases h2)
  rw [h] at this; simp only [tdOK] at this
  split at this <;> simp_all
theorem Good.slice (hg : Good P T) {t e : Nat} (h : (tat T t).d = .slice e) : P.underlying t = some (.slice e) := by
  have := hg.td t (fun d hd h2 => by rw [h] at hd; subst hd; cases h2)
  rw [h] at this; simp only [tdOK] at this
  split at this <;> simp_all
theorem Good.arr (hg : Good P T) {t n e : Nat} (h : (tat T t).d = .arr n e) : P.underlying t = some (.array n e) := by
  have := hg.td t (fun d hd h2 => by rw [h] at hd; subst hd; cases h2)
  rw [h] at this; simp only [tdOK] at this
  split at this <;> simp_all
theorem Good.map (hg : Good P T) {t k e : Nat} (h : (tat T t).d = .map k e) : P.underlying t = some (.map k e) := by
  have := hg.td t (fun d hd h2 => by rw [h] at hd; subst hd; cases h2)
  rw [h] at this; simp only [tdOK] at this
  split at this <;> simp_all
theorem Good.func (hg : Good P T) {t : Nat} (h : (tat T t).d = .func) : ∃ a b c, P.underlying t = some (.func a b c) := by
  have := hg.td t (fun d hd h2 => by rw [h] at hd; subst hd; cases h2)
  rw [h] at this; simp only [tdOK] at this
  split at this
  · rename_i a b c h2; exact ⟨_, _, _, h2⟩
  · cases this
theorem Good.struct (hg : Good P T) {t : Nat} {fs : List (Nat × Nat)} (h : (tat T t).d = .struct fs) :
    ∃ gs : Array Field, P.underlying t = some (.struct gs) ∧ gs.toList.map (fun f => (f.offset, f.type)) = fs ∧ ∀ f, f ∈ gs.toList → ∃ i, P.info? f.type = some i ∧ i.size ≠ 0 := by
  have := hg.td t (fun d hd h2 => by rw [h] at hd; subst hd; cases h2)
  rw [h] at this; simp only [tdOK] at this
  split at this
  · rename_i gs h2
    simp only [Bool.and_eq_true, beq_iff_eq, List.all_eq_true] at this
    refine ⟨gs, h2, this.1, fun f hf => ?_⟩
    have h3 := this.2 f hf
    split at h3
    · rename_i i hi; exact ⟨i, hi, by simpa using h3⟩
    · cases h3
  · cases this
/-- What is known of a type's row. -/
theorem Good.info (hg : Good P T) (t : Nat) (h : ∀ d, (tat T t).d = d → d = .other → False) :
    ∃ f : TypeInfo, P.info? t = some f ∧ f.size = (tat T t).size ∧ f.bytes = (tat T t).bytes ∧ ((tat T t).zero ≠ [] → ∃ v, f.zero = some v ∧ v.cells.toList = (tat T t).zero.map Z.val ∧ (isAggD (tat T t).d = true → v = .agg ⟨(tat T t).zero.map Z.val⟩)) := by
  have := hg.ti t
  unfold tiOK at this
  have k : infoOK P t (tat T t) (tat T t).d = true := by
    cases hd : (tat T t).d
    case other => exact (h _ hd rfl).elim
    all_goals (rw [hd] at this; simp only [Bool.and_eq_true] at this; exact this.2)
  unfold infoOK at k
  split at k
  · rename_i f hf
    simp only [Bool.and_eq_true, beq_iff_eq] at k
    refine ⟨f, hf, k.1.1, k.1.2, fun hz => ?_⟩
    have k2 := k.2
    split at k2
    · rename_i cs hz2
      simp only [Bool.and_eq_true] at k2
      have e := zerosOK_eq _ _ k2.2
      refine ⟨_, hz2, e, fun _ => ?_⟩
      rw [← e]
    · rename_i v hna hz2
      simp only [Bool.and_eq_true, Bool.not_eq_true'] at k2
      have e := zerosOK_eq _ _ k2.2
      refine ⟨_, hz2, ?_, fun h3 => by rw [k2.1] at h3; cases h3⟩
      rw [← e]
      cases v <;> first | rfl | exact (hna _ rfl).elim
    · exact absurd (List.isEmpty_iff.1 k2) hz
  · cases k

theorem eqV_run (hg : Good P T) (t : Nat) (x y : Value) (K : Bool → Prop) (h : eqV (tat T t).d x y K) :
    ∃ b, (Op.equal t x y).run P w = .ok b w ∧ K b := by
  suffices hs : ∀ n, ∃ b, (Op.equalIn (n + 1) t x y).run P w = .ok b w ∧ K b from hs 9999
  intro n
  generalize hd : (tat T t).d = d at h
  unfold eqV at h
  split at h
  · exact ⟨_, by simp [Op.equalIn, run_underlying (hg.bool hd)], h⟩
  · exact ⟨_, by simp [Op.equalIn, run_underlying (hg.slice hd)], h⟩
  · rename_i a _ _ _ _ hna
    refine ⟨_, ?_, h⟩
    cases a with
    | none => simp [Op.equalIn, run_underlying (hg.slice hd)]
    | some a => simp [Op.equalIn, run_underlying (hg.slice hd)]
  · exact ⟨_, by simp [Op.equalIn, run_underlying (hg.ptr hd)], h⟩
  · rename_i a hna
    refine ⟨_, ?_, h⟩
    cases a with
    | none => simp [Op.equalIn, run_underlying (hg.ptr hd)]
    | some a => simp [Op.equalIn, run_underlying (hg.ptr hd)]
  · exact ⟨_, by simp [Op.equalIn, run_underlying (hg.map hd)], h⟩
  · rename_i a hna
    refine ⟨_, ?_, h⟩
    cases a with
    | none => simp [Op.equalIn, run_underlying (hg.map hd)]
    | some a => simp [Op.equalIn, run_underlying (hg.map hd)]
  · obtain ⟨_, _, _, hf⟩ := hg.func hd; exact ⟨_, by simp [Op.equalIn, run_underlying hf], h⟩
  · obtain ⟨_, _, _, hf⟩ := hg.func hd; exact ⟨_, by simp [Op.equalIn, run_underlying hf], h⟩
  · obtain ⟨_, _, _, hf⟩ := hg.func hd; exact ⟨_, by simp [Op.equalIn, run_underlying hf], h⟩
  · exact h.elim

theorem binV_run (hg : Good P T) (op : BinOp) (t : Nat) (x y : Value) (K : Value → Prop) (h : binV T op t x y K) :
    ∃ v, (binOp op t x y).run P w = .ok v w ∧ K v := by
  have ee : ∀ (a b : Value) (K : Value → Prop), eqV (tat T t).d a b (fun r => K (.bool r)) → ∃ v, ((do pure (.bool (← Op.equal t a b))) : Sem Value).run P w = .ok v w ∧ K v := by
    intro a b K h
    obtain ⟨r, hr, hk⟩ := eqV_run (w := w) hg t a b _ h
    exact ⟨_, by simp [hr], hk⟩
  have en : ∀ (a b : Value) (K : Value → Prop), eqV (tat T t).d a b (fun r => K (.bool !r)) → ∃ v, ((do pure (.bool (!(← Op.equal t a b)))) : Sem Value).run P w = .ok v w ∧ K v := by
    intro a b K h
    obtain ⟨r, hr, hk⟩ := eqV_run (w := w) hg t a b _ h
    exact ⟨_, by simp [hr], hk⟩
  unfold binV at h
  split at h
  · exact binInt_run op t _ _ _ _ K h
  · exact binStr_run op t _ _ K h
  all_goals first
    | (split at h
       · exact ee _ _ _ h
       · exact en _ _ _ h
       · exact h.elim)
    | exact h.elim
end
end B
end Go.Proofs.YtdbihpobfcbmeaaDoor
