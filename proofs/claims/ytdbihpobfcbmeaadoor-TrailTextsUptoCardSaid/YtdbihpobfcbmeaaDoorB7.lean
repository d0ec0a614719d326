/- That what an operation asks suffices for the machine's step: the eighth part of the interpreter. -/
import Derived.Test.YtdbihpobfcbmeaaDoorB6
set_option linter.unusedVariables false
set_option linter.unusedSimpArgs false
namespace Go.Proofs.YtdbihpobfcbmeaaDoor
namespace B
open Go
section
variable {P : Program} {T : TT} {w : World} {K : Value → World → Prop}
theorem vrun_pure {v : Value} (h : K v w) : Runs P (pure (.value v)) w K := .inl ⟨v, w, rfl, h⟩
theorem parts_eq (ρ : Operand → Value) (parts : Array (Nat × Operand)) : parts.map (fun (i, x) => (i, ρ x)) = ⟨parts.toList.map fun p => (p.1, ρ p.2)⟩ := by
  apply Array.ext'; simp
theorem args_eq (ρ : Operand → Value) (l : Array Operand) : l.map ρ = ⟨argsV ρ l.toList⟩ := by
  apply Array.ext'; simp [argsV]
theorem eqGuard_pure (op : BinOp) (t : Nat) (x y : Operand) (a b : Value) (K : Value → Prop) (h : binV T op t a b K) : (eqGuard op t x y a b).run P w = .ok () w := by
  cases a
  case nilIface => simp [binV] at h
  case agg => simp [binV] at h
  all_goals (cases op <;> rfl)
theorem build_run (hg : Good P T) {t : Nat} {fs : List (Nat × Nat)} (hd : (tat T t).d = .struct fs) {z : Value} {zs cs : List Value} (hz : zeroOf T t = z :: zs) (parts : List (Nat × Value))
    (hf : fillL (placeS T fs) (z :: zs) parts = some cs) : (Instr.build t ⟨parts⟩).run P w = .ok (.agg ⟨cs⟩) w := by
  obtain ⟨gs, h1, h2, h3⟩ := hg.struct hd
  obtain ⟨v, hv, hc, _⟩ := zeroOf_out (w := w) hg (t := t) (by rw [hz]; simp)
  obtain ⟨pl, hpl, hat⟩ := run_placeS (w := w) hg gs h2 h3
  have hvc : v.cells = ⟨z :: zs⟩ := by rw [← hz, ← hc]
  have hmono : ∀ (parts : List (Nat × Value)) (c r : List Value), fillL (placeS T fs) c parts = some r → fillL (pl[·]?) c parts = some r := by
    intro parts
    induction parts with
    | nil => intro c r h; exact h
    | cons p rest ih =>
      intro c r h
      obtain ⟨i, v⟩ := p
      simp only [fillL] at h ⊢
      cases hp : placeS T fs i with
      | none => rw [hp] at h; cases h
      | some x =>
        rw [hp] at h
        rw [hat i x hp]
        simp only at h ⊢
        split at h
        · exact ih _ _ h
        · cases h
  have hfill := fill_eq (pl[·]?) parts _ _ (hmono _ _ _ hf)
  have hu := run_underlying (P := P) (w := w) h1
  simp only [Instr.build, Sem.run_bind, hv, Result.andThen_ok, hu, hpl, hvc, hfill, Sem.run_pure]
theorem buildSlice_run (hg : Good P T) {t e : Nat} (hd : (tat T t).d = .slice e) {z : Value} {zs cs : List Value} {sz : Nat} (hz : zeroOf T e = z :: zs) (hs : sizeOf? T e = some sz) (len : Nat) (parts : List (Nat × Value))
    (h1 : sz = zs.length + 1) (h2 : len * sz ≤ 2 ^ 24) (hf : fillL (fun i => some (i * sz, sz)) (repL len (z :: zs)) parts = some cs) :
    (Instr.buildSlice t len ⟨parts⟩).run P w = .ok (.slice (some ⟨w.heap.size, 0, none⟩) len len) (w.alloc (.cells ⟨cs⟩ e)) := by
  have hu := run_underlying (P := P) (w := w) (hg.slice hd)
  obtain ⟨v, hv, hc, _⟩ := zeroOf_out (w := w) hg (t := e) (by rw [hz]; simp)
  have hsz := run_sizeOf (w := w) hg hs
  have hvc : v.cells = ⟨z :: zs⟩ := by rw [← hz, ← hc]
  have hfill := fill_eq _ parts _ _ hf
  have hrow : (Array.range (len * sz)).map (fun i => (⟨z :: zs⟩ : Array Value)[i % (⟨z :: zs⟩ : Array Value).size]!) = ⟨repL len (z :: zs)⟩ := repL_eq (z :: zs) len sz (by simp) (by simpa using h1)
  simp only [Instr.buildSlice, Sem.run_bind, hu, Result.andThen_ok, hsz]
  rw [if_neg (by omega)]
  by_cases h0 : len * sz = 0
  · have hl : len = 0 := by rcases Nat.mul_eq_zero.1 h0 with h | h; exact h; omega
    subst hl
    simp only [repL] at hf hfill
    have e : (Array.range (0 * sz)).map (fun i => (#[] : Array Value)[i % (#[] : Array Value).size]!) = ⟨[]⟩ := by simp
    rw [if_pos h0]
    simp only [Sem.run_bind, Sem.run_pure, Result.andThen_ok, e, hfill, run_newRow]
  · rw [if_neg h0]
    simp only [Sem.run_bind, hv, Sem.run_pure, Result.andThen_ok, hvc, hrow, hfill, run_newRow]
theorem run_binop {op : BinOp} {t : Nat} {x y : Operand} {ρ : Operand → Value} {K : Value → World → Prop} (hg : Good P T) (h : binV T op t (ρ x) (ρ y) fun v => K v w) :
    ∃ v w', (do eqGuard op t x y (ρ x) (ρ y); binOp op t (ρ x) (ρ y) : Sem Value).run P w = .ok v w' ∧ K v w' := by
  obtain ⟨v, hv, hK⟩ := binV_run (w := w) hg op t _ _ _ h
  exact ⟨v, w, by simp only [Sem.run_bind, eqGuard_pure op t x y _ _ _ h, Result.andThen_ok, hv], hK⟩
theorem builtinW_sound (hg : Good P T) (b : Builtin) (ts : Array TypeId) (rt : Nat) (consts : Array Bool) (args : List Value) (h : builtinW P T b ts rt args K w) :
    Runs P (builtin b ts rt consts ⟨args⟩) w K := by
  have gv : ∀ {s : Sem Value} {v : Value}, s.run P w = .ok v w → K v w → Runs P (do pure (.value (← s))) w K := fun hr hk => runs_v ⟨_, _, hr, hk⟩
  unfold builtinW at h
  split at h
  · split at h
    · rename_i t ht
      split at h
      · rename_i hd; exact gv (by simp [Builtin.len_, ht, run_underlying (hg.str hd), goInt, tl_length]) h
      · exact h.elim
    · exact h.elim
  · split at h
    · rename_i t ht
      split at h
      · rename_i hd; exact gv (by simp [Builtin.len_, ht, run_underlying (hg.slice hd), goInt]) h
      · exact h.elim
    · exact h.elim
  · split at h
    · rename_i t ht
      split at h
      · rename_i hd; exact gv (by simp [Builtin.cap_, ht, run_underlying (hg.slice hd), goInt]) h
      · exact h.elim
    · exact h.elim
  · exact gv (by simp [Builtin.min_, Builtin.min2]) h
  · exact gv (by simp [Builtin.max_, Builtin.max2]) h
  all_goals first | exact runs_sem h | exact h.elim
end
end B
end Go.Proofs.YtdbihpobfcbmeaaDoor
