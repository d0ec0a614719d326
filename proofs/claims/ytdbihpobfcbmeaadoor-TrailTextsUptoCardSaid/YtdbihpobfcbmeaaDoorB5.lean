/- That what an operation asks suffices for the machine's step: the sixth part of the interpreter. -/
import Derived.Test.YtdbihpobfcbmeaaDoorB4
set_option linter.unusedVariables false
set_option linter.unusedSimpArgs false
namespace Go.Proofs.YtdbihpobfcbmeaaDoor
namespace B
open Go
theorem setR_fold (off : Nat) : ∀ (l : List Value) (k : Nat) (cells : List Value),
    (l.zipIdx k).foldl (fun (cs : Array Value) (x : Value × Nat) => cs.setIfInBounds (off + x.2) x.1) ⟨cells⟩ = ⟨setR cells (off + k) l⟩
  | [], _, _ => rfl
  | v :: r, k, cells => by
    rw [List.zipIdx_cons, List.foldl_cons]
    have : (⟨cells⟩ : Array Value).setIfInBounds (off + k) v = ⟨cells.set (off + k) v⟩ := by
      apply Array.ext'; simp
    rw [this, setR_fold off r (k + 1)]
    rfl
theorem fill_eq (place : Nat → Option (Nat × Nat)) : ∀ (parts : List (Nat × Value)) (cells r : List Value), fillL place cells parts = some r → Instr.fill place ⟨cells⟩ parts = some ⟨r⟩
  | [], cells, r, h => by simp only [fillL, Option.some.injEq] at h; subst h; rfl
  | (i, v) :: rest, cells, r, h => by
    simp only [fillL] at h
    simp only [Instr.fill]
    split at h
    · cases h
    · rename_i off size hp
      rw [hp]
      split at h
      · rename_i h1 h2
        have h1 := Nat.eq_of_beq_eq_true h1
        have h2 := Nat.le_of_ble_eq_true h2
        have hs : v.cells.size = (cellsL v).length := by rw [← cellsL_eq]; simp
        have hf : Array.foldl (fun (cs : Array Value) (x : Value × Nat) => cs.setIfInBounds (off + x.2) x.1) ⟨cells⟩ v.cells.zipIdx = ⟨setR cells off (cellsL v)⟩ := by
          rw [← Array.foldl_toList, Array.toList_zipIdx, cellsL_eq]
          exact setR_fold off _ 0 cells
        simp only [hs, h1, ne_eq, not_true, decide_false, Bool.false_or]
        rw [if_neg (by simp; rw [h1] at h2; exact h2)]
        have e := fill_eq place rest _ r h
        rw [← hf] at e
        exact e
      · cases h
theorem repL_length (n : Nat) (z : List Value) : (repL n z).length = n * z.length := by
  induction n with
  | zero => simp [repL]
  | succ n ih => simp [repL, ih, Nat.succ_mul, Nat.add_comm]
theorem repL_get (z : List Value) (hz : 0 < z.length) : ∀ (n i : Nat), i < n * z.length → (repL n z)[i]? = z[i % z.length]? := by
  intro n
  induction n with
  | zero => intro i h; omega
  | succ n ih =>
    intro i h
    simp only [repL]
    by_cases hi : i < z.length
    · rw [List.getElem?_append_left hi, Nat.mod_eq_of_lt hi]
    · rw [List.getElem?_append_right (by omega), ih _ (by rw [Nat.succ_mul] at h; omega)]
      congr 1
      rw [Nat.mod_eq_sub_mod (by omega : i ≥ z.length)]
theorem repL_eq (z : List Value) (n m : Nat) (hz : 0 < z.length) (hm : m = z.length) :
    (Array.range (n * m)).map (fun i => (⟨z⟩ : Array Value)[i % (⟨z⟩ : Array Value).size]!) = ⟨repL n z⟩ := by
  subst hm
  apply Array.ext_getElem?
  intro i
  by_cases hi : i < n * z.length
  · have h1 := repL_get z hz n i hi
    have h2 : i % z.length < z.length := Nat.mod_lt _ hz
    simp only [Array.getElem?_map, Array.getElem?_range, hi, if_true, Option.map_some, List.getElem?_toArray]
    rw [h1, List.getElem?_eq_getElem h2]
    simp [getElem!_pos, h2]
  · simp only [Array.getElem?_map, Array.getElem?_range, hi, if_false, Option.map_none]
    have : ({ toList := repL n z } : Array Value)[i]? = (repL n z)[i]? := by simp
    rw [this, List.getElem?_eq_none (by rw [repL_length]; omega)]
section
variable {P : Program} {T : TT} {w : World} {K : Value → World → Prop}
theorem run_placeS (hg : Good P T) {fs : List (Nat × Nat)} (gs : Array Field) (he : gs.toList.map (fun f => (f.offset, f.type)) = fs)
    (hs : ∀ f, f ∈ gs.toList → ∃ i, P.info? f.type = some i ∧ i.size ≠ 0) :
    ∃ pl : Array (Nat × Nat), (gs.mapM (fun f => do pure (f.offset, ← sizeOf f.type)) : Sem (Array (Nat × Nat))).run P w = .ok pl w ∧ ∀ i x, placeS T fs i = some x → pl[i]? = some x := by
  suffices h : ∀ (l : List Field) (w : World), (∀ f, f ∈ l → ∃ i, P.info? f.type = some i ∧ i.size ≠ 0) →
      ∃ pl : List (Nat × Nat), (l.mapM (fun f => do pure (f.offset, ← sizeOf f.type)) : Sem (List (Nat × Nat))).run P w = .ok pl w ∧
        pl.length = l.length ∧ ∀ (i : Nat) f ti, l[i]? = some f → P.info? f.type = some ti → pl[i]? = some (f.offset, ti.size) by
    obtain ⟨pl, h1, h2, h3⟩ := h gs.toList w hs
    refine ⟨pl.toArray, ?_, fun i x hx => ?_⟩
    · rw [Array.mapM_eq_mapM_toList, map_eq_pure_bind]
      simp only [Sem.run_bind, h1, Result.andThen_ok, Sem.run_pure]
    · unfold placeS at hx
      subst he
      rw [List.getElem?_map] at hx
      cases hf : gs.toList[i]? with
      | none => rw [hf] at hx; simp at hx
      | some f =>
        rw [hf] at hx
        simp only [Option.map_some] at hx
        split at hx
        · rename_i s hsz
          obtain ⟨fi, hi, hn, _⟩ := sizeOf?_out hg hsz
          simp only [Option.some.injEq] at hx
          subst hx
          rw [← hn]
          simpa using h3 i f fi hf hi
        · cases hx
  intro l
  induction l with
  | nil => intro w _; exact ⟨[], rfl, rfl, fun i f ti h => by simp at h⟩
  | cons f l ih =>
    intro w hf
    obtain ⟨fi, hi, _⟩ := hf f (by simp)
    obtain ⟨pl, h1, h2, h3⟩ := ih w (fun g hg => hf g (by simp [hg]))
    refine ⟨(f.offset, fi.size) :: pl, ?_, by simp [h2], fun i g ti hgi hti => ?_⟩
    · have hsz : (sizeOf f.type).run P w = .ok fi.size w := by simp [sizeOf, typeInfo, hi]
      rw [List.mapM_cons]
      simp only [Sem.run_bind, hsz, Result.andThen_ok, Sem.run_pure, h1]
    · cases i with
      | zero => simp at hgi; subst hgi; rw [hi] at hti; cases hti; rfl
      | succ i => simpa using h3 i g ti (by simpa using hgi) hti
end
end B
end Go.Proofs.YtdbihpobfcbmeaaDoor
