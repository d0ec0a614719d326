/- That what an operation asks suffices for the machine's step: the fifth part of the interpreter. -/
import Derived.Test.YtdbihpobfcbmeaaDoorB3
set_option linter.unusedVariables false
set_option linter.unusedSimpArgs false
namespace Go.Proofs.YtdbihpobfcbmeaaDoor
namespace B
open Go
def Runs (P : Program) (s : Sem Next) (w : World) (K : Value → World → Prop) : Prop :=
  (∃ v w', s.run P w = .ok (.value v) w' ∧ K v w') ∨ (∃ w', s.run P w = .ok .skip w' ∧ K undef w') ∨
  (∃ f args w', s.run P w = .ok (.enter f args) w' ∧ Calls P f args w' fun e w'' => ∃ v, e = .returned v ∧ K v w'') ∨
  (∃ l fn tmps assign body w', s.run P w = .ok (.round l fn tmps assign body) w' ∧ RoundIn Fence.wide 0 P l fn tmps assign body w' fun e w'' => ∃ v, e = .returned v ∧ K v w'')
theorem runs_wp {P : Program} {n : Fm} {o : Oper} {a : Act} {w : World} {K : Value → World → Prop} {next : Act → World → Prop} {Q : Exit → Act → World → Prop} (hnd : ∀ c, o.op ≠ .defer c)
    (h : Runs P (execOp a.eval o) w K) (hk : ∀ v w', K v w' → next (a.put o.dst v) w') : o.wpIn n.F 0 P a w next Q := by
  refine ⟨fun _ _ => trivial, ?_⟩
  rw [Oper.semAt_eq _ _ _ hnd]
  rcases h with ⟨v, w', hr, hK⟩ | ⟨w', hr, hK⟩ | ⟨f, args, w', hr, hK⟩ | ⟨l, fn, tmps, assign, body, w', hr, hK⟩
  · rw [hr]; exact hk _ _ hK
  · rw [hr]; exact hk _ _ hK
  · rw [hr]
    refine ⟨fun h => by simp [Fm.F, Fence.wide] at h, ?_⟩
    refine CallsIn.mono (F := n.F) (show CallsIn n.F (0 - 1) P f args w' _ from (callsIn_wide.2 hK : CallsIn Fence.wide (0 - 1) P f args w' _)) ?_
    rintro e w'' ⟨v, rfl, hv⟩
    exact hk _ _ hv
  · rw [hr]
    refine ⟨fun h => by simp [Fm.F, Fence.wide] at h, ?_⟩
    refine RoundIn.mono (F := n.F) (show RoundIn n.F (0 - 1) P l fn tmps assign body w' _ from hK) ?_
    rintro e w'' ⟨v, rfl, hv⟩
    exact hk _ _ hv
section
variable {P : Program} {T : TT} {w : World} {K : Value → World → Prop}
theorem runs_v {s : Sem Value} (h : ∃ v w', s.run P w = .ok v w' ∧ K v w') : Runs P (do pure (.value (← s))) w K := by
  obtain ⟨v, w', hr, hK⟩ := h
  exact .inl ⟨v, w', by simp [hr], hK⟩
theorem runs_u {s : Sem Unit} (h : ∃ w', s.run P w = .ok () w' ∧ K undef w') : Runs P (do s; pure .skip) w K := by
  obtain ⟨w', hr, hK⟩ := h
  exact .inr (.inl ⟨w', by simp [hr], hK⟩)
theorem runs_sem {s : Sem Value} (h : semW P s K w) : Runs P (do pure (.value (← s))) w K := runs_v (semW_out h)
theorem not_other {t : Nat} {f : TD → Prop} (h : f (tat T t).d) (h2 : ¬ f .other) : ∀ d, (tat T t).d = d → d = .other → False := by
  rintro d hd rfl; rw [hd] at h; exact h2 h
theorem sizeOf?_out (hg : Good P T) {t n : Nat} (h : sizeOf? T t = some n) : ∃ f : TypeInfo, P.info? t = some f ∧ f.size = n ∧ f.bytes = (tat T t).bytes := by
  unfold sizeOf? at h
  obtain ⟨f, h1, h2, h3, _⟩ := hg.info t (by rintro d hd rfl; rw [hd] at h; cases h)
  have : (tat T t).size = n := by revert h; split <;> simp
  exact ⟨f, h1, h2.trans this, h3⟩
theorem run_sizeOf (hg : Good P T) {t n : Nat} (h : sizeOf? T t = some n) : (sizeOf t).run P w = .ok n w := by
  obtain ⟨f, h1, h2, _⟩ := sizeOf?_out hg h
  simp [sizeOf, typeInfo, h1, h2]
theorem zeroOf_out (hg : Good P T) {t : Nat} (h : zeroOf T t ≠ []) : ∃ v, (zeroValue t).run P w = .ok v w ∧ v.cells.toList = zeroOf T t ∧ (isAggD (tat T t).d = true → v = .agg ⟨zeroOf T t⟩) := by
  have hno : ∀ d, (tat T t).d = d → d = .other → False := by rintro d hd rfl; unfold zeroOf at h; rw [hd] at h; exact h rfl
  obtain ⟨f, h1, _, _, h4⟩ := hg.info t hno
  have hz : zeroOf T t = (tat T t).zero.map Z.val := by
    unfold zeroOf
    split
    · rename_i hd; exact (hno _ hd rfl).elim
    · rfl
  have : (tat T t).zero ≠ [] := by intro h0; rw [hz, h0] at h; exact h rfl
  obtain ⟨v, hv, hc, ha⟩ := h4 this
  exact ⟨v, by simp [zeroValue, typeInfo, h1, hv], by rw [hz, hc], fun h5 => by rw [hz]; exact ha h5⟩
theorem run_newRow (e : Nat) (cs : Array Value) : (newRow e cs).run P w = .ok ⟨w.heap.size, 0, none⟩ (w.alloc (.cells cs e)) := by
  rfl
theorem newW_out {o : Obj} {K : Nat → World → Prop} (h : newW o K w) : K w.heap.size (w.alloc o) := by unfold newW at h; exact h
theorem loadW_out {a : Addr} {n : Nat} {K : List Value → World → Prop} (h : loadW a n K w) :
    ∃ vs : List Value, vs.length = n ∧ (∀ i v, vs[i]? = some v → w.cell? (a.add i) = some v) ∧ K vs w := by unfold loadW at h; exact h
theorem storeW_out {a : Addr} {vs : List Value} {K : World → Prop} (h : storeW a vs K w) :
    (∀ v, v ∈ vs → v.oneCell' = true) ∧ (∀ i, i < vs.length → (∃ u, w.cell? (a.add i) = some u) ∧ w.frozen? (a.add i) = false) ∧ K (setCells w a vs 0) := by unfold storeW at h; exact h
theorem setCell_heap (w : World) (a : Addr) (v : Value) (b : Nat) : (w.setCell a v).heap[b]? = if a.block = b then (w.heap[b]?).map (fun
      | .cells c elem frozen => .cells (if a.spot.isSome then c else c.setIfInBounds a.off v) elem frozen
      | o => o) else w.heap[b]? := by
  simp only [World.setCell, Array.getElem?_modify]
  rfl
theorem cell_set (w : World) (a b : Addr) (v : Value) : (w.setCell a v).frozen? b = w.frozen? b ∧ ((w.cell? b).isSome = true → ((w.setCell a v).cell? b).isSome = true) := by
  unfold World.frozen? World.cell?
  rw [setCell_heap]
  by_cases hb : a.block = b.block
  · rw [if_pos hb]
    cases hh : w.heap[b.block]? with
    | none => simp
    | some o =>
      cases o <;> simp
      intro h1
      split at h1
      · cases h1
      · rename_i h0; rw [if_neg h0]; split <;> simpa using h1
  · rw [if_neg hb]; simp
theorem run_storeCells (vs : List Value) (a : Addr) : ∀ (i : Nat) (w : World), (∀ v, v ∈ vs → v.oneCell' = true) →
    (∀ j, j < vs.length → (w.cell? (a.add (i + j))).isSome = true ∧ w.frozen? (a.add (i + j)) = false) →
    (storeCells a vs i).run P w = .ok () (setCells w a vs i) := by
  induction vs with
  | nil => intro i w _ _; rfl
  | cons v vs ih =>
    intro i w h1 h2
    have h0 := h2 0 (by simp)
    simp only [Nat.add_zero] at h0
    obtain ⟨u, hu⟩ := Option.isSome_iff_exists.1 h0.1
    simp only [storeCells, Sem.run_bind]
    rw [run_store P w (a.add i) v .plain (h1 v (by simp)), hu]
    simp only [h0.2]
    refine ih (i + 1) _ (fun x hx => h1 x (by simp [hx])) (fun j hj => ?_)
    have := h2 (j + 1) (by simp; omega)
    rw [show i + (j + 1) = i + 1 + j by omega] at this
    exact ⟨(cell_set w _ _ v).2 this.1, by rw [(cell_set w _ _ v).1]; exact this.2⟩
theorem run_isAgg (hg : Good P T) {t n : Nat} (h : sizeOf? T t = some n) : (isAgg t).run P w = .ok (isAggD (tat T t).d) w := by
  unfold sizeOf? at h
  cases hd : (tat T t).d with
  | other => rw [hd] at h; cases h
  | int k => simp [isAgg, run_underlying (hg.int hd), isAggD]
  | bool => simp [isAgg, run_underlying (hg.bool hd), isAggD]
  | str => simp [isAgg, run_underlying (hg.str hd), isAggD]
  | ptr e => simp [isAgg, run_underlying (hg.ptr hd), isAggD]
  | slice e => simp [isAgg, run_underlying (hg.slice hd), isAggD]
  | arr m e => simp [isAgg, run_underlying (hg.arr hd), isAggD]
  | struct fs => obtain ⟨gs, h1, _⟩ := hg.struct hd; simp [isAgg, run_underlying h1, isAggD]
  | map k e => simp [isAgg, run_underlying (hg.map hd), isAggD]
  | func => obtain ⟨a, b, c, h1⟩ := hg.func hd; simp [isAgg, run_underlying h1, isAggD]
  | iface =>
    have := hg.td t (fun d hd' h2 => by rw [hd] at hd'; subst hd'; cases h2)
    rw [hd] at this; simp only [tdOK] at this
    split at this
    · rename_i ms h1; simp [isAgg, run_underlying h1, isAggD]
    · cases this
theorem run_load_cells (a : Addr) (vs : List Value) (h : ∀ i v, vs[i]? = some v → w.cell? (a.add i) = some v) : (loadCells a vs.length).run P w = .ok ⟨vs⟩ w := by
  have := run_loadCells_list (P := P) (w := w) a vs h
  simpa using this
end
end B
end Go.Proofs.YtdbihpobfcbmeaaDoor
