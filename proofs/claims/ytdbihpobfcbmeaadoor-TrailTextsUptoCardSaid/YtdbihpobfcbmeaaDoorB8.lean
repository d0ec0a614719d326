/- That what an operation asks suffices for the machine's step: the ninth part of the interpreter. -/
import Derived.Test.YtdbihpobfcbmeaaDoorB7
set_option linter.unusedVariables false
set_option linter.unusedSimpArgs false
namespace Go.Proofs.YtdbihpobfcbmeaaDoor
namespace B
open Go
section
variable {P : Program} {T : TT} {w : World} {K : Value → World → Prop}
theorem t_no {t : Nat} (h : (tat T t).d = .other → False) : ∀ d, (tat T t).d = d → d = .other → False := by rintro d hd rfl; exact h hd
theorem Good.under (hg : Good P T) {s : Nat} (hso : ∀ d, (tat T s).d = d → d = .other → False) : ∃ u, P.underlying s = some u := by
  cases hss : (tat T s).d with
  | other => exact (hso _ hss rfl).elim
  | int k => exact ⟨_, hg.int hss⟩
  | bool => exact ⟨_, hg.bool hss⟩
  | str => exact ⟨_, hg.str hss⟩
  | ptr e => exact ⟨_, hg.ptr hss⟩
  | slice e => exact ⟨_, hg.slice hss⟩
  | arr m e => exact ⟨_, hg.arr hss⟩
  | struct fs => obtain ⟨gs, h1, _⟩ := hg.struct hss; exact ⟨_, h1⟩
  | map k e => exact ⟨_, hg.map hss⟩
  | func => obtain ⟨a, b, c, h1⟩ := hg.func hss; exact ⟨_, h1⟩
  | iface =>
    have := hg.td s (fun d hd' h2 => by rw [hss] at hd'; subst hd'; cases h2)
    rw [hss] at this; simp only [tdOK] at this
    split at this
    · rename_i ms h1; exact ⟨_, h1⟩
    · cases this
theorem byte_get (s : ByteArray) (i : Nat) (h : i < s.size) : s[i]? = some ((tl s).getD i 0) := by
  have h' : i < (tl s).length := h
  rw [List.getD_eq_getElem?_getD, List.getElem?_eq_getElem h', Option.getD_some, getElem?_pos s i h]
  rfl
theorem iface_run (hg : Good P T) {t : Nat} {x : Value} (h1 : (tat T t).d = .other → False) (h2 : (tat T t).d = .iface → False) : (Instr.makeInterface t x).run P w = .ok (.iface t x) w := by
  cases hss : (tat T t).d with
  | other => exact (h1 hss).elim
  | iface => exact (h2 hss).elim
  | int k => simp [Instr.makeInterface, run_underlying (hg.int hss)]
  | bool => simp [Instr.makeInterface, run_underlying (hg.bool hss)]
  | str => simp [Instr.makeInterface, run_underlying (hg.str hss)]
  | ptr e => simp [Instr.makeInterface, run_underlying (hg.ptr hss)]
  | slice e => simp [Instr.makeInterface, run_underlying (hg.slice hss)]
  | arr m e => simp [Instr.makeInterface, run_underlying (hg.arr hss)]
  | struct fs => obtain ⟨gs, h1, _⟩ := hg.struct hss; simp [Instr.makeInterface, run_underlying h1]
  | map k e => simp [Instr.makeInterface, run_underlying (hg.map hss)]
  | func => obtain ⟨a, b, c, h1⟩ := hg.func hss; simp [Instr.makeInterface, run_underlying h1]
theorem hasBody_out {g : Nat} (h : hasBody P g = true) (args : Array Value) : (callFunc g args).run P w = .ok (.enter g args) w := by
  unfold hasBody at h
  split at h
  · rename_i fn hf
    simp only [Bool.and_eq_true, bne_iff_ne, ne_eq] at h
    cases hb : fn.body with
    | none => rw [hb] at h; simp at h
    | some c => simp [callFunc, hf, h.2, hb]
  · cases h
theorem callW_out {g : Nat} {args : List Value} (hb : hasBody P g = true) (h : callW P g args K w) : Calls P g ⟨args⟩ w fun e w' => ∃ v, e = .returned v ∧ K v w' := by
  rcases callW_cases h with ⟨_, h⟩ | ⟨v, w', h1, h2⟩
  · exact h
  · rw [hasBody_out hb] at h1; simp at h1
theorem opW_sound (hg : Good P T) (ρ : Operand → Value) (o : Oper) (h : opW P T o.op o.type ρ K w) : Runs P (execOp ρ o) w K := by
  obtain ⟨dst, op, rt, pos, after, guard⟩ := o
  have gv : ∀ {s : Sem Value} {v : Value} {w' : World}, s.run P w = .ok v w' → K v w' → Runs P (do pure (.value (← s))) w K := fun hr hk => runs_v ⟨_, _, hr, hk⟩
  cases op <;> simp only [opW] at h <;> simp only [execOp]
  case move x => exact vrun_pure h
  case assign x => exact vrun_pure h
  case pick c a b =>
    split at h
    · rename_i c hc
      refine .inl ⟨_, w, ?_, h⟩
      rw [pickV_eq, hc]
      simp [asBool]
    · exact h.elim
  case alloc t =>
    split at h
    · exact h.elim
    · rename_i z zs hz
      obtain ⟨v, hv, hc, _⟩ := zeroOf_out (w := w) hg (t := t) (by rw [hz]; simp)
      have hvc : v.cells = ⟨z :: zs⟩ := by rw [← hz, ← hc]
      refine gv ?_ (newW_out h)
      simp only [Instr.alloc, Sem.run_bind, hv, Result.andThen_ok, newVar, hvc, run_newRow, Sem.run_pure]
  case box t x =>
    refine gv ?_ (newW_out h)
    have hvc : (ρ x).cells = ⟨cellsL (ρ x)⟩ := by rw [← cellsL_eq]
    simp only [Instr.box, Sem.run_bind, newVar, hvc, run_newRow, Result.andThen_ok, Sem.run_pure]
  case build t parts =>
    rw [parts_eq]
    split at h
    · rename_i fs z zs hd hz
      split at h
      · rename_i cs hf; exact gv (build_run hg hd hz _ hf) h
      · exact h.elim
    · exact runs_sem h
  case buildSlice t len parts =>
    rw [parts_eq]
    split at h
    · rename_i e hd
      split at h
      · rename_i z zs sz hz hs
        split at h
        · rename_i cs h1 h2 hf
          exact gv (buildSlice_run hg hd hz hs len _ (Nat.eq_of_beq_eq_true h1) (Nat.le_of_ble_eq_true h2) hf) (newW_out h)
        · exact h.elim
      · exact h.elim
    · exact h.elim
  case load t x =>
    split at h
    · rename_i a n hx hs
      rw [hx]
      have hag := run_isAgg (w := w) hg hs
      have hsz := run_sizeOf (w := w) hg hs
      split at h
      · rename_i ha
        obtain ⟨vs, hl, hc, hK⟩ := loadW_out h
        rw [ha] at hag
        refine gv ?_ hK
        have := run_load_cells (P := P) a vs hc
        rw [hl] at this
        simp only [Instr.loadAt, Instr.sureAddr, Sem.run_bind, Sem.run_pure, Result.andThen_ok, loadVar, hag, if_true, hsz, this]
      · rename_i ha
        obtain ⟨vs, hl, hc, hK⟩ := loadW_out h
        rw [ha] at hag
        refine gv ?_ hK
        match vs, hl with
        | [v], _ =>
          have := hc 0 v rfl
          rw [show a.add 0 = a from by simp [Addr.add]] at this
          simp [Instr.loadAt, Instr.sureAddr, loadVar, hag, this]
    · exact h.elim
  case store t x y =>
    split at h
    · rename_i a n hx hs
      rw [hx]
      have hsz := run_sizeOf (w := w) hg hs
      split at h
      · rename_i hl
        have hl := Nat.eq_of_beq_eq_true hl
        obtain ⟨h1, h2, hK⟩ := storeW_out h
        refine runs_u ⟨_, ?_, hK⟩
        have hvc : (ρ y).cells.size = n := by rw [← hl, ← cellsL_eq]; simp
        have hst := run_storeCells (P := P) (cellsL (ρ y)) a 0 w h1 (fun j hj => by
          have := h2 j hj
          rw [Nat.zero_add]
          exact ⟨by obtain ⟨⟨u, hu⟩, _⟩ := this; rw [hu]; rfl, this.2⟩)
        simp only [Instr.storeAt, Instr.sureAddr, Sem.run_bind, Sem.run_pure, Result.andThen_ok, storeVar, hsz, hvc, ne_eq, not_true, if_false, cellsL_eq, hst]
      · exact h.elim
    · exact h.elim
  case nilCheck x =>
    split at h
    · rename_i hx; rw [hx]; exact vrun_pure h
    · rename_i hx; rw [hx]; exact vrun_pure h
    · rename_i hx; rw [hx]; exact vrun_pure h
    · rename_i hx; rw [hx]; exact vrun_pure h
    · exact h.elim
  case binOp op t x y yt =>
    split at h
    · exact runs_sem h
    · obtain ⟨v, w', hr, hK⟩ := run_binop hg h
      exact gv hr hK
  case unOp op t x =>
    split at h
    · rename_i b hx; rw [hx]; exact gv (by simp [Op.unary]) h
    · rename_i k n hx; rw [hx]; exact gv (by simp [Op.unary, Op.intArith]) h
    · exact runs_sem h
  case convert s d x =>
    split at h
    · exact runs_sem h
    · rename_i k j n hd hx hso
      rw [hx]
      have hu := run_underlying (P := P) (w := w) (hg.int hd)
      have hsrc := hg.under (t_no hso)
      obtain ⟨u, hu2⟩ := hsrc
      exact gv (by simp [convert, run_underlying hu2, hu, Conv.intToInt]) h
    · rename_i t hd hx hso
      rw [hx]
      obtain ⟨u, hu2⟩ := hg.under (t_no hso)
      exact gv (by simp [convert, run_underlying hu2, run_underlying (hg.str hd)]) h
    · exact runs_sem h
  case makeInterface t x =>
    split at h
    · exact h.elim
    · exact h.elim
    · rename_i h1 h2; exact gv (iface_run hg h1 h2) h
  case makeFunc fn a c => rw [args_eq, args_eq]; exact gv (by simp [Instr.makeFunc]) h
  case makeMap t r => exact runs_sem h
  case makeSlice t l c => exact runs_sem h
  case slice t x lo hi mx =>
    split at h
    · obtain ⟨v, hr, hK⟩ := sliceW_run (w := w) hg t _ _ _ _ _ h; exact gv hr hK
    · obtain ⟨v, hr, hK⟩ := sliceW_run (w := w) hg t _ _ _ _ _ h; exact gv hr hK
    · exact runs_sem h
  case fieldAddr t x f =>
    split at h
    · rename_i fs a hd hx
      rw [hx]
      split at h
      · rename_i off ft hf
        obtain ⟨gs, h1, h2, h3⟩ := hg.struct hd
        subst h2
        rw [List.getElem?_map] at hf
        cases hgf : gs.toList[f]? with
        | none => rw [hgf] at hf; simp at hf
        | some g =>
          rw [hgf] at hf
          simp only [Option.map_some, Option.some.injEq, Prod.mk.injEq] at hf
          obtain ⟨i, hi, hne⟩ := h3 g (List.mem_of_getElem? hgf)
          have hgf' : gs[f]? = some g := by simpa using hgf
          refine gv ?_ h
          simp [Instr.fieldAt, run_underlying h1, hgf', Instr.sureAddr, fieldPlace, sizeOf, typeInfo, hi, hne, addA, hf.1]
      · exact h.elim
    · exact h.elim
  case field t x f =>
    split at h
    · rename_i fs cs hd hx
      rw [hx]
      split at h
      · rename_i off ft hf
        obtain ⟨gs, h1, h2, h3⟩ := hg.struct hd
        subst h2
        rw [List.getElem?_map] at hf
        cases hgf : gs.toList[f]? with
        | none => rw [hgf] at hf; simp at hf
        | some g =>
          rw [hgf] at hf
          simp only [Option.map_some, Option.some.injEq, Prod.mk.injEq] at hf
          obtain ⟨h4, h5⟩ := hf
          subst h4; subst h5
          have hgf' : gs[f]? = some g := by simpa using hgf
          split at h
          · rename_i n hn ha
            have hag := run_isAgg (w := w) hg hn
            have hsz := run_sizeOf (w := w) hg hn
            rw [ha] at hag
            refine gv ?_ h
            have e : cs.extract g.offset (g.offset + n) = ⟨(cs.toList.drop g.offset).take n⟩ := by
              apply Array.ext'
              show _ = (cs.toList.drop g.offset).take n
              simp
            simp [Instr.field, run_underlying h1, hgf', asAgg, part, hag, hsz, e]
          · rename_i n hn ha
            have hag := run_isAgg (w := w) hg hn
            rw [ha] at hag
            split at h
            · rename_i v hv
              refine gv ?_ h
              simp [Instr.field, run_underlying h1, hgf', asAgg, part, hag, show cs[g.offset]? = some v by simpa using hv]
            · exact h.elim
          · exact h.elim
      · exact h.elim
    · exact h.elim
  case indexAddr t x ix =>
    split at h
    · rename_i e a n c k i hd hx hi
      rw [hx, hi]
      split at h
      · rename_i sz hs
        obtain ⟨ad, rfl, h0, h1, hK⟩ := idx_out h
        refine gv ?_ hK
        simp [Instr.indexAt, asIntOf, run_underlying (hg.slice hd), h0, h1, run_sizeOf hg hs]
      · exact h.elim
    · rename_i n e a k i hd hx hi
      rw [hx, hi]
      split at h
      · rename_i sz hs
        obtain ⟨ad, h2, h0, h1, hK⟩ := idx_out h
        cases h2
        refine gv ?_ hK
        simp [Instr.indexAt, asIntOf, run_underlying (hg.arr hd), h0, h1, run_sizeOf hg hs, Instr.sureAddr]
      · exact h.elim
    · exact h.elim
  case index t x ix =>
    split at h
    · rename_i s k i hd hx hi
      rw [hx, hi]
      obtain ⟨⟨h0, h1⟩, hK⟩ := req_out h
      refine gv ?_ hK
      have hlt : i.toNat < s.size := by rw [tl_length] at h1; omega
      have e := byte_get s i.toNat hlt
      simp [Instr.index, asIntOf, run_underlying (hg.str hd), h0, e]
    · exact runs_sem h
  case lookup t x ix ok => exact runs_sem h
  case mapUpdate t m k x => exact runs_u (semU_out h)
  case insert t m k x => exact runs_u (semU_out h)
  case mapEntry t m k => exact runs_sem h
  case entryStore t m s x => exact runs_u (semU_out h)
  case range t x => exact runs_sem h
  case next it isString => exact runs_sem h
  case entry it => exact runs_sem h
  case typeAssert x t a ok => exact runs_sem h
  case extract t i =>
    split at h
    · rename_i vs hx
      rw [hx]
      split at h
      · rename_i v hv
        exact gv (by simp [Instr.extract, show vs[i]? = some v by simpa using hv]) h
      · exact h.elim
    · exact h.elim
  case call c =>
    split at h
    · rename_i f hc
      unfold appV at h
      split at h
      · rename_i g first cap hf
        have e : first ++ ⟨argsV ρ c.args.toList⟩ ++ cap = ⟨first.toList ++ argsV ρ c.args.toList ++ cap.toList⟩ := by
          apply Array.ext'; simp
        rcases callW_cases h with ⟨hb, hC⟩ | ⟨v, w', hr, hK⟩
        · refine .inr (.inr (.inl ⟨g, _, w, ?_, hC⟩))
          rw [← e]
          simp only [resolve, hc, hf, Deferred.ofValue, args_eq, Sem.run_bind, Sem.run_pure, Result.andThen_ok, invoke]
          exact hasBody_out hb _
        · refine .inl ⟨v, w', ?_, hK⟩
          rw [← e] at hr
          simp only [resolve, hc, hf, Deferred.ofValue, args_eq, Sem.run_bind, Sem.run_pure, Result.andThen_ok, invoke]
          exact hr
      · rename_i l first cap hf
        obtain ⟨fn, tmps, assign, body, hr, hR⟩ := yldW_out h
        refine .inr (.inr (.inr ⟨l, fn, tmps, assign, body, w, ?_, hR⟩))
        have e : first ++ ⟨argsV ρ c.args.toList⟩ = ⟨first.toList ++ argsV ρ c.args.toList⟩ := by
          apply Array.ext'; simp
        rw [← e] at hr
        simp only [resolve, hc, hf, Deferred.ofValue, args_eq, Sem.run_bind, Sem.run_pure, Result.andThen_ok, invoke]
        exact hr
      · exact h.elim
    · rename_i b hc
      have := builtinW_sound hg b c.argTypes rt (c.args.map fun | .const _ => true | _ => false) _ h
      simp only [resolve, hc, args_eq]
      rcases this with ⟨v, w', hr, hK⟩ | ⟨w', hr, hK⟩ | ⟨f, a, w', hr, hK⟩ | ⟨l, fn, tmps, assign, body, w', hr, hK⟩
      · exact .inl ⟨v, w', by simp only [Sem.run_bind, Sem.run_pure, Result.andThen_ok, invoke]; exact hr, hK⟩
      · exact .inr (.inl ⟨w', by simp only [Sem.run_bind, Sem.run_pure, Result.andThen_ok, invoke]; exact hr, hK⟩)
      · exact .inr (.inr (.inl ⟨f, a, w', by simp only [Sem.run_bind, Sem.run_pure, Result.andThen_ok, invoke]; exact hr, hK⟩))
      · exact .inr (.inr (.inr ⟨l, fn, tmps, assign, body, w', by simp only [Sem.run_bind, Sem.run_pure, Result.andThen_ok, invoke]; exact hr, hK⟩))
    · exact h.elim
  all_goals exact h.elim
end
end B
end Go.Proofs.YtdbihpobfcbmeaaDoor
