/- What a function's code asks, and that it suffices for the call: the tenth part of the interpreter. -/
import Derived.Test.YtdbihpobfcbmeaaDoorB8
import Derived.ScopeJumps
set_option linter.unusedVariables false
set_option linter.unusedSimpArgs false
namespace Go.Proofs.YtdbihpobfcbmeaaDoor
namespace B
open Go

def tif (b : Bool) (x y : Prop) : Prop := match b with | true => x | false => y
def opsW (P : Program) (T : TT) (n : Nat) (all : List Oper) : List Oper → (Env → World → Prop) → Env → World → Prop
  | [], K, e, w => K e w
  | o :: rest, K, e, w => match o.guard with
    | none => opW P T o.op o.type (ev n e) (fun v w => opsW P T n all rest K (updO e o.dst v) w) w
    | some (j, want) => match all[j]? with
      | some oj => (match oj.dst with
        | some d => (match Nat.blt d n, e d with
          | true, .bool b => Bool.rec (motive := fun _ => Prop)
              (match want with
                | true => opsW P T n all rest K (updO (upd e d (.bool false)) o.dst undef) w
                | false => opW P T o.op o.type (ev n (upd e d (.bool false))) (fun v w => opsW P T n all rest K (updO (upd e d (.bool false)) o.dst v) w) w)
              (match want with
                | true => opW P T o.op o.type (ev n (upd e d (.bool true))) (fun v w => opsW P T n all rest K (updO (upd e d (.bool true)) o.dst v) w) w
                | false => opsW P T n all rest K (updO (upd e d (.bool true)) o.dst undef) w) b
          | true, .tuple _ => opsW P T n all rest K (updO e o.dst undef) w
          | _, _ => False)
        | none => False)
      | none => False
def thenQ (N : Env → World → Prop) (Q : Exit → Env → World → Prop) : Exit → Env → World → Prop
  | .normal => N
  | x => Q x
def blockQ (id : Nat) (Q : Exit → Env → World → Prop) : Exit → Env → World → Prop
  | .exit i => match Nat.beq i id with | true => Q .normal | false => Q (.exit i)
  | x => Q x
def lift (n : Nat) (Q : Exit → Env → World → Prop) : Exit → Act → World → Prop := fun x a w => ∃ e, a = mkA n e ∧ Q x e w
@[irreducible] def drawW (P : Program) (n : Nat) (id : Nat) (ops : Array Oper) (K : Env → World → Prop) (e : Env) (w : World) : Prop :=
  (Code.region id ops true).wp P (lift n (thenQ K fun _ _ _ => False)) (mkA n e) w
theorem drawW_out {P : Program} {n id : Nat} {ops : Array Oper} {K : Env → World → Prop} {e : Env} {w : World} (h : drawW P n id ops K e w) :
    (Code.region id ops true).wp P (lift n (thenQ K fun _ _ _ => False)) (mkA n e) w := by unfold drawW at h; exact h
theorem drawW_mk {P : Program} {n id : Nat} {ops : Array Oper} {K : Env → World → Prop} {e : Env} {w : World}
    (h : (Code.region id ops true).wp P (lift n (thenQ K fun _ _ _ => False)) (mkA n e) w) : drawW P n id ops K e w := by unfold drawW; exact h
/-- A loop: the least that is closed under the round. -/
@[irreducible] def loopW (F : (Env → World → Prop) → Env → World → Prop) (e : Env) (w : World) : Prop := ∀ Z : Env → World → Prop, (∀ e w, F Z e w → Z e w) → Z e w
theorem loopW_out {F : (Env → World → Prop) → Env → World → Prop} {e : Env} {w : World} (h : loopW F e w) (Z : Env → World → Prop) (hZ : ∀ e w, F Z e w → Z e w) : Z e w := by unfold loopW at h; exact h Z hZ
@[irreducible] def otherW (P : Program) (n : Nat) (c : Code) (Q : Exit → Env → World → Prop) (e : Env) (w : World) : Prop := c.wp P (lift n Q) (mkA n e) w
theorem otherW_out {P : Program} {n : Nat} {c : Code} {Q : Exit → Env → World → Prop} {e : Env} {w : World} (h : otherW P n c Q e w) : c.wp P (lift n Q) (mkA n e) w := by unfold otherW at h; exact h
theorem otherW_mk {P : Program} {n : Nat} {c : Code} {Q : Exit → Env → World → Prop} {e : Env} {w : World} (h : c.wp P (lift n Q) (mkA n e) w) : otherW P n c Q e w := by unfold otherW; exact h
/-- Between two statements: closed to reduction. -/
@[irreducible] def barW (X : Prop) : Prop := X
theorem bar_out {X : Prop} (h : barW X) : X := by unfold barW at h; exact h
theorem bar {X : Prop} (h : X) : barW X := by unfold barW; exact h
def wpc (P : Program) (T : TT) (n : Nat) : Code → (Exit → Env → World → Prop) → Env → World → Prop
  | .skip, Q, e, w => Q .normal e w
  | .region id ops draw, Q, e, w => (match draw with | true => drawW P n id ops (Q .normal) e w | false => opsW P T n ops.toList ops.toList (Q .normal) e w)
  | .seq a b, Q, e, w => wpc P T n a (thenQ (fun e w => barW (wpc P T n b Q e w)) Q) e w
  | .cond c a b, Q, e, w => (match ev n e c with | .bool t => Bool.rec (motive := fun _ => Prop) (wpc P T n b Q e w) (wpc P T n a Q e w) t | _ => False)
  | .block id c, Q, e, w => wpc P T n c (blockQ id Q) e w
  | .loop c, Q, e, w => loopW (fun Z => wpc P T n c (thenQ Z Q)) e w
  | .exit id, Q, e, w => Q (.exit id) e w
  | .ret, Q, e, w => Q .ret e w
  | .label _, Q, e, w => Q .normal e w
  | .goto l, Q, e, w => Q (.goto l) e w
  | c, Q, e, w => otherW P n c Q e w
section
variable {P : Program} {T : TT}
theorem upd_self (e : Env) (d : Nat) : upd e d (e d) = e := by
  funext i
  by_cases h : i = d
  · subst h; exact upd_same _ _ _
  · exact upd_other _ _ _ _ h
theorem mkA_at (n : Nat) (e : Env) (d : Nat) (h : Nat.blt d n = true) : (mkA n e).tmps[d]? = some (e d) := by
  have : d < n := by
    simp only [Nat.blt] at h; exact Nat.le_of_ble_eq_true h
  simp [mkA, this]
theorem opsW_sound (hg : Good P T) (n : Nat) (all : List Oper) (K : Env → World → Prop) (Q : Exit → Env → World → Prop) (hQ : ∀ e w, K e w → Q .normal e w) :
    ∀ (rest : List Oper) (e : Env) (w : World), opsW P T n all rest K e w → wpList P ⟨all⟩ (lift n Q) rest (mkA n e) w
  | [], e, w, h => ⟨e, rfl, hQ _ _ h⟩
  | o :: rest, e, w, h => by
    have run : ∀ e', opW P T o.op o.type (ev n e') (fun v w => opsW P T n all rest K (updO e' o.dst v) w) w →
        o.wp P (mkA n e') w (wpList P ⟨all⟩ (lift n Q) rest) (lift n Q) := by
      intro e' h
      have hs := opW_sound hg (ev n e') o h
      rw [← mkA_eval] at hs
      refine runs_wp hs fun v w' hv => ?_
      rw [mkA_put]
      exact opsW_sound hg n all K Q hQ rest _ _ hv
    simp only [opsW] at h
    split at h
    · rename_i hgd
      refine wpList_step fun K' hK' => ?_
      rw [if_pos (by simp [Region.wanted, hgd])]
      exact Oper.wp_mono hK' (run e h)
    · rename_i j want hgd
      split at h
      · rename_i oj hoj
        split at h
        · rename_i d hd
          split at h
          · rename_i b hdn heb
            have hy : yielded ⟨all⟩ (mkA n e).tmps j = some b := by
              have : (⟨all⟩ : Array Oper)[j]? = some oj := by simpa using hoj
              simp [yielded, this, hd, mkA_at n e d hdn, heb]
            unfold wpList
            have hw : Region.wanted o (yielded ⟨all⟩ (mkA n e).tmps) = (b == want) := by
              simp [Region.wanted, hgd, hy]
            rw [hw]
            cases b <;> cases want <;> simp only [beq_self_eq_true, if_true] at h ⊢
            · rw [← heb, upd_self] at h; exact .inl (run e h)
            · rw [← heb, upd_self] at h
              simp only [show (false == true) = false from rfl, Bool.false_eq_true, if_false]
              rw [mkA_put]; exact opsW_sound hg n all K Q hQ rest _ _ h
            · rw [← heb, upd_self] at h
              simp only [show (true == false) = false from rfl, Bool.false_eq_true, if_false]
              rw [mkA_put]; exact opsW_sound hg n all K Q hQ rest _ _ h
            · rw [← heb, upd_self] at h; exact .inl (run e h)
          · rename_i vs hdn heb
            have hy : yielded ⟨all⟩ (mkA n e).tmps j = none := by
              have : (⟨all⟩ : Array Oper)[j]? = some oj := by simpa using hoj
              simp [yielded, this, hd, mkA_at n e d hdn, heb]
            unfold wpList
            have hw : Region.wanted o (yielded ⟨all⟩ (mkA n e).tmps) = false := by
              simp [Region.wanted, hgd, hy]
            rw [hw]
            simp only [Bool.false_eq_true, if_false]
            rw [mkA_put]; exact opsW_sound hg n all K Q hQ rest _ _ h
          · exact h.elim
        · exact h.elim
      · exact h.elim
theorem wpc_sound (hg : Good P T) (n : Nat) : ∀ (c : Code) (Q : Exit → Env → World → Prop) (e : Env) (w : World), wpc P T n c Q e w → c.wp P (lift n Q) (mkA n e) w := by
  intro c
  induction c with
  | skip => intro Q e w h; exact wp_skip ⟨e, rfl, h⟩
  | region id ops draw =>
    intro Q e w h
    cases draw with
    | true =>
      refine wp_mono (drawW_out h) ?_
      rintro x a w ⟨e, rfl, hx⟩
      cases x <;> first | exact ⟨e, rfl, hx⟩ | exact hx.elim
    | false => exact wp_region_list (opsW_sound hg n ops.toList _ Q (fun _ _ h => h) _ _ _ h)
  | seq a b iha ihb =>
    intro Q e w h
    refine wp_seq (wp_mono (iha _ _ _ h) ?_)
    rintro x a' w' ⟨e', rfl, hx⟩
    cases x <;> first | exact ihb _ _ _ (bar_out hx) | exact ⟨e', rfl, hx⟩
  | cond c a b iha ihb =>
    intro Q e w h
    simp only [wpc] at h
    split at h
    · rename_i t ht
      refine wp_cond (t := t) (by rw [mkA_eval]; exact ht) ?_
      cases t
      · exact ihb _ _ _ h
      · exact iha _ _ _ h
    · exact h.elim
  | block id c ih =>
    intro Q e w h
    refine wp_block (wp_mono (ih _ _ _ h) ?_)
    rintro x a' w' ⟨e', rfl, hx⟩
    cases x with
    | exit i =>
      simp only [Exit.inBlock]
      cases hi : Nat.beq i id <;> simp only [blockQ, hi] at hx
      · rw [if_neg (fun h => by rw [h] at hi; simp at hi)]; exact ⟨e', rfl, hx⟩
      · rw [if_pos (Nat.eq_of_beq_eq_true hi)]; exact ⟨e', rfl, hx⟩
    | _ => exact ⟨e', rfl, hx⟩
  | loop c ih =>
    intro Q e w h
    simp only [wpc] at h
    let Z : Env → World → Prop := fun e w => ∀ (b : Frame) (k : List Item) (cs : List Frame),
      ∃ x a' w', lift n Q x a' w' ∧ Arrives P (lone (b.at (mkA n e) (.code c :: .inLoop c :: k)) cs w) b k cs x a' w'
    have hz : Z e w := by
      refine loopW_out h Z fun e w hF => ?_
      intro b k cs
      obtain ⟨x, a₁, w₁, hq, harr⟩ := ih _ _ _ hF b (.inLoop c :: k) cs
      obtain ⟨e₁, rfl, hq⟩ := hq
      cases x with
      | normal =>
        obtain ⟨x₂, a₂, w₂, hq₂, harr₂⟩ := hq b k cs
        exact ⟨x₂, a₂, w₂, hq₂, .of_steps (Steps.trans harr (.one step_inLoop)) harr₂⟩
      | exit id => exact ⟨_, _, w₁, ⟨e₁, rfl, hq⟩, .pass (x := .inLoop c) rfl (fun _ _ => .inl (by simp)) harr⟩
      | goto l => exact ⟨_, _, w₁, ⟨e₁, rfl, hq⟩, .pass (x := .inLoop c) rfl (fun _ _ => .inl (by simp)) harr⟩
      | ret => exact ⟨_, _, w₁, ⟨e₁, rfl, hq⟩, .pass (x := .inLoop c) rfl (fun _ _ => .inl (by simp)) harr⟩
      | panic ch => exact ⟨_, _, w₁, ⟨e₁, rfl, hq⟩, .pass (x := .inLoop c) rfl (fun _ _ => .inl (by simp)) harr⟩
      | outgrown => exact ⟨_, _, w₁, ⟨e₁, rfl, hq⟩, .pass (x := .inLoop c) rfl (fun _ _ => .inl (by simp)) harr⟩
    intro b k cs
    obtain ⟨x, a', w', hq, harr⟩ := hz b k cs
    exact ⟨x, a', w', hq, .of_steps (.one step_loop) harr⟩
  | exit id => intro Q e w h; exact wp_exit ⟨e, rfl, h⟩
  | ret => intro Q e w h; exact wp_ret ⟨e, rfl, h⟩
  | label l => intro Q e w h; exact wp_label ⟨e, rfl, h⟩
  | goto l => intro Q e w h; exact wp_goto ⟨e, rfl, h⟩
  | _ => intro Q e w h; exact otherW_out h

/-- Jumps ahead to one label. -/
def jumpQ (l : Nat) (R : Env → World → Prop) (Q : Exit → Env → World → Prop) : Exit → Env → World → Prop
  | .goto l', e, w => (match Nat.beq l' l with | true => R e w | false => False)
  | x, e, w => Q x e w
def noGo (Q : Exit → Env → World → Prop) : Exit → Env → World → Prop
  | .goto _, _, _ => False
  | x, e, w => Q x e w
theorem scp (hg : Good P T) {n : Nat} {c rest : Code} {Q : Exit → Env → World → Prop} {e : Env} {w : World} (l : Nat) (hf : findLabel c l = some rest)
    (first : wpc P T n c (jumpQ l (wpc P T n rest (noGo Q)) Q) e w) : otherW P n (.scope c) Q e w := by
  refine otherW_mk (wp_scope_jumps l (fun a w => ∃ e, a = mkA n e ∧ wpc P T n rest (noGo Q) e w) (fun _ _ => 0) hf (wp_mono (wpc_sound hg n c _ e w first) ?_) ?_)
  · rintro x a w ⟨e, rfl, hx⟩
    cases x with
    | goto l' =>
      simp only [jumpQ] at hx
      split at hx
      · rename_i hb; exact ⟨Nat.eq_of_beq_eq_true hb, e, rfl, hx⟩
      · exact hx.elim
    | _ => exact ⟨e, rfl, hx⟩
  · rintro a w ⟨e, rfl, h⟩
    refine wp_mono (wpc_sound hg n rest _ e w h) ?_
    rintro x a w ⟨e, rfl, hx⟩
    cases x with
    | goto l' => exact hx.elim
    | _ => exact ⟨e, rfl, hx⟩

/-! ### A whole function -/
def resW (T : TT) (n : Nat) (e : Env) : List ResultVar → (List Value → World → Prop) → World → Prop
  | [], K, w => K [] w
  | .tmp t :: r, K, w => resW T n e r (fun vs w => K (ev n e (.tmp t) :: vs) w) w
  | .cell a t :: r, K, w => match ev n e (.tmp a), sizeOf? T t with
    | .pointer (some ad), some sz => (match isAggD (tat T t).d with
      | true => loadW ad sz (fun us w => resW T n e r (fun vs w => K (.agg ⟨us⟩ :: vs) w) w) w
      | false => loadW ad 1 (fun us w => resW T n e r (fun vs w => K (us.headD undef :: vs) w) w) w)
    | _, _ => False
def retV : List Value → Value | [v] => v | vs => .tuple ⟨vs⟩
def retQ (T : TT) (n : Nat) (rs : List ResultVar) (R : Value → World → Prop) : Exit → Env → World → Prop
  | .normal, e, w => resW T n e rs (fun vs w => R (retV vs) w) w
  | .ret, e, w => resW T n e rs (fun vs w => R (retV vs) w) w
  | _, _, _ => False
def argE (args : List Value) : Env := fun i => match args[i]? with | some v => v | none => undef
def rr (tmps : Array Value) : ResultVar → Sem Value
  | .tmp t => pure (tmps.getD t undef)
  | .cell a t => do loadVar t (← asAddr (tmps.getD a undef))
theorem results_rr (fn : Func) (tmps : Array Value) : results fn tmps = (do let vs ← fn.results.mapM (rr tmps); pure (if h : vs.size = 1 then vs[0] else .tuple vs)) := by
  unfold results
  congr 1
theorem resW_run (hg : Good P T) (n : Nat) (e : Env) : ∀ (rs : List ResultVar) (K : List Value → World → Prop) (w : World), resW T n e rs K w →
    ∃ vs, (rs.mapM (rr (mkA n e).tmps)).run P w = .ok vs w ∧ K vs w
  | [], K, w, h => ⟨[], rfl, h⟩
  | .tmp t :: r, K, w, h => by
    simp only [resW] at h
    obtain ⟨vs, hr, hk⟩ := resW_run hg n e r _ w h
    refine ⟨_, ?_, hk⟩
    rw [List.mapM_cons]
    simp only [Sem.run_bind, rr, Sem.run_pure, Result.andThen_ok, hr]
    rw [show (mkA n e).tmps.getD t undef = ev n e (.tmp t) from mkA_get n e t]
  | .cell a t :: r, K, w, h => by
    simp only [resW] at h
    split at h
    · rename_i ad sz ha hs
      have ha' : (mkA n e).tmps.getD a undef = .pointer (some ad) := by rw [← ha]; exact mkA_get n e a
      have hag := run_isAgg (w := w) hg hs
      have hsz := run_sizeOf (w := w) hg hs
      split at h
      · rename_i hd
        obtain ⟨us, hl, hc, hK⟩ := loadW_out h
        rw [hd] at hag
        obtain ⟨vs, hr, hk⟩ := resW_run hg n e r _ w hK
        refine ⟨_, ?_, hk⟩
        have := run_load_cells (P := P) ad us hc
        rw [hl] at this
        have h1 : (rr (mkA n e).tmps (.cell a t)).run P w = .ok (.agg ⟨us⟩) w := by
          simp only [rr, Sem.run_bind, Sem.run_pure, Result.andThen_ok, ha', asAddr, loadVar, hag, if_true, hsz, this]
        rw [List.mapM_cons]
        simp only [Sem.run_bind, Sem.run_pure, Result.andThen_ok, hr, h1]
      · rename_i hd
        obtain ⟨us, hl, hc, hK⟩ := loadW_out h
        rw [hd] at hag
        obtain ⟨vs, hr, hk⟩ := resW_run hg n e r _ w hK
        refine ⟨_, ?_, hk⟩
        match us, hl with
        | [v], _ =>
          have := hc 0 v rfl
          rw [show ad.add 0 = ad from by simp [Addr.add]] at this
          have h1 : (rr (mkA n e).tmps (.cell a t)).run P w = .ok v w := by
            simp only [rr, Sem.run_bind, Sem.run_pure, Result.andThen_ok, ha', asAddr, loadVar, hag]
            simp [this]
          rw [List.mapM_cons]
          simp only [Sem.run_bind, Sem.run_pure, Result.andThen_ok, hr, h1]
          rfl
    · exact h.elim
theorem fn_of {f : Nat} {fn : Func} {c : Code} {args : List Value} {w : World} {K : Value → World → Prop} (hg : Good P T) (hf : P.funcs[f]? = some fn) (hb : fn.body = some c) (hn : (fn.name != "runtime.NumGoroutine") = true)
    (ha : Nat.ble args.length fn.ntmps = true) (h : wpc P T fn.ntmps c (retQ T fn.ntmps fn.results.toList K) (argE args) w) : callW P f args K w := by
  refine callW_mk (by simp [hasBody, hf, hb] ; simpa using hn) (calls_of_wp hf hb ?_)
  have e0 : ({ tmps := (⟨args⟩ : Array Value) ++ Array.replicate (fn.ntmps - (⟨args⟩ : Array Value).size) undef, defers := [] } : Act) = mkA fn.ntmps (argE args) := by
    have ha := Nat.le_of_ble_eq_true ha
    simp only [mkA]
    congr 1
    apply Array.ext_getElem?
    intro i
    rw [Array.getElem?_ofFn]
    by_cases hi : i < args.length
    · have : i < fn.ntmps := by omega
      rw [Array.getElem?_append_left (by simpa using hi)]
      simp [this, argE, List.getElem?_eq_getElem hi]
    · rw [Array.getElem?_append_right (by simpa using hi)]
      by_cases h2 : i < fn.ntmps
      · have h3 : i - args.length < fn.ntmps - args.length := by omega
        simp [h2, argE, List.getElem?_eq_none (Nat.le_of_not_lt hi), Array.getElem?_replicate, h3]
      · have h3 : ¬ i - args.length < fn.ntmps - args.length := by omega
        simp [h2, Array.getElem?_replicate, h3]
  rw [e0]
  refine wp_mono (wpc_sound hg _ _ _ _ _ h) ?_
  have fin : ∀ e w, resW T fn.ntmps e fn.results.toList (fun vs w => K (retV vs) w) w → (mkA fn.ntmps e).defers = [] ∧ ∃ v, (results fn (mkA fn.ntmps e).tmps).run P w = .ok v w ∧ ∃ v', Ending.returned v = .returned v' ∧ K v' w := by
    intro e w h
    obtain ⟨vs, hr, hk⟩ := resW_run hg fn.ntmps e _ _ w h
    refine ⟨rfl, retV vs, ?_, _, rfl, hk⟩
    rw [results_rr, Array.mapM_eq_mapM_toList, map_eq_pure_bind]
    simp only [Sem.run_bind, hr, Result.andThen_ok, Sem.run_pure]
    match vs with
    | [] => rfl
    | [v] => rfl
    | _ :: _ :: _ => rfl
  rintro x a w ⟨e, rfl, hx⟩
  cases x with
  | normal => exact fin e w hx
  | ret => exact fin e w hx
  | _ => exact hx.elim
end
end B
end Go.Proofs.YtdbihpobfcbmeaaDoor
