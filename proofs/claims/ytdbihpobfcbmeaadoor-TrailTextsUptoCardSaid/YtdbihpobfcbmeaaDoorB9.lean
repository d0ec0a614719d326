/- What a function's code asks, and that it suffices for the call: the tenth part of the interpreter. -/
import Derived.Test.YtdbihpobfcbmeaaDoorB8
set_option linter.unusedVariables false
set_option linter.unusedSimpArgs false
namespace Go.Proofs.YtdbihpobfcbmeaaDoor
namespace B
open Go

def tif (b : Bool) (x y : Prop) : Prop := match b with | true => x | false => y
def opsW (P : Program) (T : TT) (n : Fm) (all : List Oper) : List Oper → (Env → World → Prop) → Env → World → Prop
  | [], K, e, w => K e w
  | o :: rest, K, e, w => match o.guard with
    | none => opW P T o.op o.type (ev n e) (fun v w => opsW P T n all rest K (updO e o.dst v) w) w
    | some (j, want) => match all[j]? with
      | some oj => (match oj.dst with
        | some d => (match Nat.blt d n.n, e d with
          | true, .bool b => Bool.rec (motive := fun _ => Prop)
              (match want with
                | true => opsW P T n all rest K (updO (upd e d (.bool false)) o.dst undef) w
                | false => opW P T o.op o.type (ev n (upd e d (.bool false))) (fun v w => opsW P T n all rest K (updO (upd e d (.bool false)) o.dst v) w) w)
              (match want with
                | true => opW P T o.op o.type (ev n (upd e d (.bool true))) (fun v w => opsW P T n all rest K (updO (upd e d (.bool true)) o.dst v) w) w
                | false => opsW P T n all rest K (updO (upd e d (.bool true)) o.dst undef) w) b
          | true, .tuple _ => opsW P T n all rest K (updO e o.dst undef) w
          | _, _ => False)
        | none => False)
      | none => False
def thenQ (N : Env → World → Prop) (Q : Exit → Env → World → Prop) : Exit → Env → World → Prop
  | .normal => N
  | x => Q x
def blockQ (id : Nat) (Q : Exit → Env → World → Prop) : Exit → Env → World → Prop
  | .exit i => match Nat.beq i id with | true => Q .normal | false => Q (.exit i)
  | x => Q x
def lift (n : Fm) (Q : Exit → Env → World → Prop) : Exit → Act → World → Prop := fun x a w => ∃ e, a = mkA n e ∧ Q x e w
@[irreducible] def drawW (P : Program) (n : Fm) (id : Nat) (ops : Array Oper) (K : Env → World → Prop) (e : Env) (w : World) : Prop :=
  (Code.region id ops true).wpIn n.F 0 P (lift n (thenQ K fun _ _ _ => False)) (mkA n e) w
theorem drawW_out {P : Program} {n : Fm} {id : Nat} {ops : Array Oper} {K : Env → World → Prop} {e : Env} {w : World} (h : drawW P n id ops K e w) :
    (Code.region id ops true).wpIn n.F 0 P (lift n (thenQ K fun _ _ _ => False)) (mkA n e) w := by unfold drawW at h; exact h
theorem drawW_mk {P : Program} {n : Fm} {id : Nat} {ops : Array Oper} {K : Env → World → Prop} {e : Env} {w : World}
    (h : (Code.region id ops true).wpIn n.F 0 P (lift n (thenQ K fun _ _ _ => False)) (mkA n e) w) : drawW P n id ops K e w := by unfold drawW; exact h
/-- A loop: the least that is closed under the round. -/
@[irreducible] def loopW (F : (Env → World → Prop) → Env → World → Prop) (e : Env) (w : World) : Prop := ∀ Z : Env → World → Prop, (∀ e w, F Z e w → Z e w) → Z e w
theorem loopW_out {F : (Env → World → Prop) → Env → World → Prop} {e : Env} {w : World} (h : loopW F e w) (Z : Env → World → Prop) (hZ : ∀ e w, F Z e w → Z e w) : Z e w := by unfold loopW at h; exact h Z hZ
@[irreducible] def otherW (P : Program) (n : Fm) (c : Code) (Q : Exit → Env → World → Prop) (e : Env) (w : World) : Prop := c.wpIn n.F 0 P (lift n Q) (mkA n e) w
theorem otherW_out {P : Program} {n : Fm} {c : Code} {Q : Exit → Env → World → Prop} {e : Env} {w : World} (h : otherW P n c Q e w) : c.wpIn n.F 0 P (lift n Q) (mkA n e) w := by unfold otherW at h; exact h
theorem otherW_mk {P : Program} {n : Fm} {c : Code} {Q : Exit → Env → World → Prop} {e : Env} {w : World} (h : c.wpIn n.F 0 P (lift n Q) (mkA n e) w) : otherW P n c Q e w := by unfold otherW; exact h
/-- Between two statements: closed to reduction. -/
@[irreducible] def barW (X : Prop) : Prop := X
theorem bar_out {X : Prop} (h : barW X) : X := by unfold barW at h; exact h
theorem bar {X : Prop} (h : X) : barW X := by unfold barW; exact h
def wpc (P : Program) (T : TT) (n : Fm) : Code → (Exit → Env → World → Prop) → Env → World → Prop
  | .skip, Q, e, w => Q .normal e w
  | .region id ops draw, Q, e, w => (match draw with | true => drawW P n id ops (Q .normal) e w | false => opsW P T n ops.toList ops.toList (Q .normal) e w)
  | .seq a b, Q, e, w => wpc P T n a (thenQ (fun e w => barW (wpc P T n b Q e w)) Q) e w
  | .cond c a b, Q, e, w => (match ev n e c with | .bool t => Bool.rec (motive := fun _ => Prop) (wpc P T n b Q e w) (wpc P T n a Q e w) t | _ => False)
  | .block id c, Q, e, w => wpc P T n c (blockQ id Q) e w
  | .loop c, Q, e, w => loopW (fun Z => wpc P T n c (thenQ Z Q)) e w
  | .exit id, Q, e, w => Q (.exit id) e w
  | .ret, Q, e, w => Q .ret e w
  | .label _, Q, e, w => Q .normal e w
  | .goto l, Q, e, w => Q (.goto l) e w
  | c, Q, e, w => otherW P n c Q e w
section
variable {P : Program} {T : TT}
theorem upd_self (e : Env) (d : Nat) : upd e d (e d) = e := by
  funext i
  by_cases h : i = d
  · subst h; exact upd_same _ _ _
  · exact upd_other _ _ _ _ h
theorem mkA_at (n : Fm) (e : Env) (d : Nat) (h : Nat.blt d n.n = true) : (mkA n e).tmps[d]? = some (e d) := by
  have : d < n.n := by
    simp only [Nat.blt] at h; exact Nat.le_of_ble_eq_true h
  simp [mkA, this]
theorem opW_noDefer {P : Program} {T : TT} {o : Oper} {ρ : Operand → Value} {K : Value → World → Prop} {w : World} (h : opW P T o.op o.type ρ K w) : ∀ c, o.op ≠ .defer c := by
  intro c hc
  rw [hc] at h
  exact h
def okCode : Code → Bool
  | .region _ ops _ => ops.toList.all fun o => match o.dst with | some d => !Nat.beq d ghost | none => true
  | .seq a b | .cond _ a b => okCode a && okCode b
  | .block _ c | .loop c | .scope c => okCode c
  | _ => true
def okC (n : Fm) (c : Code) : Bool := match n.m with | true => okCode c | false => true
theorem okC_region {n : Fm} {id : Nat} {ops : Array Oper} {dr : Bool} (h : okC n (.region id ops dr) = true) : ∀ o ∈ ops.toList, n.okD o.dst = true := by
  intro o ho
  unfold okC at h
  unfold Fm.okD
  split at h
  · rename_i hm
    have := List.all_eq_true.1 h o ho
    rw [hm]
    split at this <;> rename_i hd <;> simp only [hd]
    exact this
  · rename_i hm; rw [hm]
theorem okC_two {n : Fm} {a b c : Code} (hc : okCode c = (okCode a && okCode b)) (h : okC n c = true) : okC n a = true ∧ okC n b = true := by
  unfold okC at h ⊢
  split at h
  · rw [hc, Bool.and_eq_true] at h; exact h
  · exact ⟨rfl, rfl⟩
theorem okC_one {n : Fm} {a c : Code} (hc : okCode c = okCode a) (h : okC n c = true) : okC n a = true := by
  unfold okC at h ⊢
  split at h
  · rw [hc] at h; exact h
  · rfl
theorem opsW_sound (hg : Good P T) (n : Fm) (all : List Oper) (K : Env → World → Prop) (Q : Exit → Env → World → Prop) (hQ : ∀ e w, K e w → Q .normal e w) :
    ∀ (rest : List Oper) (e : Env) (w : World), (∀ o ∈ rest, n.okD o.dst = true) → opsW P T n all rest K e w → wpListIn n.F 0 P ⟨all⟩ (lift n Q) rest (mkA n e) w
  | [], e, w, _, h => ⟨e, rfl, hQ _ _ h⟩
  | o :: rest, e, w, hd0, h => by
    have hd1 := hd0 o (by simp)
    have hd2 : ∀ o ∈ rest, n.okD o.dst = true := fun o ho => hd0 o (by simp [ho])
    have run : ∀ e', opW P T o.op o.type (ev n e') (fun v w => opsW P T n all rest K (updO e' o.dst v) w) w →
        o.wpIn n.F 0 P (mkA n e') w (wpListIn n.F 0 P ⟨all⟩ (lift n Q) rest) (lift n Q) := by
      intro e' h
      have hs := opW_sound hg (ev n e') o h
      rw [← mkA_eval] at hs
      refine runs_wp (opW_noDefer h) hs fun v w' hv => ?_
      rw [mkA_put _ _ _ _ hd1]
      exact opsW_sound hg n all K Q hQ rest _ _ hd2 hv
    have ab : ∀ f, o.about P w (mkA n e).eval = some f → n.F.fn f := fun _ _ => trivial
    simp only [opsW] at h
    split at h
    · rename_i hgd
      refine wpListIn_step fun K' hK' => ?_
      rw [if_pos (by simp [Region.wanted, hgd])]
      exact Oper.wpIn_mono hK' (run e h)
    · rename_i j want hgd
      split at h
      · rename_i oj hoj
        split at h
        · rename_i d hd
          split at h
          · rename_i b hdn heb
            have hy : yielded ⟨all⟩ (mkA n e).tmps j = some b := by
              have : (⟨all⟩ : Array Oper)[j]? = some oj := by simpa using hoj
              simp [yielded, this, hd, mkA_at n e d hdn, heb]
            refine wpListIn_step fun K' hK' => ?_
            have hw : Region.wanted o (yielded ⟨all⟩ (mkA n e).tmps) = (b == want) := by
              simp [Region.wanted, hgd, hy]
            rw [hw]
            cases b <;> cases want <;> simp only [beq_self_eq_true, if_true] at h ⊢
            · rw [← heb, upd_self] at h; exact Oper.wpIn_mono hK' (run e h)
            · rw [← heb, upd_self] at h
              simp only [show (false == true) = false from rfl, Bool.false_eq_true, if_false]
              rw [mkA_put _ _ _ _ hd1]; exact ⟨ab, hK' _ _ (opsW_sound hg n all K Q hQ rest _ _ hd2 h)⟩
            · rw [← heb, upd_self] at h
              simp only [show (true == false) = false from rfl, Bool.false_eq_true, if_false]
              rw [mkA_put _ _ _ _ hd1]; exact ⟨ab, hK' _ _ (opsW_sound hg n all K Q hQ rest _ _ hd2 h)⟩
            · rw [← heb, upd_self] at h; exact Oper.wpIn_mono hK' (run e h)
          · rename_i vs hdn heb
            have hy : yielded ⟨all⟩ (mkA n e).tmps j = none := by
              have : (⟨all⟩ : Array Oper)[j]? = some oj := by simpa using hoj
              simp [yielded, this, hd, mkA_at n e d hdn, heb]
            refine wpListIn_step fun K' hK' => ?_
            have hw : Region.wanted o (yielded ⟨all⟩ (mkA n e).tmps) = false := by
              simp [Region.wanted, hgd, hy]
            rw [hw]
            simp only [Bool.false_eq_true, if_false]
            rw [mkA_put _ _ _ _ hd1]; exact ⟨ab, hK' _ _ (opsW_sound hg n all K Q hQ rest _ _ hd2 h)⟩
          · exact h.elim
        · exact h.elim
      · exact h.elim
theorem wpc_sound (hg : Good P T) (n : Fm) : ∀ (c : Code) (Q : Exit → Env → World → Prop) (e : Env) (w : World), okC n c = true → wpc P T n c Q e w → c.wpIn n.F 0 P (lift n Q) (mkA n e) w := by
  intro c
  induction c with
  | skip => intro Q e w _ h; exact wpIn_skip ⟨e, rfl, h⟩
  | region id ops draw =>
    intro Q e w ok h
    cases draw with
    | true =>
      refine wpIn_mono (drawW_out h) ?_
      rintro x a w ⟨e, rfl, hx⟩
      cases x <;> first | exact ⟨e, rfl, hx⟩ | exact hx.elim
    | false => exact wpIn_region_list (opsW_sound hg n ops.toList _ Q (fun _ _ h => h) _ _ _ (okC_region ok) h)
  | seq a b iha ihb =>
    intro Q e w ok h
    have ok := okC_two (a := a) (b := b) rfl ok
    refine wpIn_seq (wpIn_mono (iha _ _ _ ok.1 h) ?_)
    rintro x a' w' ⟨e', rfl, hx⟩
    cases x <;> first | exact ihb _ _ _ ok.2 (bar_out hx) | exact ⟨e', rfl, hx⟩
  | cond c a b iha ihb =>
    intro Q e w ok h
    have ok := okC_two (a := a) (b := b) rfl ok
    simp only [wpc] at h
    split at h
    · rename_i t ht
      refine wpIn_cond (t := t) (by rw [mkA_eval]; exact ht) ?_
      cases t
      · exact ihb _ _ _ ok.2 h
      · exact iha _ _ _ ok.1 h
    · exact h.elim
  | block id c ih =>
    intro Q e w ok h
    refine wpIn_block (wpIn_mono (ih _ _ _ (okC_one (a := c) rfl ok) h) ?_)
    rintro x a' w' ⟨e', rfl, hx⟩
    cases x with
    | exit i =>
      simp only [Exit.inBlock]
      cases hi : Nat.beq i id <;> simp only [blockQ, hi] at hx
      · rw [if_neg (fun h => by rw [h] at hi; simp at hi)]; exact ⟨e', rfl, hx⟩
      · rw [if_pos (Nat.eq_of_beq_eq_true hi)]; exact ⟨e', rfl, hx⟩
    | _ => exact ⟨e', rfl, hx⟩
  | loop c ih =>
    intro Q e w ok h
    have ok := okC_one (a := c) rfl ok
    simp only [wpc] at h
    intro b k cs hro hb hr
    let Z : Env → World → Prop := fun e w =>
      ∃ x a' w', lift n Q x a' w' ∧ ArrivesIn (Machine.fenced P n.F) P (lone (b.atR (mkA n e) (.code c :: .inLoop c :: k)) cs w) b k cs x a' w'
    have hz : Z e w := by
      refine loopW_out h Z fun e w hF => ?_
      obtain ⟨x, a₁, w₁, hq, harr⟩ := ih _ _ _ ok hF b (.inLoop c :: k) cs hro hb hr
      obtain ⟨e₁, rfl, hq⟩ := hq
      cases x with
      | normal =>
        obtain ⟨x₂, a₂, w₂, hq₂, harr₂⟩ := hq
        exact ⟨x₂, a₂, w₂, hq₂, .of_steps (StepsIn.trans harr (.one (fenced_calm hb hr rfl) stepR_inLoop)) harr₂⟩
      | exit id => exact ⟨_, _, w₁, ⟨e₁, rfl, hq⟩, .pass (x := .inLoop c) rfl (fun _ _ => .inl (by simp)) harr⟩
      | goto l => exact ⟨_, _, w₁, ⟨e₁, rfl, hq⟩, .pass (x := .inLoop c) rfl (fun _ _ => .inl (by simp)) harr⟩
      | ret => exact ⟨_, _, w₁, ⟨e₁, rfl, hq⟩, .pass (x := .inLoop c) rfl (fun _ _ => .inl (by simp)) harr⟩
      | panic ch => exact ⟨_, _, w₁, ⟨e₁, rfl, hq⟩, .pass (x := .inLoop c) rfl (fun _ _ => .inl (by simp)) harr⟩
      | outgrown => exact ⟨_, _, w₁, ⟨e₁, rfl, hq⟩, .pass (x := .inLoop c) rfl (fun _ _ => .inl (by simp)) harr⟩
    obtain ⟨x, a', w', hq, harr⟩ := hz
    exact ⟨x, a', w', hq, .of_steps (.one (fenced_calm hb hr rfl) stepR_loop) harr⟩
  | exit id => intro Q e w _ h; exact wpIn_exit ⟨e, rfl, h⟩
  | ret => intro Q e w _ h; exact wpIn_ret ⟨e, rfl, h⟩
  | label l => intro Q e w _ h; exact wpIn_label ⟨e, rfl, h⟩
  | goto l => intro Q e w _ h; exact wpIn_goto ⟨e, rfl, h⟩
  | _ => intro Q e w _ h; exact otherW_out h

/-- Jumps ahead to one label. -/
def jumpQ (l : Nat) (R : Env → World → Prop) (Q : Exit → Env → World → Prop) : Exit → Env → World → Prop
  | .goto l', e, w => (match Nat.beq l' l with | true => R e w | false => False)
  | x, e, w => Q x e w
def noGo (Q : Exit → Env → World → Prop) : Exit → Env → World → Prop
  | .goto _, _, _ => False
  | x, e, w => Q x e w
theorem stepR_scope {b : Frame} {a : Act} {k : List Item} {cs : List Frame} {w : World} {c : Code} : step P (lone (b.atR a (.code (.scope c) :: k)) cs w) = .next (lone (b.atR a (.code c :: .inScope c :: k)) cs w) :=
  step_lone_go (by simp [stepG, stepG.exec, Frame.atR])
theorem stepR_inScope {b : Frame} {a : Act} {k : List Item} {cs : List Frame} {w : World} {c : Code} : step P (lone (b.atR a (.inScope c :: k)) cs w) = .next (lone (b.atR a k) cs w) :=
  step_lone_go (by simp [stepG, stepG.exec, Frame.atR])
theorem scp (hg : Good P T) {n : Fm} {c rest : Code} {Q : Exit → Env → World → Prop} {e : Env} {w : World} (l : Nat) (hf : findLabel c l = some rest) (ok : okC n c = true) (ok2 : okC n rest = true)
    (first : wpc P T n c (jumpQ l (wpc P T n rest (noGo Q)) Q) e w) : otherW P n (.scope c) Q e w := by
  refine otherW_mk ?_
  intro b k cs hro hb hr
  have hgo : gotoIn l (.inScope c :: k) = some (.code rest :: .inScope c :: k) := by simp [gotoIn, hf]
  have hx : ∀ id, exitTo id (.inScope c :: k) = exitTo id k := fun id => by simp [exitTo]
  have st1 : ∀ (x : Exit) (a : Act) (w₁ : World), (∀ l, x ≠ .goto l) → lift n Q x a w₁ → ∀ m, ArrivesIn (Machine.fenced P n.F) P m b (.inScope c :: k) cs x a w₁ → ∃ e a' w', lift n Q e a' w' ∧ ArrivesIn (Machine.fenced P n.F) P m b k cs e a' w' := by
    intro x a₁ w₁ hng hq m harr
    cases x with
    | normal => exact ⟨.normal, a₁, w₁, hq, StepsIn.trans harr (.one (fenced_calm hb hr rfl) stepR_inScope)⟩
    | exit id => exact ⟨.exit id, a₁, w₁, hq, fun k' hk => harr.1 k' (by rw [hx]; exact hk), fun hr' hk => harr.2 hr' (by rw [hx]; exact hk)⟩
    | goto l' => exact absurd rfl (hng l')
    | ret => exact ⟨_, a₁, w₁, hq, harr⟩
    | panic ch => exact ⟨_, a₁, w₁, hq, harr⟩
    | outgrown => exact ⟨_, a₁, w₁, hq, harr⟩
  have h0 : (lone (b.atR (mkA n e) (.code (.scope c) :: k)) cs w).fenced P n.F := fenced_calm hb hr rfl
  obtain ⟨x, a₁, w₁, ⟨e₁, rfl, hq⟩, harr⟩ := wpc_sound hg n c _ e w ok first b (.inScope c :: k) cs hro hb hr
  have pack : ∀ {m m' : Machine}, StepsIn (Machine.fenced P n.F) P m m' → (∃ e a' w', lift n Q e a' w' ∧ ArrivesIn (Machine.fenced P n.F) P m' b k cs e a' w') → ∃ e a' w', lift n Q e a' w' ∧ ArrivesIn (Machine.fenced P n.F) P m b k cs e a' w' :=
    fun hs ⟨e, a', w', h1, h2⟩ => ⟨e, a', w', h1, .of_steps hs h2⟩
  refine pack (.one h0 stepR_scope) ?_
  cases x with
  | goto l' =>
    simp only [jumpQ] at hq
    split at hq
    · rename_i hb2
      have hl := Nat.eq_of_beq_eq_true hb2
      subst hl
      obtain ⟨x₂, a₂, w₂, ⟨e₂, rfl, hq₂⟩, harr₂⟩ := wpc_sound hg n rest _ _ _ ok2 hq b (.inScope c :: k) cs hro hb hr
      refine pack (harr.1 _ hgo) ?_
      cases x₂ with
      | goto l => exact hq₂.elim
      | _ => exact st1 _ _ _ (by intro l h; cases h) ⟨e₂, rfl, hq₂⟩ _ harr₂
    · exact hq.elim
  | _ => exact st1 _ _ _ (by intro l h; cases h) ⟨e₁, rfl, hq⟩ _ harr

/-! ### A whole function -/
def resW (T : TT) (n : Fm) (e : Env) : List ResultVar → (List Value → World → Prop) → World → Prop
  | [], K, w => K [] w
  | .tmp t :: r, K, w => resW T n e r (fun vs w => K (ev n e (.tmp t) :: vs) w) w
  | .cell a t :: r, K, w => match ev n e (.tmp a), sizeOf? T t with
    | .pointer (some ad), some sz => (match isAggD (tat T t).d with
      | true => loadW ad sz (fun us w => resW T n e r (fun vs w => K (.agg ⟨us⟩ :: vs) w) w) w
      | false => loadW ad 1 (fun us w => resW T n e r (fun vs w => K (us.headD undef :: vs) w) w) w)
    | _, _ => False
def retV : List Value → Value | [v] => v | vs => .tuple ⟨vs⟩
def retQ (T : TT) (n : Fm) (rs : List ResultVar) (R : Value → World → Prop) : Exit → Env → World → Prop
  | .normal, e, w => resW T n e rs (fun vs w => R (retV vs) w) w
  | .ret, e, w => resW T n e rs (fun vs w => R (retV vs) w) w
  | _, _, _ => False
def argE (args : List Value) : Env := fun i => match args[i]? with | some v => v | none => undef
def rr (tmps : Array Value) : ResultVar → Sem Value
  | .tmp t => pure (tmps.getD t undef)
  | .cell a t => do loadVar t (← asAddr (tmps.getD a undef))
theorem results_rr (fn : Func) (tmps : Array Value) : results fn tmps = (do let vs ← fn.results.mapM (rr tmps); pure (if h : vs.size = 1 then vs[0] else .tuple vs)) := by
  unfold results
  congr 1
theorem resW_run (hg : Good P T) (n : Fm) (e : Env) : ∀ (rs : List ResultVar) (K : List Value → World → Prop) (w : World), resW T n e rs K w →
    ∃ vs, (rs.mapM (rr (mkA n e).tmps)).run P w = .ok vs w ∧ K vs w
  | [], K, w, h => ⟨[], rfl, h⟩
  | .tmp t :: r, K, w, h => by
    simp only [resW] at h
    obtain ⟨vs, hr, hk⟩ := resW_run hg n e r _ w h
    refine ⟨_, ?_, hk⟩
    rw [List.mapM_cons]
    simp only [Sem.run_bind, rr, Sem.run_pure, Result.andThen_ok, hr]
    rw [show (mkA n e).tmps.getD t undef = ev n e (.tmp t) from mkA_get n e t]
  | .cell a t :: r, K, w, h => by
    simp only [resW] at h
    split at h
    · rename_i ad sz ha hs
      have ha' : (mkA n e).tmps.getD a undef = .pointer (some ad) := by rw [← ha]; exact mkA_get n e a
      have hag := run_isAgg (w := w) hg hs
      have hsz := run_sizeOf (w := w) hg hs
      split at h
      · rename_i hd
        obtain ⟨us, hl, hc, hK⟩ := loadW_out h
        rw [hd] at hag
        obtain ⟨vs, hr, hk⟩ := resW_run hg n e r _ w hK
        refine ⟨_, ?_, hk⟩
        have := run_load_cells (P := P) ad us hc
        rw [hl] at this
        have h1 : (rr (mkA n e).tmps (.cell a t)).run P w = .ok (.agg ⟨us⟩) w := by
          simp only [rr, Sem.run_bind, Sem.run_pure, Result.andThen_ok, ha', asAddr, loadVar, hag, if_true, hsz, this]
        rw [List.mapM_cons]
        simp only [Sem.run_bind, Sem.run_pure, Result.andThen_ok, hr, h1]
      · rename_i hd
        obtain ⟨us, hl, hc, hK⟩ := loadW_out h
        rw [hd] at hag
        obtain ⟨vs, hr, hk⟩ := resW_run hg n e r _ w hK
        refine ⟨_, ?_, hk⟩
        match us, hl with
        | [v], _ =>
          have := hc 0 v rfl
          rw [show ad.add 0 = ad from by simp [Addr.add]] at this
          have h1 : (rr (mkA n e).tmps (.cell a t)).run P w = .ok v w := by
            simp only [rr, Sem.run_bind, Sem.run_pure, Result.andThen_ok, ha', asAddr, loadVar, hag]
            simp [this]
          rw [List.mapM_cons]
          simp only [Sem.run_bind, Sem.run_pure, Result.andThen_ok, hr, h1]
          rfl
    · exact h.elim
theorem start_act (n : Fm) (args : List Value) (ha : Nat.ble args.length n.n = true) (g : Value) (hm : n.marks (upd (argE args) ghost g) = []) :
    ({ tmps := (⟨args⟩ : Array Value) ++ Array.replicate (n.n - (⟨args⟩ : Array Value).size) undef, defers := [] } : Act) = mkA n (upd (argE args) ghost g) ∨ ghost < n.n := by
  by_cases hgh : ghost < n.n
  · exact .inr hgh
  have ha := Nat.le_of_ble_eq_true ha
  refine .inl ?_
  simp only [mkA, hm]
  rw [show mkD [] = [] from rfl]
  congr 1
  apply Array.ext_getElem?
  intro i
  rw [Array.getElem?_ofFn]
  have hne : i < n.n → upd (argE args) ghost g i = argE args i := fun h => upd_other _ _ _ _ (by omega)
  by_cases hi : i < args.length
  · have : i < n.n := by omega
    rw [Array.getElem?_append_left (by simpa using hi)]
    simp only [this, dif_pos, hne this]
    simp [argE, List.getElem?_eq_getElem hi]
  · rw [Array.getElem?_append_right (by simpa using hi)]
    by_cases h2 : i < n.n
    · have h3 : i - args.length < n.n - args.length := by omega
      simp only [h2, dif_pos, hne h2]
      simp [argE, List.getElem?_eq_none (Nat.le_of_not_lt hi), Array.getElem?_replicate, h3]
    · have h3 : ¬ i - args.length < n.n - args.length := by omega
      simp [h2, Array.getElem?_replicate, h3]
theorem start_act0 (n : Fm) (args : List Value) (ha : Nat.ble args.length n.n = true) (hm : n.m = false) :
    ({ tmps := (⟨args⟩ : Array Value) ++ Array.replicate (n.n - (⟨args⟩ : Array Value).size) undef, defers := [] } : Act) = mkA n (argE args) := by
  have ha := Nat.le_of_ble_eq_true ha
  simp only [mkA, Fm.marks, hm]
  rw [show mkD [] = [] from rfl]
  congr 1
  apply Array.ext_getElem?
  intro i
  rw [Array.getElem?_ofFn]
  by_cases hi : i < args.length
  · have : i < n.n := by omega
    rw [Array.getElem?_append_left (by simpa using hi)]
    simp [this, argE, List.getElem?_eq_getElem hi]
  · rw [Array.getElem?_append_right (by simpa using hi)]
    by_cases h2 : i < n.n
    · have h3 : i - args.length < n.n - args.length := by omega
      simp [h2, argE, List.getElem?_eq_none (Nat.le_of_not_lt hi), Array.getElem?_replicate, h3]
    · have h3 : ¬ i - args.length < n.n - args.length := by omega
      simp [h2, Array.getElem?_replicate, h3]
theorem results_of {fn : Func} {n : Fm} {e : Env} {w : World} {K : Value → World → Prop} (hg : Good P T) (h : resW T n e fn.results.toList (fun vs w => K (retV vs) w) w) :
    ∃ v, (results fn (mkA n e).tmps).run P w = .ok v w ∧ K v w := by
  obtain ⟨vs, hr, hk⟩ := resW_run hg n e _ _ w h
  refine ⟨retV vs, ?_, hk⟩
  rw [results_rr, Array.mapM_eq_mapM_toList, map_eq_pure_bind]
  simp only [Sem.run_bind, hr, Result.andThen_ok, Sem.run_pure]
  match vs with
  | [] => rfl
  | [v] => rfl
  | _ :: _ :: _ => rfl
theorem fn_of {f : Nat} {fn : Func} {c : Code} {args : List Value} {w : World} {K : Value → World → Prop} (hg : Good P T) (hf : P.funcs[f]? = some fn) (hb : fn.body = some c) (hn : (fn.name != "runtime.NumGoroutine") = true)
    (ha : Nat.ble args.length fn.ntmps = true) (h : wpc P T ⟨fn.ntmps, none, false⟩ c (retQ T ⟨fn.ntmps, none, false⟩ fn.results.toList K) (argE args) w) : callW P f args K w := by
  refine callW_mk (by simp [hasBody, hf, hb] ; simpa using hn) ((callsIn_wide (n := 0)).1 (callsIn_of_wp hf hb trivial ?_))
  rw [start_act0 ⟨fn.ntmps, none, false⟩ args ha rfl]
  refine wpIn_mono (wpc_sound hg _ _ _ _ _ rfl h) ?_
  rintro x a w ⟨e, rfl, hx⟩
  cases x with
  | normal => exact ⟨rfl, (results_of hg hx).imp fun v hv => ⟨hv.1, v, rfl, hv.2⟩⟩
  | ret => exact ⟨rfl, (results_of hg hx).imp fun v hv => ⟨hv.1, v, rfl, hv.2⟩⟩
  | _ => exact hx.elim
/-! #### .. that holds ranges over functions -/
@[irreducible] def tookD (D : Nat) (K : World → Prop) (w : World) : Prop := w.heap[D]? = some (.deferred (some [])) ∧ K (w.putObj D (.deferred none))
theorem tookD_out {D : Nat} {K : World → Prop} {w : World} (h : tookD D K w) : w.heap[D]? = some (.deferred (some [])) ∧ K (w.putObj D (.deferred none)) := by unfold tookD at h; exact h
theorem tookD_mk {D : Nat} {K : World → Prop} {w : World} (h : w.heap[D]? = some (.deferred (some []))) (k : K (w.putObj D (.deferred none))) : tookD D K w := by unfold tookD; exact ⟨h, k⟩
def tookW : List Nat → (World → Prop) → World → Prop
  | [], K, w => K w
  | D :: r, K, w => tookD D (tookW r K) w
def retM (T : TT) (n : Fm) (rs : List ResultVar) (R : Value → World → Prop) : Exit → Env → World → Prop
  | .normal, e, w => tookW (n.marks e) (fun w => resW T n e rs (fun vs w => R (retV vs) w) w) w
  | .ret, e, w => tookW (n.marks e) (fun w => resW T n e rs (fun vs w => R (retV vs) w) w) w
  | _, _, _ => False
theorem leaves_of {fn : Func} {n : Fm} {e : Env} {K : Value → World → Prop} (hg : Good P T) : ∀ (l : List Nat) (w : World), tookW l (fun w => resW T n e fn.results.toList (fun vs w => K (retV vs) w) w) w →
    LeavesInM Fence.wide 0 P fn (mkA n e).tmps (fun x w' => ∃ v, x = .returned v ∧ K v w') (mkD l) .returning w
  | [], w, h => (results_of hg h).imp fun v hv => ⟨hv.1, v, rfl, hv.2⟩
  | D :: l, w, h => by
    obtain ⟨h1, h2⟩ := tookD_out h
    exact ⟨by simp, .inl ⟨D, _, rfl, run_takeDeferred h1, leaves_of hg l _ h2⟩⟩
theorem fn_ofM {f : Nat} {fn : Func} {c : Code} {args : List Value} {w : World} {K : Value → World → Prop} (hg : Good P T) (hf : P.funcs[f]? = some fn) (hb : fn.body = some c) (hn : (fn.name != "runtime.NumGoroutine") = true)
    (ha : Nat.ble args.length fn.ntmps = true) (hgh : Nat.ble fn.ntmps ghost = true) (ok : okCode c = true) (h : wpc P T ⟨fn.ntmps, none, true⟩ c (retM T ⟨fn.ntmps, none, true⟩ fn.results.toList K) (upd (argE args) ghost (.tuple ⟨[]⟩)) w) : callW P f args K w := by
  refine callW_mk (by simp [hasBody, hf, hb] ; simpa using hn) ((callsIn_wide (n := 0)).1 (callsIn_of_wp_marks hf hb trivial ?_))
  rcases start_act ⟨fn.ntmps, none, true⟩ args ha (.tuple ⟨[]⟩) rfl with e0 | e0
  · rw [e0]
    refine wpIn_mono (wpc_sound hg ⟨fn.ntmps, none, true⟩ _ _ _ _ ok h) ?_
    rintro x a w ⟨e, rfl, hx⟩
    cases x with
    | normal => exact leaves_of hg _ _ hx
    | ret => exact leaves_of hg _ _ hx
    | _ => exact hx.elim
  · have := Nat.le_of_ble_eq_true hgh
    simp only at e0
    omega
/-! #### Ranges over functions -/
@[irreducible] def endW (P : Program) (l : Nat) (K : Option Code → World → Prop) (w : World) : Prop := ∃ j w', (Instr.endLoop l).run P w = .ok j w' ∧ K j w'
theorem endW_out {l : Nat} {K : Option Code → World → Prop} {w : World} (h : endW P l K w) : ∃ j w', (Instr.endLoop l).run P w = .ok j w' ∧ K j w' := by unfold endW at h; exact h
@[irreducible] def begW (P : Program) (l : Nat) (K : World → Prop) (w : World) : Prop := ∃ w', (Instr.beginRound l).run P w = .ok () w' ∧ K w'
theorem begW_out {l : Nat} {K : World → Prop} {w : World} (h : begW P l K w) : ∃ w', (Instr.beginRound l).run P w = .ok () w' ∧ K w' := by unfold begW at h; exact h
@[irreducible] def erW (P : Program) (l : Nat) (j : Option Code) (K : Value → World → Prop) (w : World) : Prop := ∃ v w', (Instr.endRound l j).run P w = .ok v w' ∧ K v w'
theorem erW_out {l : Nat} {j : Option Code} {K : Value → World → Prop} {w : World} (h : erW P l j K w) : ∃ v w', (Instr.endRound l j).run P w = .ok v w' ∧ K v w' := by unfold erW at h; exact h
def roundQ (P : Program) (l : Nat) (K : Value → World → Prop) : Exit → Env → World → Prop
  | .normal, _, w => erW P l none K w
  | .ret, _, w => erW P l (some .ret) K w
  | .exit id, _, w => erW P l (some (.exit id)) K w
  | .goto t, _, w => erW P l (some (.goto t)) K w
  | _, _, _ => False
def thenF (N : Env → World → Prop) : Exit → Env → World → Prop
  | .normal => N
  | _ => fun _ _ => False
def layA : List Nat → List Value → Env → Env
  | s :: ss, v :: vs, e => layA ss vs (upd e s v)
  | _, _, e => e
/-- What stands in a loop's record of its own. -/
structure Rec (r : Loop) (nn : Nat) (e : Env) (ps : List Nat) (a b : Code) : Prop where
  tmps : r.tmps = Array.ofFn (n := nn) fun i => e i.1
  params : r.params = ⟨ps⟩
  assign : r.assign = a
  body : r.body = b
theorem lay_fold (nn : Nat) : ∀ (ps : List Nat) (vs : List Value) (e : Env), (ps.zip vs).foldl (fun t (x : Nat × Value) => t.setIfInBounds x.1 x.2) (Array.ofFn (n := nn) fun i => e i.1) = Array.ofFn (n := nn) fun i => (layA ps vs e) i.1
  | [], vs, e => rfl
  | s :: ps, [], e => rfl
  | s :: ps, v :: vs, e => by
    simp only [List.zip_cons_cons, List.foldl_cons, layA]
    rw [← lay_fold nn ps vs (upd e s v)]
    congr 1
    have := congrArg Act.tmps (mkA_put ⟨nn, none, false⟩ e (some s) v rfl)
    simpa [Act.put, mkA, updO] using this
theorem yld_of (hg : Good P T) {l nn : Nat} {r : Loop} {e : Env} {ps : List Nat} {a b : Code} {args : List Value} {K : Value → World → Prop} {w : World} (hw : w.heap[l]? = some (.loop r)) (hr : Rec r nn e ps a b) (hl : args.length = ps.length)
    (h : wpc P T ⟨nn, some l, false⟩ a (thenF fun e w => begW P l (fun w => wpc P T ⟨nn, some l, false⟩ b (roundQ P l K) e w) w) (layA ps args e) w) : yldW P l args K w := by
  unfold yldW
  refine ⟨_, _, _, _, run_yield hw (by rw [hr.params]; exact hl), roundIn_of_wpIn trivial ?_⟩
  rw [hr.assign, hr.body]
  have e0 : ({ tmps := (r.params.zip (⟨args⟩ : Array Value)).foldl (fun tmps (x : Nat × Value) => tmps.setIfInBounds x.1 x.2) r.tmps, defers := [] } : Act) = mkA ⟨nn, some l, false⟩ (layA ps args e) := by
    unfold mkA
    rw [← lay_fold nn ps args e, hr.tmps, hr.params, ← Array.foldl_toList]
    simp
    rfl
  have h1 := wpc_sound hg ⟨nn, some l, false⟩ a _ _ w rfl h
  rw [← e0] at h1
  refine wpIn_mono h1 ?_
  rintro x a w ⟨e1, rfl, hx⟩
  cases x with
  | normal =>
    obtain ⟨w2, h2, h3⟩ := begW_out hx
    refine ⟨w2, h2, wpIn_mono (wpc_sound hg ⟨nn, some l, false⟩ b _ _ w2 rfl h3) ?_⟩
    rintro x a w ⟨e2, rfl, hx⟩
    cases x with
    | normal => obtain ⟨v, w', h4, h5⟩ := erW_out hx; exact ⟨v, w', h4, v, rfl, h5⟩
    | ret => obtain ⟨v, w', h4, h5⟩ := erW_out hx; exact ⟨v, w', h4, v, rfl, h5⟩
    | exit id => obtain ⟨v, w', h4, h5⟩ := erW_out hx; exact ⟨v, w', h4, v, rfl, h5⟩
    | goto t => obtain ⟨v, w', h4, h5⟩ := erW_out hx; exact ⟨v, w', h4, v, rfl, h5⟩
    | panic c => exact hx.elim
    | outgrown => exact hx.elim
  | _ => exact hx.elim
theorem rng_of (hg : Good P T) {n : Fm} (hr : n.r = none) (hm : n.m = true) (hnn : Nat.ble n.n ghost = true) {ps : Array Nat} {a b : Code} {g : Operand} {gf : Nat} {lb gl : List Value} {Q : Exit → Env → World → Prop} {e : Env} {w : World}
    (hgv : ev n e g = .func (.func gf) #[] ⟨lb⟩) (hgh : e ghost = .tuple ⟨gl⟩) (hb : hasBody P gf = true)
    (call : ∀ (r : Loop) (D l : Nat), Rec r n.n e ps.toList a b → D = w.heap.size → l = w.heap.size + 1 →
      callW P gf (.func (.yield l) #[] #[] :: lb) (fun _ w3 => endW P l (fun j w4 => match j with
        | none => Q .normal (upd e ghost (.tuple ⟨.pointer (some ⟨D, 0, none⟩) :: gl⟩)) w4
        | some c => okC n c = true ∧ wpc P T n c Q (upd e ghost (.tuple ⟨.pointer (some ⟨D, 0, none⟩) :: gl⟩)) w4) w3) ((w.alloc (.deferred (some []))).alloc (.loop { r with state := .ready, pending := none }))) :
    otherW P n (.rangeFunc g ps a b) Q e w := by
  refine otherW_mk (wpIn_rangeFunc fun fn hfn => ?_)
  have hF : n.F.round = none := hr
  rw [hF]
  have hmk : ({ mkA n e with defers := [{ target := .collected w.heap.size, args := #[] }] ++ (mkA n e).defers } : Act) = mkA n (upd e ghost (.tuple ⟨.pointer (some ⟨w.heap.size, 0, none⟩) :: gl⟩)) ∨ ghost < n.n := by
    by_cases hgn : ghost < n.n
    · exact .inr hgn
    · refine .inl ?_
      simp only [mkA, Fm.marks, hm, hgh, upd_same, marksV, marksL, mkD, List.map_cons, List.singleton_append]
      congr 1
      apply Array.ext_getElem?
      intro i
      rw [Array.getElem?_ofFn, Array.getElem?_ofFn]
      by_cases hi : i < n.n
      · simp only [hi, dif_pos]
        rw [upd_other _ _ _ _ (by omega)]
      · simp only [hi, dif_neg, not_false_iff]
  have hcall := call { state := .ready, pending := none, fn, tmps := (mkA n e).tmps, params := ps, assign := a, body := b, defers := w.heap.size } w.heap.size (w.heap.size + 1) ⟨rfl, rfl, rfl, rfl⟩ rfl rfl
  have hC := callW_out hb hcall
  refine ⟨w.heap.size + 1, [{ target := .collected w.heap.size, args := #[] }], _, { target := .fn (.func gf) ⟨lb⟩, args := #[.func (.yield (w.heap.size + 1)) #[] #[]] }, (w.alloc (.deferred (some []))).alloc (.loop { state := .ready, pending := none, fn, tmps := (mkA n e).tmps, params := ps, assign := a, body := b, defers := w.heap.size }), gf, #[.func (.yield (w.heap.size + 1)) #[] #[]] ++ ⟨lb⟩, (w.alloc (.deferred (some []))).alloc (.loop { state := .ready, pending := none, fn, tmps := (mkA n e).tmps, params := ps, assign := a, body := b, defers := w.heap.size }), run_enterLoop_outer fn _ ps a b, ?_, fun _ _ => trivial, ?_, ?_, ?_⟩
  · rw [mkA_eval]
    simp only [resolve, rangeCall, hgv, Deferred.ofValue, Sem.run_pure]
    simp [ev]
  · exact hasBody_out hb _
  · intro h; simp [Fm.F, Fence.wide] at h
  · have e1 : #[Value.func (.yield (w.heap.size + 1)) #[] #[]] ++ (⟨lb⟩ : Array Value) = ⟨.func (.yield (w.heap.size + 1)) #[] #[] :: lb⟩ := by
      apply Array.ext'; simp
    rw [e1]
    refine CallsIn.mono (F := n.F) (show CallsIn n.F (0 - 1) P gf _ _ _ from (callsIn_wide.2 hC : CallsIn Fence.wide (0 - 1) P gf _ _ _)) ?_
    rintro x w3 ⟨v, rfl, hv⟩
    obtain ⟨j, w4, h1, h2⟩ := endW_out hv
    refine ⟨j, w4, h1, ?_⟩
    rcases hmk with hmk | hgn
    · cases j with
      | none => simp only at h2 ⊢; rw [hmk]; exact ⟨_, rfl, h2⟩
      | some c => simp only at h2 ⊢; rw [hmk]; exact wpc_sound hg n c _ _ _ h2.1 h2.2
    · exact absurd hgn (by have := Nat.le_of_ble_eq_true hnn; omega)
end
end B
end Go.Proofs.YtdbihpobfcbmeaaDoor
