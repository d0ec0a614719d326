/- A statement whose order Go leaves open, by what each of its operations holds: what it turns is its own, or stands in a row of operations that come one behind the other. -/
import Derived.Test.YtdbihpobfcbmeaaDoorBI
set_option linter.unusedVariables false
set_option linter.unusedSimpArgs false
namespace Go.Proofs.YtdbihpobfcbmeaaDoor
namespace B
open Go Go.RowKit

/-- What an operation has brought up that is told by no number of the plain side. -/
structure Rc where
  a : Nat → Option Addr
  n : Nat → Nat
  l : Nat → List Value
def Rc0 : Rc := ⟨fun _ => none, fun _ => 0, fun _ => []⟩
abbrev Qs := Nat → Rc
def hasN (l : List Nat) (i : Nat) : Bool := l.any (Nat.beq i)
def sel {α : Type} : List α → α → Nat → α
  | [], d, _ => d
  | x :: _, _, 0 => x
  | _ :: r, d, i + 1 => sel r d i
def rst (l : List Nat) (q : Qs) : Qs := fun i => match hasN l i with | true => q i | false => Rc0
def setQ (q : Qs) (k : Nat) (r : Rc) : Qs := fun i => match Nat.beq i k with | true => r | false => q i
structure Dp where
  v : Qs → Value
  f : Qs → Im → Prop
  up : ∀ q I J, Le I J → f q I → f q J
  rs : List Nat
  rd : List Nat
  own : Qs → Nat → List Ent
/-- A value that stands in no memory of its own. -/
def pv (v : Qs → Value) : Dp := ⟨v, fun _ _ => True, fun _ _ _ _ h => h, [], [], fun _ _ => []⟩
theorem hasN_iff {l : List Nat} {i : Nat} : hasN l i = true ↔ i ∈ l := by
  unfold hasN
  rw [List.any_eq_true]
  constructor
  · rintro ⟨x, hx, he⟩; rw [Nat.eq_of_beq_eq_true he]; exact hx
  · intro h; exact ⟨i, h, Nat.beq_refl i⟩
theorem setQ_same (q : Qs) (k : Nat) (r : Rc) : setQ q k r k = r := by simp [setQ]
theorem setQ_ne (q : Qs) {k i : Nat} (r : Rc) (h : i ≠ k) : setQ q k r i = q i := by
  unfold setQ
  cases hb : Nat.beq i k with
  | true => exact absurd (Nat.eq_of_beq_eq_true hb) h
  | false => rfl
theorem rst_set (l : List Nat) (q : Qs) {k : Nat} (r : Rc) (h : k ∉ l) : rst l (setQ q k r) = rst l q := by
  funext i
  unfold rst
  cases hi : hasN l i with
  | true => exact setQ_ne q r (fun e => h (e ▸ hasN_iff.1 hi))
  | false => rfl
section
variable (PL : List (List Nat)) (D : List Dp) (L0 : Nat → List Ent) (q : Qs)
def preOf (k : Nat) : List Nat := PL.getD k []
def rq (k : Nat) : Qs := rst (k :: preOf PL k) q
/-- The last of the operations of S that turn r. -/
def lastTo (S : Nat → Bool) (r : Nat) : Nat → List Dp → Option Nat
  | _, [] => none
  | k, d :: ds => match lastTo S r (k + 1) ds with
    | some j => some j
    | none => match S k && hasN d.rs r with | true => some k | false => none
def ownOf (k r : Nat) : List Ent := match D[k]? with | some d => d.own (rq PL q k) r | none => []
def cur (S : Nat → Bool) (r : Nat) : List Ent := match lastTo S r 0 D with | some k => ownOf PL D q k r | none => L0 r
def allCur (S : Nat → Bool) : List Nat → List Ent
  | [] => []
  | r :: l => cur PL D L0 q S r ++ allCur S l
def allOwn (own : Nat → List Ent) : List Nat → List Ent
  | [] => []
  | r :: l => own r ++ allOwn own l
end
/-- Each resource is turned by operations of which each knows the one ahead. -/
def chainB (PL : List (List Nat)) (D : List Dp) (rl : List Nat) : Bool :=
  (List.range D.length).all fun j => match D[j]? with
    | some d => nodupB (d.rs ++ d.rd) && ((d.rs.all fun r => hasN rl r && (List.range j).all fun i => match D[i]? with | some d' => !hasN d'.rs r || hasN (preOf PL j) i | none => true) &&
        (d.rd.all fun r => hasN rl r && (List.range D.length).all fun i => match D[i]? with | some d' => !hasN d'.rs r || (hasN (preOf PL j) i || hasN (preOf PL i) j) | none => true))
    | none => true
def envL (ops : List Oper) (PL : List (List Nat)) (D : List Dp) (q : Qs) : List Nat → Env → Env
  | [], e => e
  | j :: l, e => match ops[j]?, D[j]? with
    | some o, some d => (match o.dst with
      | some t => upd (envL ops PL D q l e) t (d.v (rq PL q j))
      | none => envL ops PL D q l e)
    | _, _ => envL ops PL D q l e
def eqPL : List (List Nat) → List (List Nat) → Bool
  | [], [] => true
  | a :: r, b :: s => eqL a b && eqPL r s
  | _, _ => false
where eqL : List Nat → List Nat → Bool
  | [], [] => true
  | a :: r, b :: s => Nat.beq a b && eqL r s
  | _, _ => false
theorem eqL_eq : ∀ (a b : List Nat), eqPL.eqL a b = true → a = b
  | [], [], _ => rfl
  | a :: r, b :: s, h => by
    simp only [eqPL.eqL, Bool.and_eq_true] at h
    rw [Nat.eq_of_beq_eq_true h.1, eqL_eq r s h.2]
  | [], _ :: _, h => by simp [eqPL.eqL] at h
  | _ :: _, [], h => by simp [eqPL.eqL] at h
theorem eqPL_eq : ∀ (a b : List (List Nat)), eqPL a b = true → a = b
  | [], [], _ => rfl
  | a :: r, b :: s, h => by
    simp only [eqPL, Bool.and_eq_true] at h
    rw [eqL_eq _ _ h.1, eqPL_eq r s h.2]
  | [], _ :: _, h => by simp [eqPL] at h
  | _ :: _, [], h => by simp [eqPL] at h
def stepsS (P : Program) (T : TT) (n : Fm) (c : Cx) (ops : List Oper) (PL : List (List Nat)) (D : List Dp) (L0 : Nat → List Ent) (R : List Ent) (I0 : Im) (e0 : Env) : Nat → List Oper → List Dp → Prop
  | k, o :: os, d :: ds => (∀ (q : Qs) (J : Im) (Lo : List Ent) (e : Env) (w : World), Le I0 J → (∀ j d', hasN (preOf PL k) j = true → D[j]? = some d' → d'.f (rq PL q j) J) →
        St c J (allCur PL D L0 q (hasN (preOf PL k)) d.rs ++ (allCur PL D L0 q (hasN (preOf PL k)) d.rd ++ (R ++ Lo))) w →
        op1W P T n ops o (fun u w' => ∃ (r : Rc) (J' : Im), Le J J' ∧ u = d.v (rq PL (setQ q k r) k) ∧ d.f (rq PL (setQ q k r) k) J' ∧ St c J' (allOwn (d.own (rq PL (setQ q k r) k)) d.rs ++ (allCur PL D L0 q (hasN (preOf PL k)) d.rd ++ (R ++ Lo))) w')
          (envL ops PL D q (preOf PL k).reverse (mix (dstsMay PL k 0 ops) e0 e)) w) ∧
      stepsS P T n c ops PL D L0 R I0 e0 (k + 1) os ds
  | _, _, _ => True
section
variable {P : Program} {T : TT}
theorem stepsS_at {n : Fm} {c : Cx} {ops : List Oper} {PL : List (List Nat)} {D : List Dp} {L0 : Nat → List Ent} {R : List Ent} {I0 : Im} {e0 : Env} : ∀ (os : List Oper) (ds : List Dp) (k : Nat), stepsS P T n c ops PL D L0 R I0 e0 k os ds →
    ∀ i o d, os[i]? = some o → ds[i]? = some d → ∀ (q : Qs) (J : Im) (Lo : List Ent) (e : Env) (w : World), Le I0 J → (∀ j d', hasN (preOf PL (k + i)) j = true → D[j]? = some d' → d'.f (rq PL q j) J) →
        St c J (allCur PL D L0 q (hasN (preOf PL (k + i))) d.rs ++ (allCur PL D L0 q (hasN (preOf PL (k + i))) d.rd ++ (R ++ Lo))) w →
        op1W P T n ops o (fun u w' => ∃ (r : Rc) (J' : Im), Le J J' ∧ u = d.v (rq PL (setQ q (k + i) r) (k + i)) ∧ d.f (rq PL (setQ q (k + i) r) (k + i)) J' ∧ St c J' (allOwn (d.own (rq PL (setQ q (k + i) r) (k + i))) d.rs ++ (allCur PL D L0 q (hasN (preOf PL (k + i))) d.rd ++ (R ++ Lo))) w')
          (envL ops PL D q (preOf PL (k + i)).reverse (mix (dstsMay PL (k + i) 0 ops) e0 e)) w
  | [], _, _, _, i, o, d, hi, _ => by simp at hi
  | _ :: _, [], _, _, i, o, d, _, hd => by simp at hd
  | o' :: os, d' :: ds, k, h, i, o, d, hi, hd => by
    simp only [stepsS] at h
    cases i with
    | zero => simp at hi hd; subst hi; subst hd; exact h.1
    | succ i =>
      have := stepsS_at os ds (k + 1) h.2 i o d (by simpa using hi) (by simpa using hd)
      rwa [show k + 1 + i = k + (i + 1) by omega] at this
theorem lastTo_some {S : Nat → Bool} {r : Nat} : ∀ {ds : List Dp} {k j : Nat}, lastTo S r k ds = some j → k ≤ j ∧ S j = true ∧ (∃ d, ds[j - k]? = some d ∧ r ∈ d.rs) ∧ ∀ i d, j < i → ds[i - k]? = some d → S i = true → r ∉ d.rs
  | [], k, j, h => by simp [lastTo] at h
  | d :: ds, k, j, h => by
    simp only [lastTo] at h
    split at h
    · rename_i j' hj
      cases h
      obtain ⟨h1, h2, ⟨d', hd, hr⟩, h4⟩ := lastTo_some hj
      refine ⟨by omega, h2, ⟨d', by rw [show j - k = (j - (k + 1)) + 1 by omega]; simpa using hd, hr⟩, fun i di hi hdi hs => ?_⟩
      exact h4 i di hi (by rw [show i - k = (i - (k + 1)) + 1 by omega] at hdi; simpa using hdi) hs
    · rename_i hn
      split at h
      · rename_i hb
        cases h
        rw [Bool.and_eq_true] at hb
        refine ⟨Nat.le_refl _, hb.1, ⟨d, by simp, hasN_iff.1 hb.2⟩, fun i di hi hdi hs hr => ?_⟩
        have := lastTo_none hn i di (by omega) (by rw [show i - k = (i - (k + 1)) + 1 by omega] at hdi; simpa using hdi) hs
        exact this hr
      · cases h
where lastTo_none {S : Nat → Bool} {r : Nat} : ∀ {ds : List Dp} {k : Nat}, lastTo S r k ds = none → ∀ i d, k ≤ i → ds[i - k]? = some d → S i = true → r ∉ d.rs
  | [], k, h, i, d, _, hd, _ => by simp at hd
  | d :: ds, k, h, i, di, hi, hdi, hs => by
    simp only [lastTo] at h
    split at h
    · cases h
    · rename_i hn
      split at h
      · cases h
      · rename_i hb
        by_cases he : i = k
        · subst he
          simp at hdi; subst hdi
          intro hr
          rw [hs, hasN_iff.2 hr] at hb; cases hb
        · exact lastTo_none hn i di (by omega) (by rw [show i - k = (i - (k + 1)) + 1 by omega] at hdi; simpa using hdi) hs
end
section
variable {PL : List (List Nat)} {D : List Dp} {L0 : Nat → List Ent} {q : Qs}
/-- Sets that have the same of the operations that turn r leave r the same. -/
theorem lastTo_congr {S S' : Nat → Bool} {r : Nat} : ∀ {ds : List Dp} {k : Nat}, (∀ i d, ds[i]? = some d → r ∈ d.rs → S (k + i) = S' (k + i)) → lastTo S r k ds = lastTo S' r k ds
  | [], k, h => rfl
  | d :: ds, k, h => by
    simp only [lastTo]
    rw [lastTo_congr (k := k + 1) (S := S) (S' := S') (fun i d' hd hr => by have := h (i + 1) d' (by simpa using hd) hr; rwa [show k + (i + 1) = k + 1 + i by omega] at this)]
    split
    · rfl
    · cases hr : hasN d.rs r with
      | false => simp
      | true => have := h 0 d (by simp) (hasN_iff.1 hr); simp only [Nat.add_zero] at this; rw [this]
theorem allCur_congr {S S' : Nat → Bool} {q' : Qs} : ∀ (l : List Nat), (∀ r ∈ l, cur PL D L0 q S r = cur PL D L0 q' S' r) → allCur PL D L0 q S l = allCur PL D L0 q' S' l
  | [], _ => rfl
  | r :: l, h => by
    simp only [allCur]
    rw [h r (by simp), allCur_congr l (fun x hx => h x (by simp [hx]))]
theorem allCur_own {S : Nat → Bool} {own : Nat → List Ent} : ∀ (l : List Nat), (∀ r ∈ l, cur PL D L0 q S r = own r) → allCur PL D L0 q S l = allOwn own l
  | [], _ => rfl
  | r :: l, h => by
    simp only [allCur, allOwn]
    rw [h r (by simp), allCur_own l (fun x hx => h x (by simp [hx]))]
theorem allCur_append {S : Nat → Bool} : ∀ (l l' : List Nat), allCur PL D L0 q S (l ++ l') = allCur PL D L0 q S l ++ allCur PL D L0 q S l'
  | [], l' => rfl
  | r :: l, l' => by simp only [List.cons_append, allCur, allCur_append l l', List.append_assoc]
theorem allCur_perm {S : Nat → Bool} {l l' : List Nat} (h : l.Perm l') : (allCur PL D L0 q S l).Perm (allCur PL D L0 q S l') := by
  induction h with
  | nil => exact .refl _
  | cons x _ ih => exact List.Perm.append_left _ ih
  | swap x y l =>
    simp only [allCur]
    rw [← List.append_assoc, ← List.append_assoc]
    exact List.Perm.append_right _ List.perm_append_comm
  | trans _ _ ih1 ih2 => exact ih1.trans ih2
end
theorem envL_at {ops : List Oper} {PL : List (List Nat)} {D : List Dp} {q : Qs} {e : Env} : ∀ (l : List Nat), (∀ j ∈ l, ∀ o d t, ops[j]? = some o → D[j]? = some d → o.dst = some t → e t = d.v (rq PL q j)) → envL ops PL D q l e = e
  | [], _ => rfl
  | j :: l, h => by
    have ih := envL_at (ops := ops) (PL := PL) (D := D) (q := q) (e := e) l (fun i hi => h i (by simp [hi]))
    simp only [envL, ih]
    split
    · rename_i o d ho hd
      split
      · rename_i t ht
        rw [← h j (by simp) o d t ho hd ht, upd_self]
      · rfl
    · rfl

def drawSB (n : Fm) (ops : List Oper) (PL : List (List Nat)) (D : List Dp) (rl : List Nat) : Bool :=
  (ops.all fun o => n.okD o.dst) && (Nat.beq ops.length D.length && (backB 0 ops && (nodupB (dstsOf ops) && (eqPL PL (preL [] ops) && (chainB PL D rl && nodupB rl)))))
theorem chainB_out {PL : List (List Nat)} {D : List Dp} {rl : List Nat} (h : chainB PL D rl = true) {j : Nat} {d : Dp} (hd : D[j]? = some d) :
    (d.rs ++ d.rd).Nodup ∧ (∀ r ∈ d.rs ++ d.rd, r ∈ rl) ∧ (∀ r ∈ d.rs, ∀ i d', i < j → D[i]? = some d' → r ∈ d'.rs → i ∈ preOf PL j) ∧
      ∀ r ∈ d.rd, ∀ (i : Nat) d', D[i]? = some d' → r ∈ d'.rs → i ∈ preOf PL j ∨ j ∈ preOf PL i := by
  have hlt := (List.getElem?_eq_some_iff.1 hd).1
  have := List.all_eq_true.1 h j (by simpa using hlt)
  rw [hd] at this
  simp only [Bool.and_eq_true, List.all_eq_true] at this
  refine ⟨nodupB_nd _ this.1, fun r hr => ?_, fun r hr i d' hi hd' hr' => ?_, fun r hr i d' hd' hr' => ?_⟩
  · rcases List.mem_append.1 hr with hr | hr
    · exact hasN_iff.1 (this.2.1 r hr).1
    · exact hasN_iff.1 (this.2.2 r hr).1
  · have h2 := (this.2.1 r hr).2 i (by simpa using hi)
    rw [hd'] at h2
    simp only [Bool.or_eq_true, Bool.not_eq_true'] at h2
    rcases h2 with h2 | h2
    · rw [hasN_iff.2 hr'] at h2; cases h2
    · exact hasN_iff.1 h2
  · have h2 := (this.2.2 r hr).2 i (by simpa using (List.getElem?_eq_some_iff.1 hd').1)
    rw [hd'] at h2
    simp only [Bool.or_eq_true, Bool.not_eq_true'] at h2
    rcases h2 with h2 | h2 | h2
    · rw [hasN_iff.2 hr'] at h2; cases h2
    · exact .inl (hasN_iff.1 h2)
    · exact .inr (hasN_iff.1 h2)
theorem split_perm {rl rs : List Nat} (h1 : rl.Nodup) (h2 : rs.Nodup) (h3 : ∀ r ∈ rs, r ∈ rl) : rl.Perm (rs ++ rl.filter fun r => !hasN rs r) := by
  refine (List.perm_ext_iff_of_nodup h1 ?_).2 fun x => ?_
  · rw [List.nodup_append]
    refine ⟨h2, h1.filter _, fun a ha b hb => ?_⟩
    rintro rfl
    have := (List.mem_filter.1 hb).2
    rw [hasN_iff.2 ha] at this; cases this
  · rw [List.mem_append, List.mem_filter]
    constructor
    · intro hx
      cases hb : hasN rs x with
      | true => exact .inl (hasN_iff.1 hb)
      | false => exact .inr ⟨hx, by simp⟩
    · rintro (h | h)
      · exact h3 x h
      · exact h.1
section
variable {P : Program} {T : TT}
theorem drawS (hg : Good P T) {n : Fm} {id : Nat} {ops : List Oper} {K : Env → World → Prop} {e0 : Env} {w0 : World} {c : Cx} {I0 : Im} {R : List Ent} (rl : List Nat) (PL : List (List Nat)) (D : List Dp) (L0 : Nat → List Ent)
    (hs : St c I0 (allOwn L0 rl ++ R) w0) (hB : drawSB n ops PL D rl = true)
    (steps : stepsS P T n c ops PL D L0 R I0 e0 0 ops D)
    (done : ∀ (q : Qs) (J : Im) (e : Env) (w : World), Le I0 J → (∀ (j : Nat) (d : Dp), D[j]? = some d → d.f (rq PL q j) J) → St c J (allCur PL D L0 q (fun _ => true) rl ++ R) w → K (envL ops PL D q (List.range ops.length).reverse (mix (dstsOf ops) e0 e)) w) : drawW P n id ⟨ops⟩ K e0 w0 := by
  simp only [drawSB, Bool.and_eq_true] at hB
  obtain ⟨hok, hlen, hback, hnd, hPL, hch, hrl⟩ := hB
  have hokd : ∀ o ∈ ops, n.okD o.dst = true := fun o ho => List.all_eq_true.1 hok o ho
  have hlen : ops.length = D.length := Nat.eq_of_beq_eq_true hlen
  have hback := backB_mem ops 0 hback
  have hnd := nodupB_nd _ hnd
  have hrl := nodupB_nd _ hrl
  obtain rfl := eqPL_eq _ _ hPL
  generalize hPLe : preL [] ops = PL at *
  obtain ⟨hpl, hpre⟩ := preL_mem ops [] [] rfl (fun i p hp => by simp at hp)
  rw [hPLe] at hpl hpre
  simp only [List.nil_append] at hpl hpre
  have hpre' : ∀ k j, j ∈ preOf PL k → ∃ p, PL[k]? = some p ∧ j ∈ p := by
    intro k j hj
    unfold preOf at hj
    rw [List.getD_eq_getElem?_getD] at hj
    cases hp : PL[k]? with
    | none => rw [hp] at hj; simp at hj
    | some p => rw [hp] at hj; exact ⟨p, rfl, by simpa using hj⟩
  have hpre2 : ∀ k p, PL[k]? = some p → preOf PL k = p := by
    intro k p hp; unfold preOf; rw [List.getD_eq_getElem?_getD, hp]; rfl
  refine drawW_mk (wpIn_region_any hg.2 ?_)
  have hF : ∀ {j o}, ops[j]? = some o → ∃ d, D[j]? = some d := fun {j o} hj => ⟨D[j]'(by have := (List.getElem?_eq_some_iff.1 hj).1; omega), List.getElem?_eq_getElem _⟩
  -- what is listed is closed under what stands ahead
  let Cl : (Nat → Bool) → Prop := fun S => ∀ j o, S j = true → ops[j]? = some o → ∀ k, k ∈ edgesOf o → S k = true
  have key : ∀ (S : Nat → Bool), Cl S → ∀ m k, k < m → S k = true → ∀ j, j ∈ preOf PL k → S j = true := by
    intro S hcl m
    induction m with
    | zero => intro k hk; omega
    | succ m ihm =>
      intro k hk hlk j hj
      obtain ⟨p, hp, hjp⟩ := hpre' k j hj
      obtain ⟨ok, hok, k2, hk2, hor⟩ := hpre k p hp j hjp
      have hl2 := hcl k ok hlk hok k2 hk2
      rcases hor with rfl | ⟨q2, hq2, hj2⟩
      · exact hl2
      · have := hback k ok hok k2 hk2
        exact ihm k2 (by omega) hl2 j (by rw [hpre2 _ _ hq2]; exact hj2)
  have ahead : ∀ (S : Nat → Bool), Cl S → ∀ i o, ops[i]? = some o → (∀ k, k ∈ edgesOf o → S k = true) → ∀ j, j ∈ preOf PL i → S j = true := by
    intro S hcl i o ho hed j hj
    obtain ⟨p, hp, hjp⟩ := hpre' i j hj
    obtain ⟨o2, ho2, k, hk, hor⟩ := hpre i p hp j hjp
    rw [ho] at ho2; cases ho2
    have hlk := hed k hk
    rcases hor with rfl | ⟨q, hq, hjq⟩
    · exact hlk
    · exact key S hcl (k + 1) k (by omega) hlk j (by rw [hpre2 _ _ hq]; exact hjq)
  let Lf : Array Bool → Nat → Bool := fun listed j => listed.getD j false
  let J : Array Bool → Env → World → Prop := fun listed e w => listed.size = ops.length ∧ Cl (Lf listed) ∧ (∀ t, (∀ j o, Lf listed j = true → ops[j]? = some o → o.dst ≠ some t) → e t = e0 t) ∧
    ∃ (q : Qs) (Jm : Im), Le I0 Jm ∧ (∀ (j : Nat) (d : Dp), Lf listed j = true → D[j]? = some d → d.f (rq PL q j) Jm ∧ ∀ o t, ops[j]? = some o → o.dst = some t → e t = d.v (rq PL q j)) ∧
      St c Jm (allCur PL D L0 q (Lf listed) rl ++ R) w
  have fin : ∀ listed e w, J listed e w → Region.ready .any ⟨ops⟩ listed = [] → lift n (thenQ K fun _ _ _ => False) .normal (mkA n e) w := by
    intro listed e w ⟨hs, hcl, he, q, Jm, hle, hf, hst⟩ hr
    have hall : ∀ j, j < ops.length → Lf listed j = true := by
      intro j
      induction j using Nat.strongRecOn with
      | _ j ih =>
        intro hj
        cases hl : Lf listed j with
        | true => rfl
        | false =>
          have : j ∈ Region.ready .any ⟨ops⟩ listed := by
            refine mem_ready.2 ⟨?_, ops[j], by simp [hj], fun ed hed hb => ?_⟩
            · have hj' : j < listed.size := by omega
              simp [Lf, Array.getD, hj'] at hl ⊢; exact hl
            · have hm : ed.on ∈ edgesOf ops[j] := List.mem_map.2 ⟨ed, List.mem_filter.2 ⟨by simpa using hed, hb⟩, rfl⟩
              have := hback j ops[j] (List.getElem?_eq_getElem hj) ed.on hm
              exact ih ed.on (by omega) (by omega)
          rw [hr] at this; cases this
    refine ⟨e, rfl, ?_⟩
    have hD : ∀ j d, D[j]? = some d → Lf listed j = true := fun j d hd => hall j (by have := (List.getElem?_eq_some_iff.1 hd).1; omega)
    have := done q Jm e w hle (fun j d hd => (hf j d (hD j d hd) hd).1) (by
      rw [allCur_congr (S := fun _ => true) (S' := Lf listed) (q' := q) rl (fun r _ => by
        unfold cur
        rw [lastTo_congr (S := fun _ => true) (S' := Lf listed) (fun i d hd hr => by rw [Nat.zero_add]; exact (hD i d hd).symm)])]
      exact hst)
    rw [mix_eq (dstsOf ops) _ _ (fun t ht => he t fun j o _ ho hd => ht (List.mem_filterMap.2 ⟨o, List.mem_of_getElem? ho, hd⟩))] at this
    rw [envL_at _ (fun j hj o d t ho hd ht => (hf j d (hD j d hd) hd).2 o t ho ht)] at this
    exact this
  have main : ∀ (fuel : Nat) (listed : Array Bool) (e : Env) (w : World), J listed e w → (List.range ops.length).countP (fun i => !listed.getD i false) ≤ fuel →
      wpAnyIn n.F 0 P .any ⟨ops⟩ (lift n (thenQ K fun _ _ _ => False)) fuel listed (mkA n e) w := by
    intro fuel
    induction fuel with
    | zero =>
      intro listed e w hJ hcnt
      have hr : Region.ready .any ⟨ops⟩ listed = [] := by
        cases hh : Region.ready .any ⟨ops⟩ listed with
        | nil => rfl
        | cons i r =>
          have hi : i ∈ Region.ready .any ⟨ops⟩ listed := by rw [hh]; simp
          obtain ⟨h1, o, ho, _⟩ := mem_ready.1 hi
          have hlt : i < ops.length := by have := (Array.getElem?_eq_some_iff.1 ho).1; simpa using this
          have h2 : listed.getD i false = false := by
            have hs := hJ.1
            have : i < listed.size := by omega
            simp [Array.getD, this] at h1 ⊢; exact h1
          have : 0 < (List.range ops.length).countP (fun i => !listed.getD i false) := List.countP_pos_iff.2 ⟨i, by simpa using hlt, by simp [h2]⟩
          omega
      exact ⟨hr, fin listed e w hJ hr⟩
    | succ fuel ih =>
      intro listed e w hJ hcnt
      refine ⟨fin listed e w hJ, fun i hi => ?_⟩
      obtain ⟨hs, hcl, he, q, Jm, hle, hf, hst⟩ := hJ
      obtain ⟨h1, o, ho, hed⟩ := mem_ready.1 hi
      have hlt : i < ops.length := by have := (Array.getElem?_eq_some_iff.1 ho).1; simpa using this
      have ho' : ops[i]? = some o := by simpa using ho
      have h2 : Lf listed i = false := by
        have : i < listed.size := by omega
        simp [Lf, Array.getD, this] at h1 ⊢; exact h1
      have hedge : ∀ k, k ∈ edgesOf o → Lf listed k = true := by
        intro k hk
        obtain ⟨ed, hed1, rfl⟩ := List.mem_map.1 hk
        obtain ⟨hed1, hed2⟩ := List.mem_filter.1 hed1
        exact hed ed (by simpa using hed1) hed2
      obtain ⟨d, hd⟩ := hF ho'
      have hbefore := ahead (Lf listed) hcl i o ho' hedge
      obtain ⟨c1, c2, c3, c4⟩ := chainB_out hch hd
      -- of the operations that turn one of this one's resources those are listed that stand ahead of it
      have hchain : ∀ r ∈ d.rs, ∀ j dj, D[j]? = some dj → r ∈ dj.rs → Lf listed j = true → j < i := by
        intro r hr j dj hdj hrj hlj
        by_cases hji : j < i
        · exact hji
        · have hne : j ≠ i := fun h => by rw [h, h2] at hlj; cases hlj
          have := (chainB_out hch hdj).2.2.1 r hrj i d (by omega) hd hr
          have := key (Lf listed) hcl (j + 1) j (by omega) hlj i this
          rw [h2] at this; cases this
      have hwr : ∀ r ∈ d.rs ++ d.rd, ∀ j dj, D[j]? = some dj → r ∈ dj.rs → Lf listed j = true → j ∈ preOf PL i := by
        intro r hr j dj hdj hrj hlj
        rcases List.mem_append.1 hr with hr | hr
        · exact c3 r hr j dj (hchain r hr j dj hdj hrj hlj) hdj hrj
        · rcases c4 r hr j dj hdj hrj with h | h
          · exact h
          · have := key (Lf listed) hcl (j + 1) j (by omega) hlj i h
            rw [h2] at this; cases this
      have hcur : ∀ r ∈ d.rs ++ d.rd, cur PL D L0 q (Lf listed) r = cur PL D L0 q (hasN (preOf PL i)) r := by
        intro r hr
        unfold cur
        rw [lastTo_congr (S := Lf listed) (S' := hasN (preOf PL i)) (fun j dj hdj hrj => by
          rw [Nat.zero_add]
          cases hlj : Lf listed j with
          | true => exact (hasN_iff.2 (hwr r hr j dj hdj hrj hlj)).symm
          | false =>
            cases hb : hasN (preOf PL i) j with
            | false => rfl
            | true => rw [hbefore j (hasN_iff.1 hb)] at hlj; cases hlj)]
      have hsp := split_perm hrl c1 c2
      let rest := rl.filter fun r => !hasN (d.rs ++ d.rd) r
      have hst1 : St c Jm (allCur PL D L0 q (hasN (preOf PL i)) d.rs ++ (allCur PL D L0 q (hasN (preOf PL i)) d.rd ++ (R ++ allCur PL D L0 q (Lf listed) rest))) w := by
        rw [← List.append_assoc, ← allCur_append, ← allCur_congr (S := Lf listed) (q := q) (q' := q) (d.rs ++ d.rd) hcur]
        refine hst.perm (List.Perm.trans (List.Perm.append_left _ List.perm_append_comm) ?_)
        rw [← List.append_assoc, ← allCur_append]
        exact List.Perm.append_right _ (allCur_perm hsp).symm
      have hstep := stepsS_at ops D 0 steps i o d ho' hd q Jm (allCur PL D L0 q (Lf listed) rest) e w hle
      rw [Nat.zero_add] at hstep
      have hstep := hstep (fun j dj hj hdj => (hf j dj (hbefore j (hasN_iff.1 hj)) hdj).1) hst1
      rw [mix_eq _ _ _ (fun t ht => he t fun j oj hlj hoj hdj => ht (mem_dstsMay (n := 0) hoj hdj (by
        rw [Nat.zero_add, Bool.or_eq_false_iff]
        refine ⟨?_, ?_⟩
        · cases hb : Nat.beq j i with
          | false => rfl
          | true => rw [Nat.eq_of_beq_eq_true hb, h2] at hlj; cases hlj
        · cases hany : (PL.getD j []).any (Nat.beq i) with
          | false => rfl
          | true =>
            have := key (Lf listed) hcl (j + 1) j (by omega) hlj i (hasN_iff.1 hany)
            rw [h2] at this; cases this)))] at hstep
      rw [envL_at _ (fun j hj oj dj t hoj hdj htj => (hf j dj (hbefore j (by simpa using hj)) hdj).2 oj t hoj htj)] at hstep
      refine op1W_sound hg n ops ho' (hokd _ (List.mem_of_getElem? ho')) hstep fun u w' ⟨r, J', hlJ, hu, hfr, hst2⟩ => ?_
      have hset : ∀ j, Lf (listed.setIfInBounds i true) j = true ↔ Lf listed j = true ∨ j = i := by
        intro j
        by_cases hji : j = i
        · subst hji
          have : j < listed.size := by omega
          simp [Lf, Array.getD, this]
        · simp only [Lf]; rw [getD_set_ne false (Ne.symm hji)]; simp [hji]
      have hsetn : ∀ j, j ≠ i → Lf (listed.setIfInBounds i true) j = Lf listed j := by
        intro j hji
        simp only [Lf]; rw [getD_set_ne false (Ne.symm hji)]
      have hrq : ∀ j, Lf listed j = true → rq PL (setQ q i r) j = rq PL q j := by
        intro j hj
        refine rst_set _ _ _ fun hm => ?_
        rcases List.mem_cons.1 hm with rfl | hm
        · rw [h2] at hj; cases hj
        · have := key (Lf listed) hcl (j + 1) j (by omega) hj i hm
          rw [h2] at this; cases this
      refine ih _ _ w' ⟨by simpa using hs, ?_, ?_, setQ q i r, J', hle.trans hlJ, ?_, ?_⟩ ?_
      · intro j oj hj hoj k hk
        refine (hset k).2 (.inl ?_)
        rcases (hset j).1 hj with hj2 | rfl
        · exact hcl j oj hj2 hoj k hk
        · rw [ho'] at hoj; cases hoj
          exact hedge k hk
      · intro t ht
        have h0 : e t = e0 t := he t fun j oj hlj hoj => ht j oj ((hset j).2 (.inl hlj)) hoj
        cases hdst : o.dst with
        | none => exact h0
        | some t' =>
          simp only [updO]
          rw [upd_other _ _ _ _ (fun h => ht i o ((hset i).2 (.inr rfl)) ho' (by rw [hdst, h]))]
          exact h0
      · intro j dj hj hdj
        rcases (hset j).1 hj with hj2 | rfl
        · have hji : j ≠ i := fun hji => by rw [hji, h2] at hj2; cases hj2
          rw [hrq j hj2]
          refine ⟨dj.up _ _ _ hlJ (hf j dj hj2 hdj).1, fun oj t hoj htj => ?_⟩
          rw [← (hf j dj hj2 hdj).2 oj t hoj htj]
          cases hdst : o.dst with
          | none => rfl
          | some t' =>
            simp only [updO]
            rw [upd_other _ _ _ _ (dst_ne hnd hoj ho' htj hdst hji)]
        · rw [hd] at hdj; cases hdj
          refine ⟨hfr, fun oj t hoj htj => ?_⟩
          rw [ho'] at hoj; cases hoj
          rw [htj]
          simp only [updO]
          rw [upd_same]; exact hu
      · have hcur2 : ∀ r' ∈ d.rs, cur PL D L0 (setQ q i r) (Lf (listed.setIfInBounds i true)) r' = d.own (rq PL (setQ q i r) i) r' := by
          intro r' hr'
          have hl : lastTo (Lf (listed.setIfInBounds i true)) r' 0 D = some i := by
            cases hl : lastTo (Lf (listed.setIfInBounds i true)) r' 0 D with
            | none => exact absurd hr' (lastTo_some.lastTo_none hl i d (Nat.zero_le _) (by simpa using hd) ((hset i).2 (.inr rfl)))
            | some j =>
              obtain ⟨_, hj1, ⟨dj, hdj, hrj⟩, hj3⟩ := lastTo_some hl
              rw [Nat.sub_zero] at hdj
              rcases (hset j).1 hj1 with hj2 | rfl
              · have hlt2 := hchain r' hr' j dj hdj hrj hj2
                exact absurd hr' (hj3 i d hlt2 (by simpa using hd) ((hset i).2 (.inr rfl)))
              · rfl
          simp only [cur, hl, ownOf, hd]
        have hcur3' : ∀ r', r' ∉ d.rs → cur PL D L0 (setQ q i r) (Lf (listed.setIfInBounds i true)) r' = cur PL D L0 q (Lf listed) r' := by
          intro r' hnot
          unfold cur
          rw [lastTo_congr (S := Lf (listed.setIfInBounds i true)) (S' := Lf listed) (fun j dj hdj hrj => by
            rw [Nat.zero_add]
            refine hsetn j fun hji => ?_
            subst hji
            rw [hd] at hdj; cases hdj
            exact hnot hrj)]
          cases hl : lastTo (Lf listed) r' 0 D with
          | none => rfl
          | some j =>
            obtain ⟨_, hj1, ⟨dj, hdj, hrj⟩, _⟩ := lastTo_some hl
            simp only [ownOf]
            rw [hrq j hj1]
        have hcur3 : ∀ r' ∈ rest, cur PL D L0 (setQ q i r) (Lf (listed.setIfInBounds i true)) r' = cur PL D L0 q (Lf listed) r' := by
          intro r' hr'
          exact hcur3' r' fun h => by have := (List.mem_filter.1 hr').2; rw [hasN_iff.2 (List.mem_append_left _ h)] at this; cases this
        have hcur4 : ∀ r' ∈ d.rd, cur PL D L0 (setQ q i r) (Lf (listed.setIfInBounds i true)) r' = cur PL D L0 q (hasN (preOf PL i)) r' := by
          intro r' hr'
          have hnot : r' ∉ d.rs := fun h => (List.nodup_append.1 c1).2.2 r' h r' hr' rfl
          rw [← hcur r' (List.mem_append_right _ hr')]
          exact hcur3' r' hnot
        rw [← allCur_own (S := Lf (listed.setIfInBounds i true)) (q := setQ q i r) (PL := PL) (D := D) (L0 := L0) d.rs hcur2, ← allCur_congr (PL := PL) (D := D) (L0 := L0) rest hcur3, ← allCur_congr (PL := PL) (D := D) (L0 := L0) d.rd hcur4] at hst2
        refine hst2.perm ?_
        rw [← List.append_assoc (allCur _ _ _ _ _ d.rs), ← allCur_append]
        refine List.Perm.trans ?_ (List.Perm.append_left _ List.perm_append_comm)
        rw [← List.append_assoc, ← allCur_append]
        exact List.Perm.append_right _ (allCur_perm hsp)
      · have := countP_lt (l := List.range ops.length) (x := i) (p := fun i => !listed.getD i false) (q := fun j => !(listed.setIfInBounds i true).getD j false) (fun y _ hy => by
            simp only [Bool.not_eq_true'] at hy ⊢
            cases hl : listed.getD y false with
            | false => rfl
            | true => have := (hset y).2 (.inl hl); simp only [Lf] at this; rw [this] at hy; cases hy) (by simpa using hlt) (by have := h2; simp only [Lf] at this; simp only [this]; rfl) (by have := (hset i).2 (.inr rfl); simp only [Lf] at this; simp only [this]; rfl)
        omega
  have hf0 : ∀ j, Lf (Array.replicate ops.length false) j = false := fun j => by simp [Lf, Array.getD]
  have h0 : J (Array.replicate ops.length false) e0 { w0 with drawn := w0.drawn + 1 } := by
    refine ⟨by simp, fun j o hj => absurd hj (by rw [hf0]; simp), fun _ _ => rfl, fun _ => Rc0, I0, Le.refl _, fun j d hj => absurd hj (by rw [hf0]; simp), ?_⟩
    have e1 : allCur PL D L0 (fun _ => Rc0) (Lf (Array.replicate ops.length false)) rl = allOwn L0 rl := allCur_own rl fun r _ => by
      unfold cur
      cases hl : lastTo (Lf (Array.replicate ops.length false)) r 0 D with
      | none => rfl
      | some j => have := (lastTo_some hl).2.1; rw [hf0] at this; cases this
    rw [e1]
    exact hs.quiet (Ch.draw w0)
  have := main ops.length _ e0 _ h0 (Nat.le_trans List.countP_le_length (by simp))
  simpa using this
end
end B
end Go.Proofs.YtdbihpobfcbmeaaDoor
