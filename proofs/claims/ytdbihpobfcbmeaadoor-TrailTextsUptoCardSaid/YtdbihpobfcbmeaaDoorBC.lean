/- A statement whose order Go leaves open: what each of its operations yields, whatever has come up before it, and what may be said behind all of them. -/
import Derived.Test.YtdbihpobfcbmeaaDoorBB
import Derived.OrdersIn
set_option linter.unusedVariables false
set_option linter.unusedSimpArgs false
namespace Go.Proofs.YtdbihpobfcbmeaaDoor
namespace B
open Go Go.RowKit

def op1W (P : Program) (T : TT) (n : Fm) (all : List Oper) (o : Oper) (K : Value → World → Prop) (e : Env) (w : World) : Prop :=
  match o.guard with
  | none => opW P T o.op o.type (ev n e) K w
  | some (j, want) => match all[j]? with
    | some oj => (match oj.dst with
      | some d => (match Nat.blt d n.n, e d with
        | true, .bool b => Bool.rec (motive := fun _ => Prop)
            (match want with | true => K undef w | false => opW P T o.op o.type (ev n e) K w)
            (match want with | true => opW P T o.op o.type (ev n e) K w | false => K undef w) b
        | true, .tuple _ => K undef w
        | _, _ => False)
      | none => False)
    | none => False
theorem op1W_sound {P : Program} {T : TT} (hg : Good P T) (n : Fm) (all : List Oper) {i : Nat} {o : Oper} (ho : all[i]? = some o) {K : Value → World → Prop} {Q : Exit → Act → World → Prop} {G : Act → World → Prop} {e : Env} {w : World}
    (hok : n.okD o.dst = true) (h : op1W P T n all o K e w) (hk : ∀ v w', K v w' → G (mkA n (updO e o.dst v)) w') : wpOpIn n.F 0 P ⟨all⟩ Q i G (mkA n e) w := by
  have ho' : (⟨all⟩ : Array Oper)[i]? = some o := by simpa using ho
  have run : opW P T o.op o.type (ev n e) K w → o.wpIn n.F 0 P (mkA n e) w G Q := by
    intro h
    have hs := opW_sound hg (ev n e) o h
    rw [← mkA_eval] at hs
    exact runs_wp (opW_noDefer h) hs fun v w' hv => by rw [mkA_put _ _ _ _ hok]; exact hk _ _ hv
  have skip : K undef w → G ((mkA n e).put o.dst undef) w := fun h => by rw [mkA_put _ _ _ _ hok]; exact hk _ _ h
  unfold wpOpIn
  simp only [ho']
  simp only [op1W] at h
  split at h
  · rename_i hgd
    rw [if_pos (by simp [Region.wanted, hgd])]
    exact run h
  · rename_i j want hgd
    split at h
    · rename_i oj hoj
      split at h
      · rename_i d hd
        have hoj' : (⟨all⟩ : Array Oper)[j]? = some oj := by simpa using hoj
        split at h
        · rename_i b hdn heb
          have hy : yielded ⟨all⟩ (mkA n e).tmps j = some b := by simp [yielded, hoj', hd, mkA_at n e d hdn, heb]
          have hw : Region.wanted o (yielded ⟨all⟩ (mkA n e).tmps) = (b == want) := by simp [Region.wanted, hgd, hy]
          rw [hw]
          cases b <;> cases want <;> simp only [beq_self_eq_true, if_true, show (false == true) = false from rfl, show (true == false) = false from rfl, Bool.false_eq_true, if_false] at h ⊢
          · exact run h
          · exact ⟨fun _ _ => trivial, skip h⟩
          · exact ⟨fun _ _ => trivial, skip h⟩
          · exact run h
        · rename_i vs hdn heb
          have hy : yielded ⟨all⟩ (mkA n e).tmps j = none := by simp [yielded, hoj', hd, mkA_at n e d hdn, heb]
          have hw : Region.wanted o (yielded ⟨all⟩ (mkA n e).tmps) = false := by simp [Region.wanted, hgd, hy]
          rw [hw]
          simp only [Bool.false_eq_true, if_false]
          exact ⟨fun _ _ => trivial, skip h⟩
        · exact h.elim
      · exact h.elim
    · exact h.elim

/-- What is known of an operation's value: the value itself, or a fact that the others keep. -/
inductive Fa where | v (x : Value) | s (f : Value → World → Prop)
def Fa.at : Fa → Value → World → Prop | .v x, u, _ => u = x | .s f, u, w => f u w
def edgesOf (o : Oper) : List Nat := (o.after.toList.filter fun e => Region.binds .any e).map (·.on)
def preL : List (List Nat) → List Oper → List (List Nat)
  | acc, [] => acc
  | acc, o :: r => preL (acc ++ [(List.range acc.length).filter fun i => ((edgesOf o).flatMap fun j => j :: acc.getD j []).any fun j => Nat.beq j i]) r
def backB : Nat → List Oper → Bool
  | _, [] => true
  | k, o :: r => (edgesOf o).all (fun j => Nat.blt j k) && backB (k + 1) r
def dstsOf (ops : List Oper) : List Nat := ops.filterMap (·.dst)
def nodupB : List Nat → Bool | [] => true | x :: r => !(r.any fun y => Nat.beq y x) && nodupB r
def drawB (n : Fm) (ops : List Oper) (F : List Fa) : Bool := (ops.all fun o => n.okD o.dst) && Nat.beq ops.length F.length && backB 0 ops && nodupB (dstsOf ops)
def mix (ds : List Nat) (e0 e : Env) : Env := fun t => match ds.any fun d => Nat.beq d t with | true => e t | false => e0 t
/-- The places that may have turned when operation k comes up. -/
def dstsMay (pre : List (List Nat)) (k : Nat) : Nat → List Oper → List Nat
  | _, [] => []
  | j, o :: r => match o.dst, Nat.beq j k || (pre.getD j []).any (Nat.beq k) with | some d, false => d :: dstsMay pre k (j + 1) r | _, _ => dstsMay pre k (j + 1) r
theorem mem_dstsMay {pre : List (List Nat)} {k d : Nat} : ∀ {ops : List Oper} {n i : Nat} {o : Oper}, ops[i]? = some o → o.dst = some d → (Nat.beq (n + i) k || (pre.getD (n + i) []).any (Nat.beq k)) = false → d ∈ dstsMay pre k n ops
  | [], n, i, o, h, _, _ => by simp at h
  | x :: r, n, 0, o, h, hd, hb => by
    simp at h; subst h
    rw [Nat.add_zero] at hb
    simp only [dstsMay, hd, hb]
    simp
  | x :: r, n, i + 1, o, h, hd, hb => by
    have := mem_dstsMay (ops := r) (n := n + 1) (i := i) (by simpa using h) hd (by rw [show n + 1 + i = n + (i + 1) by omega]; exact hb)
    simp only [dstsMay]
    split
    · exact List.mem_cons_of_mem _ this
    · exact this
/-- The environment behind the operations 'l', each known by its fact. -/
def rgE (ops : List Oper) (F : List Fa) (w : World) (G : Env → Prop) : List Nat → Env → Prop
  | [], e => G e
  | j :: l, e => match ops[j]?, F[j]? with
    | some o, some f => (match o.dst, f with
      | some d, .v x => rgE ops F w G l (upd e d x)
      | some d, .s f => ∀ u, f u w → rgE ops F w G l (upd e d u)
      | none, .v x => rgE ops F w G l e
      | none, .s f => ∀ u, f u w → rgE ops F w G l e)
    | _, _ => rgE ops F w G l e
def rgSteps (P : Program) (T : TT) (n : Fm) (ops : List Oper) (F : List Fa) (X : Nat → Nat → Prop) (e0 : Env) (w0 : World) (pre : List (List Nat)) : Nat → List Oper → List Fa → Prop
  | k, o :: os, f :: fs => (∀ e w, Ch (fun b => ∃ j, j ≠ k ∧ X j b) w0 w → rgE ops F w (fun e => op1W P T n ops o (fun u w' => Ch (X k) w w' ∧ f.at u w') e w) (pre.getD k []).reverse (mix (dstsMay pre k 0 ops) e0 e)) ∧
      rgSteps P T n ops F X e0 w0 pre (k + 1) os fs
  | _, _, _ => True
section
variable {P : Program} {T : TT}
def holdsF (ops : List Oper) (F : List Fa) (e : Env) (w : World) (j : Nat) : Prop := ∀ o f, ops[j]? = some o → F[j]? = some f → ∃ u, f.at u w ∧ ∀ d, o.dst = some d → e d = u
theorem rgE_use {ops : List Oper} {F : List Fa} {w : World} {G : Env → Prop} {e : Env} (hlen : ops.length = F.length) : ∀ (l : List Nat), (∀ j, j ∈ l → holdsF ops F e w j) → rgE ops F w G l e → G e
  | [], hl, h => h
  | j :: l, hl, h => by
    have rest : rgE ops F w G l e → G e := fun h' => rgE_use hlen l (fun i hi => hl i (by simp [hi])) h'
    simp only [rgE] at h
    split at h
    · rename_i o f ho hf
      obtain ⟨u, hu, hd⟩ := hl j (by simp) o f ho hf
      split at h
      · rename_i d x hod
        simp only [Fa.at] at hu; subst hu
        rw [← hd d hod, upd_self] at h; exact rest h
      · rename_i d f hod
        have := h u hu
        rw [← hd d hod, upd_self] at this; exact rest this
      · exact rest h
      · exact rest (h u hu)
    · exact rest h
theorem mix_eq (ds : List Nat) (e0 e : Env) (h : ∀ t, t ∉ ds → e t = e0 t) : mix ds e0 e = e := by
  funext t
  unfold mix
  cases ha : ds.any fun d => Nat.beq d t with
  | true => rfl
  | false =>
    refine (h t fun hm => ?_).symm
    have := List.any_eq_false.1 ha t hm
    simp at this
theorem preL_mem : ∀ (r done : List Oper) (acc : List (List Nat)), acc.length = done.length →
    (∀ (i : Nat) (p : List Nat), acc[i]? = some p → ∀ j, j ∈ p → ∃ o, done[i]? = some o ∧ ∃ k, k ∈ edgesOf o ∧ (j = k ∨ ∃ q, acc[k]? = some q ∧ j ∈ q)) →
    (preL acc r).length = (done ++ r).length ∧ ∀ (i : Nat) (p : List Nat), (preL acc r)[i]? = some p → ∀ j, j ∈ p → ∃ o, (done ++ r)[i]? = some o ∧ ∃ k, k ∈ edgesOf o ∧ (j = k ∨ ∃ q, (preL acc r)[k]? = some q ∧ j ∈ q)
  | [], done, acc, hl, h => by simpa [preL] using ⟨hl, h⟩
  | o :: r, done, acc, hl, h => by
    have := preL_mem r (done ++ [o]) (acc ++ [(List.range acc.length).filter fun i => ((edgesOf o).flatMap fun j => j :: acc.getD j []).any fun j => Nat.beq j i]) (by simp [hl]) (fun i p hp j hj => ?_)
    · simpa [preL] using this
    · by_cases hi : i < acc.length
      · rw [List.getElem?_append_left hi] at hp
        obtain ⟨o', ho', k, hk, hkj⟩ := h i p hp j hj
        refine ⟨o', by rw [List.getElem?_append_left (by omega)]; exact ho', k, hk, ?_⟩
        rcases hkj with e | ⟨q, hq, hjq⟩
        · exact .inl e
        · exact .inr ⟨q, by rw [List.getElem?_append_left (List.getElem?_eq_some_iff.1 hq).1]; exact hq, hjq⟩
      · have hi2 : i = acc.length := by
          have := (List.getElem?_eq_some_iff.1 hp).1
          simp at this; omega
        subst hi2
        rw [List.getElem?_append_right (Nat.le_refl _), Nat.sub_self] at hp
        have hp := Option.some.inj hp
        subst hp
        refine ⟨o, by rw [hl]; simp, ?_⟩
        have hj : j ∈ (edgesOf o).flatMap fun j => j :: acc.getD j [] := by
          obtain ⟨x, hx, hxj⟩ := List.any_eq_true.1 (List.mem_filter.1 hj).2
          rw [← Nat.eq_of_beq_eq_true hxj]; exact hx
        simp only [List.mem_flatMap, List.mem_cons] at hj
        obtain ⟨k, hk, hjk⟩ := hj
        refine ⟨k, hk, ?_⟩
        rcases hjk with e | hjk
        · exact .inl e
        · cases hak : acc[k]? with
          | none => rw [List.getD_eq_getElem?_getD, hak] at hjk; simp at hjk
          | some q =>
            rw [List.getD_eq_getElem?_getD, hak] at hjk
            exact .inr ⟨q, by rw [List.getElem?_append_left (List.getElem?_eq_some_iff.1 hak).1]; exact hak, by simpa using hjk⟩
theorem backB_mem : ∀ (ops : List Oper) (k : Nat), backB k ops = true → ∀ i o, ops[i]? = some o → ∀ j, j ∈ edgesOf o → j < k + i
  | [], _, _, i, o, hi, _, _ => by simp at hi
  | x :: r, k, h, i, o, hi, j, hj => by
    simp only [backB, Bool.and_eq_true] at h
    cases i with
    | zero =>
      simp at hi; subst hi
      have := List.all_eq_true.1 h.1 j hj
      simp only [Nat.blt] at this
      have := Nat.le_of_ble_eq_true this
      omega
    | succ i =>
      have := backB_mem r (k + 1) h.2 i o (by simpa using hi) j hj
      omega
theorem nodupB_nd : ∀ (l : List Nat), nodupB l = true → l.Nodup
  | [], _ => List.nodup_nil
  | x :: r, h => by
    simp only [nodupB, Bool.and_eq_true, Bool.not_eq_true'] at h
    refine List.nodup_cons.2 ⟨fun hm => ?_, nodupB_nd r h.2⟩
    have := List.any_eq_false.1 h.1 x hm
    simp at this
theorem dst_ne {ops : List Oper} (hnd : (dstsOf ops).Nodup) : ∀ {i j : Nat} {o o' : Oper} {d d' : Nat}, ops[i]? = some o → ops[j]? = some o' → o.dst = some d → o'.dst = some d' → i ≠ j → d ≠ d' := by
  induction ops with
  | nil => intro i j o o' d d' hi; simp at hi
  | cons x r ih =>
    have hsub : (dstsOf r).Nodup := by
      unfold dstsOf at hnd ⊢
      rw [List.filterMap_cons] at hnd
      split at hnd
      · exact hnd
      · exact (List.nodup_cons.1 hnd).2
    have hin : ∀ {k : Nat} {y : Oper} {c : Nat}, r[k]? = some y → y.dst = some c → c ∈ dstsOf r := fun hk hy => List.mem_filterMap.2 ⟨_, List.mem_of_getElem? hk, hy⟩
    have hx : ∀ c, x.dst = some c → c ∉ dstsOf r := by
      intro c hc
      unfold dstsOf at hnd ⊢
      rw [List.filterMap_cons, hc] at hnd
      exact (List.nodup_cons.1 hnd).1
    intro i j o o' d d' hi hj hd hd' hij
    cases i with
    | zero =>
      cases j with
      | zero => exact absurd rfl hij
      | succ j =>
        simp at hi; subst hi
        rintro rfl
        exact hx _ hd (hin (by simpa using hj) hd')
    | succ i =>
      cases j with
      | zero =>
        simp at hj; subst hj
        rintro rfl
        exact hx _ hd' (hin (by simpa using hi) hd)
      | succ j => exact ih hsub (by simpa using hi) (by simpa using hj) hd hd' (by omega)
theorem countP_lt {α : Type} {p q : α → Bool} : ∀ {l : List α} {x : α}, (∀ y, y ∈ l → q y = true → p y = true) → x ∈ l → p x = true → q x = false → l.countP q < l.countP p
  | [], x, _, hx, _, _ => by simp at hx
  | y :: l, x, h, hx, hp, hq => by
    have hle : l.countP q ≤ l.countP p := List.countP_mono_left fun z hz hz' => h z (by simp [hz]) hz'
    rcases List.mem_cons.1 hx with rfl | hx
    · rw [List.countP_cons_of_pos hp, List.countP_cons_of_neg (by simp [hq])]; omega
    · have := countP_lt (fun z hz => h z (by simp [hz])) hx hp hq
      by_cases hqy : q y = true
      · rw [List.countP_cons_of_pos hqy, List.countP_cons_of_pos (h y (by simp) hqy)]; omega
      · rw [List.countP_cons_of_neg hqy]
        by_cases hpy : p y = true
        · rw [List.countP_cons_of_pos hpy]; omega
        · rw [List.countP_cons_of_neg hpy]; exact this
theorem rgSteps_at {n : Fm} {ops : List Oper} {F : List Fa} {X : Nat → Nat → Prop} {e0 : Env} {w0 : World} {pre : List (List Nat)} : ∀ (os : List Oper) (fs : List Fa) (k : Nat), rgSteps P T n ops F X e0 w0 pre k os fs →
    ∀ i o f, os[i]? = some o → fs[i]? = some f → ∀ e w, Ch (fun b => ∃ j, j ≠ k + i ∧ X j b) w0 w → rgE ops F w (fun e => op1W P T n ops o (fun u w' => Ch (X (k + i)) w w' ∧ f.at u w') e w) (pre.getD (k + i) []).reverse (mix (dstsMay pre (k + i) 0 ops) e0 e)
  | [], _, _, _, i, o, f, hi, _ => by simp at hi
  | _ :: _, [], _, _, i, o, f, _, hf => by simp at hf
  | o' :: os, f' :: fs, k, h, i, o, f, hi, hf => by
    simp only [rgSteps] at h
    cases i with
    | zero => simp at hi hf; subst hi; subst hf; exact h.1
    | succ i =>
      have := rgSteps_at os fs (k + 1) h.2 i o f (by simpa using hi) (by simpa using hf)
      rwa [show k + 1 + i = k + (i + 1) by omega] at this
theorem drawP (hg : Good P T) {n : Fm} {id : Nat} {ops : List Oper} {K : Env → World → Prop} {e0 : Env} {w0 : World} (F : List Fa) (X : Nat → Nat → Prop) (hB : drawB n ops F = true)
    (stab : ∀ i j f, i ≠ j → (((preL [] ops).getD j []).any (Nat.beq i)) = false → F[j]? = some (.s f) → ∀ u w w', f u w → Ch (X i) w w' → f u w')
    (steps : rgSteps P T n ops F X e0 w0 (preL [] ops) 0 ops F)
    (done : ∀ e w, Ch (fun b => ∃ j, X j b) w0 w → rgE ops F w (fun e => K e w) (List.range ops.length).reverse (mix (dstsOf ops) e0 e)) : drawW P n id ⟨ops⟩ K e0 w0 := by
  simp only [drawB, Bool.and_eq_true] at hB
  have hokd : ∀ o ∈ ops, n.okD o.dst = true := fun o ho => List.all_eq_true.1 hB.1.1.1 o ho
  have hlen : ops.length = F.length := Nat.eq_of_beq_eq_true hB.1.1.2
  have hback := backB_mem ops 0 hB.1.2
  have hnd := nodupB_nd _ hB.2
  obtain ⟨hpl, hpre⟩ := preL_mem ops [] [] rfl (fun i p hp => by simp at hp)
  simp only [List.nil_append] at hpl hpre
  refine drawW_mk (wpIn_region_any hg.2 ?_)
  have hF : ∀ {j o}, ops[j]? = some o → ∃ f, F[j]? = some f := fun {j o} hj => ⟨F[j]'(by have := (List.getElem?_eq_some_iff.1 hj).1; omega), List.getElem?_eq_getElem _⟩
  -- the invariant
  let J : Array Bool → Env → World → Prop := fun listed e w => listed.size = ops.length ∧ Ch (fun b => ∃ j, listed.getD j false = true ∧ X j b) w0 w ∧ (∀ t, (∀ j o, listed.getD j false = true → ops[j]? = some o → o.dst ≠ some t) → e t = e0 t) ∧
    (∀ j, listed.getD j false = true → holdsF ops F e w j) ∧ (∀ j o, listed.getD j false = true → ops[j]? = some o → ∀ k, k ∈ edgesOf o → listed.getD k false = true)
  have fin : ∀ listed e w, J listed e w → Region.ready .any ⟨ops⟩ listed = [] → lift n (thenQ K fun _ _ _ => False) .normal (mkA n e) w := by
    intro listed e w ⟨hs, hc, he, hh, hcl⟩ hr
    have hall : ∀ j, j < ops.length → listed.getD j false = true := by
      intro j
      induction j using Nat.strongRecOn with
      | _ j ih =>
        intro hj
        cases hl : listed.getD j false with
        | true => rfl
        | false =>
          have : j ∈ Region.ready .any ⟨ops⟩ listed := by
            refine mem_ready.2 ⟨?_, ops[j], by simp [hj], fun ed hed hb => ?_⟩
            · have hj' : j < listed.size := by omega
              simp [Array.getD, hj'] at hl ⊢; exact hl
            · have hm : ed.on ∈ edgesOf ops[j] := List.mem_map.2 ⟨ed, List.mem_filter.2 ⟨by simpa using hed, hb⟩, rfl⟩
              have := hback j ops[j] (List.getElem?_eq_getElem hj) ed.on hm
              exact ih ed.on (by omega) (by omega)
          rw [hr] at this; cases this
    refine ⟨e, rfl, ?_⟩
    have := done e w (hc.mono fun i _ ⟨j, _, hx⟩ => ⟨j, hx⟩)
    rw [mix_eq (dstsOf ops) _ _ (fun t ht => he t fun j o _ ho hd => ht (List.mem_filterMap.2 ⟨o, List.mem_of_getElem? ho, hd⟩))] at this
    exact rgE_use hlen _ (fun j hj => hh j (hall j (by simpa using hj))) this
  have main : ∀ (fuel : Nat) (listed : Array Bool) (e : Env) (w : World), J listed e w → (List.range ops.length).countP (fun i => !listed.getD i false) ≤ fuel →
      wpAnyIn n.F 0 P .any ⟨ops⟩ (lift n (thenQ K fun _ _ _ => False)) fuel listed (mkA n e) w := by
    intro fuel
    induction fuel with
    | zero =>
      intro listed e w hJ hcnt
      have hr : Region.ready .any ⟨ops⟩ listed = [] := by
        cases hh : Region.ready .any ⟨ops⟩ listed with
        | nil => rfl
        | cons i r =>
          have hi : i ∈ Region.ready .any ⟨ops⟩ listed := by rw [hh]; simp
          obtain ⟨h1, o, ho, _⟩ := mem_ready.1 hi
          have hlt : i < ops.length := by have := (Array.getElem?_eq_some_iff.1 ho).1; simpa using this
          have h2 : listed.getD i false = false := by
            have hs := hJ.1
            have : i < listed.size := by omega
            simp [Array.getD, this] at h1 ⊢; exact h1
          have : 0 < (List.range ops.length).countP (fun i => !listed.getD i false) := List.countP_pos_iff.2 ⟨i, by simpa using hlt, by simp [h2]⟩
          omega
      exact ⟨hr, fin listed e w hJ hr⟩
    | succ fuel ih =>
      intro listed e w hJ hcnt
      refine ⟨fin listed e w hJ, fun i hi => ?_⟩
      obtain ⟨hs, hc, he, hh, hcl⟩ := hJ
      obtain ⟨h1, o, ho, hed⟩ := mem_ready.1 hi
      have hlt : i < ops.length := by have := (Array.getElem?_eq_some_iff.1 ho).1; simpa using this
      have ho' : ops[i]? = some o := by simpa using ho
      have h2 : listed.getD i false = false := by
        have : i < listed.size := by omega
        simp [Array.getD, this] at h1 ⊢; exact h1
      have hedge : ∀ k, k ∈ edgesOf o → listed.getD k false = true := by
        intro k hk
        obtain ⟨ed, hed1, rfl⟩ := List.mem_map.1 hk
        obtain ⟨hed1, hed2⟩ := List.mem_filter.1 hed1
        exact hed ed (by simpa using hed1) hed2
      obtain ⟨f, hf⟩ := hF ho'
      -- all that stands before it has come up
      have key : ∀ m k q, k < m → listed.getD k false = true → (preL [] ops)[k]? = some q → ∀ j, j ∈ q → listed.getD j false = true := by
        intro m
        induction m with
        | zero => intro k q hk; omega
        | succ m ihm =>
          intro k q hk hlk hq j hj
          obtain ⟨ok, hok, k2, hk2, hor⟩ := hpre k q hq j hj
          have hl2 := hcl k ok hlk hok k2 hk2
          rcases hor with rfl | ⟨q2, hq2, hj2⟩
          · exact hl2
          · have := hback k ok hok k2 hk2
            exact ihm k2 q2 (by omega) hl2 hq2 j hj2
      have hbefore : ∀ j, j ∈ (preL [] ops).getD i [] → listed.getD j false = true := by
        intro j hj
        rw [List.getD_eq_getElem?_getD] at hj
        cases hp : (preL [] ops)[i]? with
        | none => rw [hp] at hj; simp at hj
        | some p =>
          rw [hp] at hj
          obtain ⟨o2, ho2, k, hk, hor⟩ := hpre i p hp j (by simpa using hj)
          rw [ho'] at ho2
          cases ho2
          have hlk := hedge k hk
          rcases hor with rfl | ⟨q, hq, hjq⟩
          · exact hlk
          · exact key (k + 1) k q (by omega) hlk hq j hjq
      have hstep := rgSteps_at ops F 0 steps i o f ho' hf e w (hc.mono fun b _ ⟨j, hj, hx⟩ => ⟨j, (fun hji => by rw [hji, Nat.zero_add, h2] at hj; cases hj), hx⟩)
      rw [Nat.zero_add] at hstep
      rw [mix_eq _ _ _ (fun t ht => he t fun j oj hlj hoj hdj => ht (mem_dstsMay (n := 0) hoj hdj (by
        rw [Nat.zero_add, Bool.or_eq_false_iff]
        refine ⟨?_, ?_⟩
        · cases hb : Nat.beq j i with
          | false => rfl
          | true => rw [Nat.eq_of_beq_eq_true hb, h2] at hlj; cases hlj
        · cases hany : ((preL [] ops).getD j []).any (Nat.beq i) with
          | false => rfl
          | true =>
            obtain ⟨x, hx, hxi⟩ := List.any_eq_true.1 hany
            have hxi := Nat.eq_of_beq_eq_true hxi
            subst hxi
            rw [List.getD_eq_getElem?_getD] at hx
            cases hp : (preL [] ops)[j]? with
            | none => rw [hp] at hx; simp at hx
            | some p =>
              rw [hp] at hx
              have := key (j + 1) j p (by omega) hlj hp i (by simpa using hx)
              rw [h2] at this; cases this)))] at hstep
      have hop := rgE_use hlen _ (fun j hj => hh j (hbefore j (by simpa using hj))) hstep
      refine op1W_sound hg n ops ho' (hokd _ (List.mem_of_getElem? ho')) hop fun u w' ⟨hcu, hfu⟩ => ?_
      have hset : ∀ j, (listed.setIfInBounds i true).getD j false = true ↔ listed.getD j false = true ∨ j = i := by
        intro j
        by_cases hji : j = i
        · subst hji
          have : j < listed.size := by omega
          simp [Array.getD, this]
        · rw [getD_set_ne false (Ne.symm hji)]; simp [hji]
      refine ih _ _ w' ⟨by simpa using hs, ?_, ?_, ?_, ?_⟩ ?_
      · exact hc.trans hcu (fun b _ ⟨j, hj, hx⟩ => ⟨j, (hset j).2 (.inl hj), hx⟩) (fun b _ hx => ⟨i, (hset i).2 (.inr rfl), hx⟩)
      · intro t ht
        have h0 : e t = e0 t := he t fun j oj hlj hoj => ht j oj ((hset j).2 (.inl hlj)) hoj
        cases hd : o.dst with
        | none => exact h0
        | some d =>
          simp only [updO]
          rw [upd_other _ _ _ _ (fun h => ht i o ((hset i).2 (.inr rfl)) ho' (by rw [hd, h]))]
          exact h0
      · intro j hj
        rcases (hset j).1 hj with hj2 | rfl
        · intro oj fj hoj hfj
          have hji : j ≠ i := fun hji => by rw [hji, h2] at hj2; cases hj2
          obtain ⟨v, hv, hvd⟩ := hh j hj2 oj fj hoj hfj
          refine ⟨v, ?_, fun d hd => ?_⟩
          · cases fj with
            | v x => exact hv
            | s g =>
              refine stab i j g (Ne.symm hji) ?_ hfj v w w' hv hcu
              cases hany : ((preL [] ops).getD j []).any (Nat.beq i) with
              | false => rfl
              | true =>
                obtain ⟨x, hx, hxi⟩ := List.any_eq_true.1 hany
                have hxi := Nat.eq_of_beq_eq_true hxi
                subst hxi
                rw [List.getD_eq_getElem?_getD] at hx
                cases hp : (preL [] ops)[j]? with
                | none => rw [hp] at hx; simp at hx
                | some p =>
                  rw [hp] at hx
                  have := key (j + 1) j p (by omega) hj2 hp i (by simpa using hx)
                  rw [h2] at this; cases this
          · cases hod : o.dst with
            | none => exact hvd d hd
            | some d' =>
              simp only [updO]
              rw [upd_other _ _ _ _ (dst_ne hnd hoj ho' hd hod hji)]
              exact hvd d hd
        · intro oj fj hoj hfj
          rw [ho'] at hoj; cases hoj
          rw [hf] at hfj; cases hfj
          exact ⟨u, hfu, fun d hd => by rw [hd]; exact upd_same _ _ _⟩
      · intro j oj hj hoj k hk
        refine (hset k).2 (.inl ?_)
        rcases (hset j).1 hj with hj2 | rfl
        · exact hcl j oj hj2 hoj k hk
        · rw [ho'] at hoj; cases hoj
          exact hedge k hk
      · have := countP_lt (l := List.range ops.length) (x := i) (p := fun i => !listed.getD i false) (q := fun j => !(listed.setIfInBounds i true).getD j false) (fun y _ hy => by
            simp only [Bool.not_eq_true'] at hy ⊢
            cases hl : listed.getD y false with
            | false => rfl
            | true => rw [(hset y).2 (.inl hl)] at hy; cases hy) (by simpa using hlt) (by simp only [h2]; rfl) (by simp only [(hset i).2 (.inr rfl)]; rfl)
        omega
  have h0 : J (Array.replicate ops.length false) e0 { w0 with drawn := w0.drawn + 1 } := by
    have hf : ∀ j, (Array.replicate ops.length false).getD j false = false := fun j => by simp [Array.getD]
    exact ⟨by simp, (Ch.draw w0).non, fun _ _ => rfl, (fun j hj => by rw [hf] at hj; cases hj), (fun j o hj => by rw [hf] at hj; cases hj)⟩
  have := main ops.length _ e0 _ h0 (Nat.le_trans List.countP_le_length (by simp))
  simpa using this
theorem draw (hg : Good P T) {n : Fm} {id : Nat} {ops : List Oper} {K : Env → World → Prop} {e0 : Env} {w0 : World} (F : List Fa) (X : Nat → Nat → Prop) (hB : drawB n ops F = true)
    (stab : ∀ i j f, i ≠ j → F[j]? = some (.s f) → ∀ u w w', f u w → Ch (X i) w w' → f u w')
    (steps : rgSteps P T n ops F X e0 w0 (preL [] ops) 0 ops F)
    (done : ∀ e w, Ch (fun b => ∃ j, X j b) w0 w → rgE ops F w (fun e => K e w) (List.range ops.length).reverse (mix (dstsOf ops) e0 e)) : drawW P n id ⟨ops⟩ K e0 w0 :=
  drawP hg F X hB (fun i j f h _ => stab i j f h) steps done
end
end B
end Go.Proofs.YtdbihpobfcbmeaaDoor
