/- Loops and branches of the plain functions that stand for the program's: what a walk takes out of them. -/
import Derived.Test.YtdbihpobfcbmeaaDoorBR
import Derived.Test.YtdbihpobfcbmeaaDoorBH
import Derived.Deep.Upon
import Derived.Laws.Tables
import Derived.KernelRfl
set_option linter.unusedVariables false
set_option linter.unusedSimpArgs false
namespace Go.Proofs.YtdbihpobfcbmeaaDoor
namespace B
open Go Go.RowKit

/-- A loop, so many rounds at most. -/
def loopN {σ ρ : Type} (f : σ → Option (σ ⊕ ρ)) (n : Nat) : σ → Option ρ :=
  Nat.rec (motive := fun _ => σ → Option ρ) (fun _ => none) (fun _ ih s => match f s with | none => none | some (.inl s') => ih s' | some (.inr r) => some r) n
def fuel : Nat := 1000000000000000000
def loopO {σ ρ : Type} (f : σ → Option (σ ⊕ ρ)) (s : σ) : Option ρ := loopN f fuel s
theorem loopN_succ {σ ρ : Type} (f : σ → Option (σ ⊕ ρ)) (n : Nat) (s : σ) : loopN f (n + 1) s = match f s with | none => none | some (.inl s') => loopN f n s' | some (.inr r) => some r := rfl
/-- What a loop computes, by what stands at its head. -/
theorem loopN_inv {σ ρ : Type} {f : σ → Option (σ ⊕ ρ)} {r : ρ} (Inv : σ → Prop) (μ : σ → Nat) (step : ∀ s, Inv s → (∃ s', f s = some (.inl s') ∧ Inv s' ∧ μ s' < μ s) ∨ f s = some (.inr r)) : ∀ (n : Nat) (s : σ), Inv s → μ s < n → loopN f n s = some r
  | 0, s, _, h => by omega
  | n + 1, s, hi, h => by
    rw [loopN_succ]
    rcases step s hi with ⟨s', h1, h2, h3⟩ | h1
    · rw [h1]; exact loopN_inv Inv μ step n s' h2 (by omega)
    · rw [h1]
theorem loopO_inv {σ ρ : Type} {f : σ → Option (σ ⊕ ρ)} {r : ρ} (Inv : σ → Prop) (μ : σ → Nat) {s : σ} (h0 : Inv s) (hm : μ s < 1000000000000000000)
    (step : ∀ s, Inv s → (∃ s', f s = some (.inl s') ∧ Inv s' ∧ μ s' < μ s) ∨ f s = some (.inr r)) : loopO f s = some r := loopN_inv Inv μ step fuel s h0 hm
def Nx {σ ρ : Type} (Z : Env → World → Prop) (slots : List Nat) (Inv : σ → List Value → World → Prop) (r : ρ) : σ ⊕ ρ → Prop
  | .inl s => ∀ e w, Inv s (slots.map e) w → Z e w
  | .inr r' => r' = r
theorem loopP {σ ρ : Type} {f : σ → Option (σ ⊕ ρ)} {s0 : σ} {r : ρ} (hf : loopO f s0 = some r) (slots : List Nat) (Inv : σ → List Value → World → Prop) {F : (Env → World → Prop) → Env → World → Prop} {e : Env} {w : World} (h0 : Inv s0 (slots.map e) w)
    (round : ∀ (Z : Env → World → Prop) s t vs e w, Inv s vs w → f s = some t → Nx Z slots Inv r t → F Z (lay slots vs e) w) : loopW F e w := by
  unfold loopW
  intro Z hZ
  have key : ∀ n s e w, loopN f n s = some r → Inv s (slots.map e) w → Z e w := by
    intro n
    induction n with
    | zero => intro s e w h; cases h
    | succ n ih =>
      intro s e w h hi
      rw [loopN_succ] at h
      cases hb : f s with
      | none => rw [hb] at h; cases h
      | some t =>
        rw [hb] at h
        have := round Z s t _ e w hi hb (by
          cases t with
          | inl s' => exact fun e' w' hi' => ih s' e' w' h hi'
          | inr r' => exact Option.some.inj h)
        rw [lay_self] at this
        exact hZ _ _ this
  exact key _ s0 e w hf h0

/-! ### An environment of what is read behind, and of nothing else -/
theorem nrmW {P : Program} {T : TT} {n : Fm} {C : Code} {Q : Exit → Env → World → Prop} {E : Env} {w : World} (slots : List Nat) (vals : List Value) (h : slots.map E = vals) (k : ∀ e, wpc P T n C Q (lay slots vals e) w) : wpc P T n C Q E w := by
  have := k E; rwa [← h, lay_self] at this
theorem sqs {P : Program} {T : TT} {n : Fm} {a b : Code} {Q : Exit → Env → World → Prop} {e : Env} {w : World} (h : wpc P T n a (thenQ (fun e w => barW (wpc P T n b Q e w)) Q) e w) : wpc P T n (.seq a b) Q e w := h
theorem rgn {P : Program} {T : TT} {n : Fm} {id : Nat} {ops : Array Oper} {Q : Exit → Env → World → Prop} {e : Env} {w : World} (h : opsW P T n ops.toList ops.toList (Q .normal) e w) : wpc P T n (.region id ops false) Q e w := h
theorem blk {P : Program} {T : TT} {n : Fm} {id : Nat} {a : Code} {Q : Exit → Env → World → Prop} {e : Env} {w : World} (h : wpc P T n a (blockQ id Q) e w) : wpc P T n (.block id a) Q e w := h
theorem barN {P : Program} {T : TT} {n : Fm} {C : Code} {Q : Exit → Env → World → Prop} {E : Env} {w : World} (slots : List Nat) (vals : List Value) (h : slots.map E = vals) (k : ∀ e, wpc P T n C Q (lay slots vals e) w) : barW (wpc P T n C Q E w) := bar (nrmW slots vals h k)
theorem nrmO {P : Program} {T : TT} {n : Fm} {all rest : List Oper} {K : Env → World → Prop} {E : Env} {w : World} (slots : List Nat) (vals : List Value) (h : slots.map E = vals) (k : ∀ e, opsW P T n all rest K (lay slots vals e) w) : opsW P T n all rest K E w := by
  have := k E; rwa [← h, lay_self] at this
theorem nrmP {P : Program} {T : TT} {n : Fm} {rt : Nat} {o : Op} {d : Option Nat} {all rest : List Oper} {K : Env → World → Prop} {E : Env} {w : World} (slots : List Nat) (vals : List Value) (h : slots.map E = vals)
    (k : ∀ e, opW P T o rt (ev n (lay slots vals e)) (fun v w => opsW P T n all rest K (updO (lay slots vals e) d v) w) w) : opW P T o rt (ev n E) (fun v w => opsW P T n all rest K (updO E d v) w) w := by
  have := k E; rwa [← h, lay_self] at this

theorem nT {b : Bool} (h : b = true) : (!b) = false := by rw [h]; rfl
theorem nF {b : Bool} (h : b = false) : (!b) = true := by rw [h]; rfl
/-! ### Steps -/
section
variable {ρ : Type} {r : ρ}
theorem cdO {p : Prop} {ip iq : Decidable p} {x y : Prop} {a b : Option ρ} (hf : @ite _ p ip a b = some r) (h1 : p → a = some r → x) (h2 : ¬ p → b = some r → y) : Bool.rec (motive := fun _ => Prop) y x (@decide p iq) := by
  by_cases h : p
  · rw [if_pos h] at hf; rw [decide_eq_true h]; exact h1 h hf
  · rw [if_neg h] at hf; rw [decide_eq_false h]; exact h2 h hf
theorem cnO {p : Prop} {ip iq : Decidable p} {x y : Prop} {a b : Option ρ} (hf : @ite _ p ip a b = some r) (h1 : p → a = some r → x) (h2 : ¬ p → b = some r → y) : Bool.rec (motive := fun _ => Prop) x y (!@decide p iq) := by
  by_cases h : p
  · rw [if_pos h] at hf; rw [decide_eq_true h]; exact h1 h hf
  · rw [if_neg h] at hf; rw [decide_eq_false h]; exact h2 h hf
theorem csO {p : Bool} {x y : Prop} {a b : Option ρ} (hf : (if p = true then a else b) = some r) (h1 : p = true → a = some r → x) (h2 : p = false → b = some r → y) : Bool.rec (motive := fun _ => Prop) y x p := by
  cases p
  · exact h2 rfl hf
  · exact h1 rfl hf
theorem reqO {p X : Prop} [Decidable p] {a : Option ρ} (hf : (if p then a else none) = some r) (k : p → a = some r → X) : reqW p X := by
  by_cases h : p
  · rw [if_pos h] at hf; exact req h (k h hf)
  · rw [if_neg h] at hf; cases hf
theorem okO {p : Prop} [Decidable p] {a : Option ρ} (hf : (if p then a else none) = some r) : p ∧ a = some r := by
  by_cases h : p
  · rw [if_pos h] at hf; exact ⟨h, hf⟩
  · rw [if_neg h] at hf; cases hf
theorem bindO {α : Type} {o : Option α} {k : α → Option ρ} (hf : o.bind k = some r) : ∃ z, o = some z ∧ k z = some r := by
  cases o with
  | none => cases hf
  | some z => exact ⟨z, rfl, hf⟩
theorem mapO {α β : Type} {f : α → β} {o : Option α} {t : β} (hf : Option.map f o = some t) : ∃ z, o = some z ∧ f z = t := by
  cases o with
  | none => cases hf
  | some z => exact ⟨z, rfl, Option.some.inj hf⟩
end

theorem St.front {c : Cx} {I : Im} {L : List Ent} {w : World} (hs : St c I L w) (i : Nat) {x : Ent} (hi : L[i]? = some x) : St c I (x :: L.eraseIdx i) w := by
  refine hs.perm ?_
  clear hs
  induction L generalizing i with
  | nil => simp at hi
  | cons y L ih =>
    cases i with
    | zero => simp at hi; subst hi; exact .refl _
    | succ i => exact (List.Perm.swap y x _).trans (List.Perm.cons y (ih i (by simpa using hi)))

/-! ### Slices -/
def subS (s : List UInt8) (l h : Int) : List UInt8 := (s.take h.toNat).drop l.toNat
def subL {α : Type} (s : List α) (l h : Int) : List α := (s.take h.toNat).drop l.toNat
theorem Imm.le {I J : Im} {w : World} (hl : Le I J) (h : Imm J w) : Imm I w := fun b o hb => h b o (hl b o hb)
def RdV {α : Type} (I : Im) (sz : Nat) (R : List Value → α → Prop) (cs : List Value) (xs : List α) : Prop := ∃ v, cs = [v] ∧ RdL I sz R v xs
section
variable {α : Type} {I J : Im} {sz : Nat} {R R' : List Value → α → Prop} {xs : List α} {a : Option Addr} {n c : Nat}
theorem RdV.open {cs : List Value} (h : RdV I sz R cs xs) : ∃ a c, cs = [.slice a xs.length c] ∧ RdL I sz R (.slice a xs.length c) xs := by
  obtain ⟨v, rfl, h⟩ := h
  obtain ⟨a, c, rfl, _⟩ := h.len
  exact ⟨a, c, rfl, h⟩
theorem RdV.up {cs : List Value} (hl : Le I J) (h : RdV I sz R cs xs) (hR : ∀ r x, x ∈ xs → R r x → R' r x) : RdV J sz R' cs xs := by
  obtain ⟨v, rfl, h⟩ := h
  exact ⟨v, rfl, h.mono hl hR⟩
theorem RdL.lenEq (h : RdL I sz R (.slice a n c) xs) : n = xs.length := by
  obtain ⟨a', c', e, _⟩ := h.len
  injection e
theorem RdL.capLe (h : RdL I sz R (.slice a n c) xs) : xs.length ≤ c := by
  obtain ⟨a', c', e, h2⟩ := h.len
  injection e with e1 e2 e3
  omega
theorem RdL.getI {i : Int} {x : α} (h : RdL I sz R (.slice a n c) xs) (hi : B.getI xs i = some x) :
    ∃ ad r, a = some ad ∧ 0 ≤ i ∧ i < n ∧ R r x ∧ r.length = sz ∧ ∀ w, Imm I w → ∀ j u, r[j]? = some u → w.cell? ((ad.add (i.toNat * sz)).add j) = some u := by
  unfold B.getI at hi
  split at hi
  · rename_i h0
    have hlt := (List.getElem?_eq_some_iff.1 hi).1
    have hn := h.lenEq
    have h1 : i < n := by omega
    obtain ⟨ad, y, r, h2, h3, h4, h5, h6⟩ := h.at' i h0 h1
    rw [hi] at h3; cases h3
    exact ⟨ad, r, h2, h0, h1, h4, h5, h6⟩
  · cases hi
theorem RdL.subL {l h : Int} (hr : RdL I sz R (.slice a n c) xs) (hq : 0 ≤ l ∧ l ≤ h ∧ h ≤ (xs.length : Int)) : RdL I sz R (.slice (cutA a l.toNat (c : Int).toNat sz) (h.toNat - l.toNat) ((c : Int).toNat - l.toNat)) (B.subL xs l h) := by
  have hn := hr.lenEq
  have hc := hr.capLe
  exact hr.cut (by omega) (by omega) (by simp only [Int.toNat_natCast]; omega) (by simp only [Int.toNat_natCast]; omega)
end
section
variable {P : Program} {T : TT} {c : Cx} {I J : Im} {L : List Ent} {w w' : World} {α : Type}
theorem slice_of_own {w : World} {e sz n : Nat} {v : Value} {cs : List Value} (h : w.ownsRow 0 e sz v n cs) : ∃ a c, v = .slice a n c := by
  rcases h.2 with ⟨rfl, h0⟩ | ⟨g, cap, cur, rfl, _⟩
  · exact ⟨none, 0, by rw [h0]⟩
  · exact ⟨_, _, rfl⟩
/-- append of a literal. -/
theorem appO (hg : Good P T) (i j : Nat) (hs : St c I L w) {a : Option Addr} {n cc t e sz m c' bx rt : Nat} {cs news : List Value} {xs ys : List α} {R : List Value → α → Prop} {t' : Nat} {fr : Nat × Nat} {K : Value → World → Prop}
    (hi : L[i]? = some (.row (.slice a n cc) e sz n cs)) (hj : L[j]? = some (.blk bx (.cells ⟨news⟩ t' fr))) (hC : RdC sz R cs xs) (hn : n = xs.length) (hN : RdC sz R news ys)
    (ht : (tat T t).d = .slice e) (hz : Nat.beq (zeroOf T e).length sz = true) (hsz : sizeOf? T e = some sz) (hby : Nat.ble (tat T e).bytes 1024 = true) (hpos : Nat.blt 0 sz = true)
    (hm : m = ys.length) (h1 : news.all Value.oneCell' = true) (hnm : xs.length + ys.length ≤ 100000000000)
    (k : ∀ (a' : Option Addr) (c'' : Nat) (cs' : List Value) w', St c I (L.set i (.row (.slice a' (xs ++ ys).length c'') e sz (xs ++ ys).length cs')) w' → RdC sz R cs' (xs ++ ys) → K (.slice a' (xs ++ ys).length c'') w') : semW P (Builtin.append_ #[t, t] rt ⟨[.slice a n cc, .slice (some ⟨bx, 0, none⟩) m c']⟩) K w := by
  subst hn; subst hm
  refine appb hg i j hs hi hj ht hz hsz hby hpos (by rw [hN.1]; simp) h1 hnm fun v' w' hs' => ?_
  have hL : i < L.length := (List.getElem?_eq_some_iff.1 hi).1
  obtain ⟨a', c'', rfl⟩ := slice_of_own (hs'.own (.row v' e sz (xs.length + ys.length) (cs ++ news)) (List.mem_of_getElem? (i := i) (by simp [hL])))
  rw [← List.length_append] at hs' ⊢
  exact k a' c'' _ w' hs' (hC.append hN)
/-- append of what any slice holds. -/
theorem appA (hg : Good P T) (i : Nat) (hs : St c I L w) {a a2 : Option Addr} {n cc t e sz m c' rt : Nat} {cs : List Value} {xs ys : List α} {R : List Value → α → Prop} {K : Value → World → Prop}
    (hi : L[i]? = some (.row (.slice a n cc) e sz n cs)) (hC : RdC sz R cs xs) (hn : n = xs.length) (hN : RdL I sz R (.slice a2 m c') ys)
    (ht : (tat T t).d = .slice e) (hz : Nat.beq (zeroOf T e).length sz = true) (hsz : sizeOf? T e = some sz) (hby : Nat.ble (tat T e).bytes 1024 = true) (hpos : Nat.blt 0 sz = true)
    (hnm : xs.length + ys.length ≤ 100000000000) (hone : ∀ r x, R r x → ∀ u ∈ r, u.oneCell' = true)
    (k : ∀ (a' : Option Addr) (c'' : Nat) (cs' : List Value) w', St c I (L.set i (.row (.slice a' (xs ++ ys).length c'') e sz (xs ++ ys).length cs')) w' → RdC sz R cs' (xs ++ ys) → K (.slice a' (xs ++ ys).length c'') w') : semW P (Builtin.append_ #[t, t] rt ⟨[.slice a n cc, .slice a2 m c']⟩) K w := by
  subst hn
  obtain rfl := hN.lenEq
  obtain ⟨news, hrow, hNC⟩ := hN
  have hpos' : 0 < sz := by simp only [Nat.blt] at hpos; exact Nat.le_of_ble_eq_true hpos
  have hones : ∀ u ∈ news, u.oneCell' = true := by
    intro u hu
    obtain ⟨q, hq, rfl⟩ := List.getElem_of_mem hu
    have hlt : q / sz < ys.length := by rw [hNC.1] at hq; exact Nat.div_lt_of_lt_mul (by rw [Nat.mul_comm]; exact hq)
    refine hone _ _ (hNC.2 (q / sz) ys[q / sz] (List.getElem?_eq_getElem hlt)) _ ?_
    refine List.mem_of_getElem? (i := q % sz) ?_
    rw [List.getElem?_take, if_pos (Nat.mod_lt _ hpos'), List.getElem?_drop, Nat.mul_comm, Nat.div_add_mod, List.getElem?_eq_getElem hq]
  have fin : ∀ v' w', St c I (L.set i (.row v' e sz (xs.length + ys.length) (cs ++ news))) w' → K v' w' := by
    intro v' w' hs'
    have hL : i < L.length := (List.getElem?_eq_some_iff.1 hi).1
    obtain ⟨a', c'', rfl⟩ := slice_of_own (hs'.own (.row v' e sz (xs.length + ys.length) (cs ++ news)) (List.mem_of_getElem? (i := i) (by simp [hL])))
    rw [← List.length_append] at hs' ⊢
    exact k a' c'' _ w' hs' (hC.append hNC)
  obtain ⟨hl, a', cc', he, hc, h4⟩ := hrow
  injection he with e1 e2 e3
  subst e1; subst e3
  rcases h4 with h4 | ⟨ad, rfl, hcl⟩
  · -- nothing is appended
    have hn0 : news = [] := List.eq_nil_of_length_eq_zero (by rw [hl, h4, Nat.zero_mul])
    have hy0 : ys = [] := List.eq_nil_of_length_eq_zero h4
    subst hn0; subst hy0
    obtain ⟨f, hf, hfs, hfb⟩ := sizeOf?_out hg hsz
    have hown : w.ownsRow 0 e sz (.slice a xs.length cc) xs.length cs := hs.own _ (List.mem_of_getElem? hi)
    have hcap : xs.length ≤ cc := by
      rcases hown.2 with ⟨h1, h2⟩ | ⟨g, cap, cur, h1, _, _, h2, _⟩
      · injection h1 with _ _ h3; omega
      · injection h1 with _ _ h3; omega
    refine semW_mk (run_append_nothing w t t rt e f (hg.slice ht) hf a xs.length cc hcap _ ?_) (fin _ w ?_)
    · cases a2 with
      | none => exact Src.ofNil w (hg.slice ht) c'
      | some ad => exact Src.ofSlice w (hg.slice ht) ad 0 c' [] (by simp) (fun j u h => by simp at h) (fun u h => by cases h)
    · have : L.set i (.row (.slice a xs.length cc) e sz (xs.length + ([] : List α).length) (cs ++ [])) = L := by
        simp only [List.length_nil, Nat.add_zero, List.append_nil]
        exact list_set_self hi
      rw [this]; exact hs
  · exact appc hg i hs hi (hcl w hs.im) ht hz hsz hby hpos hl hones hnm fin
/-- An element of an array that is a value. -/
theorem idxA (hg : Good P T) {t n e : Nat} {cs : List Value} {k : IntKind} {i : Int} {v : Value} {K : Value → World → Prop} (ht : (tat T t).d = .arr n e) (hs : sizeOf? T e = some 1) (ha : isAggD (tat T e).d = false) (h0 : 0 ≤ i) (h1 : i < n) (hv : cs[i.toNat]? = some v) (k' : K v w) :
    semW P (Instr.index t (.agg ⟨cs⟩) (.int k i)) K w := by
  refine semW_mk (w' := w) ?_ k'
  have h2 := run_sizeOf (w := w) hg hs
  have h3 := run_isAgg (w := w) hg hs
  rw [ha] at h3
  have h4 : (⟨cs⟩ : Array Value)[i.toNat]? = some v := by simpa using hv
  simp [Instr.index, asIntOf, run_underlying (hg.arr ht), h0, h1, h2, part, h3, hv]
/-- A byte out of a number. -/
def byteI (n : Int) : UInt8 := UInt8.ofNat n.toNat
theorem byteI_val {n : Int} (h0 : 0 ≤ n) (h1 : n < 256) : ((byteI n).toNat : Int) = n := by
  unfold byteI
  rw [UInt8.toNat_ofNat_of_lt' (by show n.toNat < 256; omega)]; omega
/-- string(bytes) of a literal. -/
theorem cvsB (hg : Good P T) {s d e b m t' : Nat} {fr : Nat × Nat} {news : List Value} {ns : List Int} {K : Value → World → Prop} (hsrc : (tat T s).d = .slice e) (he : (tat T e).d = .int .u8) (hd : (tat T d).d = .str)
    (hb : w.heap[b]? = some (.cells ⟨news⟩ t' fr)) (hn : news = ns.map fun n => Value.int .u8 n) (hm : m = ns.length) (hr : ∀ n ∈ ns, 0 ≤ n ∧ n < 256) (k : K (.string (bs (ns.map byteI))) w) : semW P (convert s d (.slice (some ⟨b, 0, none⟩) m m)) K w := by
  subst hm
  have := cvsW (P := P) (w := w) hg (ad := ⟨b, 0, none⟩) (c' := ns.length) (l := ns.map byteI) (K := K) hsrc he hd (fun j u hj => by
    refine cells_of hb (n := news.length) (vs := news) (by simp) j u ?_
    rw [hn]
    rw [List.map_map] at hj
    rw [← hj, List.getElem?_map, List.getElem?_map]
    cases hx : ns[j]? with
    | none => rfl
    | some n =>
      have := hr n (List.mem_of_getElem? hx)
      simp only [Option.map_some, Function.comp]
      rw [byteI_val this.1 this.2]) k
  rwa [List.length_map] at this
end
/-! ### Nodes -/
theorem RdN.open {I : Im} {cs : List Value} {x : Nd} (h : RdN I cs x) : ∃ ak ck al cl, cs = [.int .i64 x.kind, .int .i64 x.n, .string (bs x.s), .slice ak x.k.length ck, .slice al x.l.length cl] ∧
    RdL I 1 RdS (.slice ak x.k.length ck) x.k ∧ RdL I 5 (RdN I) (.slice al x.l.length cl) x.l := by
  obtain ⟨vk, vl, rfl, hk, hl⟩ := h.out
  obtain ⟨ak, ck, rfl, _⟩ := hk.len
  obtain ⟨al, cl, rfl, _⟩ := hl.len
  exact ⟨ak, ck, al, cl, rfl, hk, hl⟩
theorem RdN.of {I : Im} {x : Nd} {vk vl : Value} (hk : RdL I 1 RdS vk x.k) (hl : RdL I 5 (RdN I) vl x.l) : RdN I [.int .i64 x.kind, .int .i64 x.n, .string (bs x.s), vk, vl] x := by
  have := RdN.in (kind := x.kind) (n := x.n) (s := x.s) hk hl
  rwa [Nd.eta] at this
theorem RdZ_one {k : IntKind} : ∀ r x, RdZ k r x → ∀ u ∈ r, u.oneCell' = true := by
  rintro r x rfl u hu; simp at hu; subst hu; rfl
theorem RdS_one : ∀ r x, RdS r x → ∀ u ∈ r, u.oneCell' = true := by
  rintro r x rfl u hu; simp at hu; subst hu; rfl
theorem RdB_one : ∀ r x, RdB r x → ∀ u ∈ r, u.oneCell' = true := by
  rintro r x rfl u hu; simp at hu; subst hu; rfl
theorem RdV_one {α : Type} {I : Im} {sz : Nat} {R : List Value → α → Prop} : ∀ r (x : List α), RdV I sz R r x → ∀ u ∈ r, u.oneCell' = true := by
  intro r x h u hu
  obtain ⟨a, c, rfl, _⟩ := h.open
  simp at hu; subst hu; rfl
theorem RdN_one {I : Im} : ∀ r x, RdN I r x → ∀ u ∈ r, u.oneCell' = true := by
  intro r x h u hu
  obtain ⟨ak, ck, al, cl, rfl, _, _⟩ := h.open
  simp at hu
  rcases hu with rfl | rfl | rfl | rfl | rfl <;> rfl
end B
end Go.Proofs.YtdbihpobfcbmeaaDoor
