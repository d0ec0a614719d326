/- The rules by which a proof of this seat goes through a function: memory, calls, branches, loops; and how slices read as lists. -/
import Derived.Test.YtdbihpobfcbmeaaDoorBA
import Derived.DataElems
set_option linter.unusedVariables false
set_option linter.unusedSimpArgs false
namespace Go.Proofs.YtdbihpobfcbmeaaDoor
namespace B
open Go Go.RowKit

/-! ### Branches, loops -/
theorem cs {b : Bool} {x y : Prop} (h1 : b = true → x) (h2 : b = false → y) : Bool.rec (motive := fun _ => Prop) y x b := by
  cases b
  · exact h2 rfl
  · exact h1 rfl
theorem cd {p : Prop} [Decidable p] {x y : Prop} (h1 : p → x) (h2 : ¬ p → y) : Bool.rec (motive := fun _ => Prop) y x (decide p) :=
  cs (fun h => h1 (of_decide_eq_true h)) (fun h => h2 (of_decide_eq_false h))
theorem cn {p : Prop} [Decidable p] {x y : Prop} (h1 : ¬ p → x) (h2 : p → y) : Bool.rec (motive := fun _ => Prop) y x (!decide p) :=
  cs (fun h => h1 (by simpa using h)) (fun h => h2 (by simpa using h))
theorem ct {b : Bool} {x y : Prop} (h : b = true) (h1 : x) : Bool.rec (motive := fun _ => Prop) y x b := by subst h; exact h1
theorem cf {b : Bool} {x y : Prop} (h : b = false) (h1 : y) : Bool.rec (motive := fun _ => Prop) y x b := by subst h; exact h1
theorem fin {K : Value → World → Prop} {v v' : Value} {w : World} (k : K v w) (e : v' = v) : K v' w := e ▸ k
theorem finI {K : Value → World → Prop} {k : IntKind} {n n' : Int} {w : World} (h : K (.int k n) w) (e : n' = n) : K (.int k n') w := e ▸ h
theorem finB {K : Value → World → Prop} {b b' : Bool} {w : World} (h : K (.bool b) w) (e : b' = b) : K (.bool b') w := e ▸ h
theorem finS {K : Value → World → Prop} {b b' : ByteArray} {w : World} (h : K (.string b) w) (e : b' = b) : K (.string b') w := e ▸ h
def lay : List Nat → List Value → Env → Env
  | s :: ss, v :: vs, e => upd (lay ss vs e) s v
  | _, _, e => e
theorem lay_self (e : Env) : ∀ slots : List Nat, lay slots (slots.map e) e = e
  | [] => rfl
  | s :: ss => by simp only [List.map_cons, lay, lay_self e ss]; exact upd_self e s
theorem loop {σ : Type} (slots : List Nat) (Inv : σ → List Value → World → Prop) (μ : σ → Nat) (s0 : σ) {F : (Env → World → Prop) → Env → World → Prop} {e : Env} {w : World} (h0 : Inv s0 (slots.map e) w)
    (round : ∀ (Z : Env → World → Prop) s vs e w, Inv s vs w → (∀ s' e' w', Inv s' (slots.map e') w' → μ s' < μ s → Z e' w') → F Z (lay slots vs e) w) : loopW F e w := by
  unfold loopW
  intro Z hZ
  have key : ∀ m s e w, μ s = m → Inv s (slots.map e) w → Z e w := by
    intro m
    induction m using Nat.strongRecOn with
    | _ m ih =>
      intro s e w hm hi
      have := round Z s _ e w hi fun s' e' w' hi' hlt => ih _ (hm ▸ hlt) s' e' w' rfl hi'
      rw [lay_self] at this
      exact hZ _ _ this
  exact key _ s0 e w rfl h0
/-- Two ways that meet: what stands at the meeting. -/
theorem cut {P : Program} {T : TT} {n : Fm} {A B : Code} {Q : Exit → Env → World → Prop} {e : Env} {w : World} {b : Bool} (slots : List Nat) (R : List Value → World → Prop)
    (rest : ∀ vs e w, R vs w → Q .normal (lay slots vs e) w)
    (br : ∀ Q' : Exit → Env → World → Prop, (∀ e w, R (slots.map e) w → Q' .normal e w) → (∀ x e w, x ≠ .normal → Q x e w → Q' x e w) → Bool.rec (motive := fun _ => Prop) (wpc P T n B Q' e w) (wpc P T n A Q' e w) b) :
    Bool.rec (motive := fun _ => Prop) (wpc P T n B Q e w) (wpc P T n A Q e w) b :=
  br Q (fun e w h => by have := rest _ e w h; rwa [lay_self] at this) (fun _ _ _ _ h => h)
theorem cutc {P : Program} {T : TT} {n : Fm} {A : Code} {Q : Exit → Env → World → Prop} {e : Env} {w : World} (slots : List Nat) (R : List Value → World → Prop)
    (rest : ∀ vs e w, R vs w → Q .normal (lay slots vs e) w)
    (br : ∀ Q' : Exit → Env → World → Prop, (∀ e w, R (slots.map e) w → Q' .normal e w) → (∀ x e w, x ≠ .normal → Q x e w → Q' x e w) → wpc P T n A Q' e w) : wpc P T n A Q e w :=
  br Q (fun e w h => by have := rest _ e w h; rwa [lay_self] at this) (fun _ _ _ _ h => h)

/-! ### Memory -/
theorem add_at (b off i : Nat) : (⟨b, off, none⟩ : Addr).add i = ⟨b, off + i, none⟩ := by unfold Addr.add; split <;> simp_all
theorem setCells_at (b off : Nat) (T : Nat) (fr : Nat × Nat) : ∀ (vs : List Value) (i : Nat) (cs : List Value) (w : World), w.heap[b]? = some (.cells ⟨cs⟩ T fr) →
    (setCells w ⟨b, off, none⟩ vs i).heap[b]? = some (.cells ⟨setR cs (off + i) vs⟩ T fr) ∧ Ch (fun j => j = b) w (setCells w ⟨b, off, none⟩ vs i)
  | [], i, cs, w, h => ⟨h, Ch.refl _ _⟩
  | v :: vs, i, cs, w, h => by
    have h1 : (w.setCell ⟨b, off + i, none⟩ v).heap[b]? = some (.cells ⟨cs.set (off + i) v⟩ T fr) := by
      rw [setCell_heap, if_pos rfl, h]
      simp only [Option.map_some]
      congr 1
      simp
    have hc : Ch (fun j => j = b) w (w.setCell ⟨b, off + i, none⟩ v) :=
      ⟨rfl, rfl, rfl, by simp [World.setCell], fun j hj hne => by rw [setCell_heap, if_neg (fun h => hne h.symm)]⟩
    obtain ⟨h2, h3⟩ := setCells_at b off T fr vs (i + 1) _ _ h1
    simp only [setCells, add_at, setR]
    exact ⟨by rw [Nat.add_assoc]; exact h2, hc.trans h3 (fun _ _ h => h) (fun _ _ h => h)⟩
section
variable {P : Program} {T : TT} {c : Cx} {I J : Im} {L : List Ent} {w w' : World}
theorem new (hs : St c I L w) {o : Obj} {K : Nat → World → Prop} (k : ∀ b w', St c I (.blk b o :: L) w' → K b w') : newW o K w := by
  unfold newW
  exact k _ _ (hs.push (Ch.alloc w o) (x' := .blk w.heap.size o) (heap_alloc_new w o) (by rintro b rfl; exact Nat.le_refl _))
theorem cells_of {b off : Nat} {cs vs : List Value} {t : Nat} {fr : Nat × Nat} {n : Nat} (hb : w.heap[b]? = some (.cells ⟨cs⟩ t fr)) (hv : (cs.drop off).take n = vs) :
    ∀ i v, vs[i]? = some v → w.cell? ((⟨b, off, none⟩ : Addr).add i) = some v := by
  intro i v hi
  subst hv
  rw [List.getElem?_take] at hi
  split at hi
  · rw [List.getElem?_drop] at hi
    rw [add_at]
    simp [World.cell?, hb, hi]
  · cases hi
theorem ldc {a : Addr} {n : Nat} {vs : List Value} {K : List Value → World → Prop} (hc : ∀ i v, vs[i]? = some v → w.cell? (a.add i) = some v) (hn : vs.length = n) (k : K vs w) : loadW a n K w := by
  unfold loadW; exact ⟨vs, hn, hc, k⟩
theorem ldc1 {a : Addr} {v : Value} {K : List Value → World → Prop} (hc : w.cell? a = some v) (k : K [v] w) : loadW a 1 K w := by
  refine ldc (vs := [v]) (fun i u hi => ?_) rfl k
  cases i with
  | zero => simp at hi; subst hi; rw [show a.add 0 = a by simp [Addr.add]]; exact hc
  | succ i => simp at hi
theorem ld (i : Nat) (hs : St c I L w) {b off n : Nat} {cs vs : List Value} {t : Nat} {fr : Nat × Nat} {K : List Value → World → Prop} (hi : L[i]? = some (.blk b (.cells ⟨cs⟩ t fr)))
    (hv : (cs.drop off).take n = vs) (hn : Nat.beq vs.length n = true) (k : K vs w) : loadW ⟨b, off, none⟩ n K w :=
  ldc (cells_of (hs.own _ (List.mem_of_getElem? hi)) hv) (Nat.eq_of_beq_eq_true hn) k
theorem sto (i : Nat) (hs : St c I L w) {b off : Nat} {cs vs : List Value} {t : Nat} {K : World → Prop} (hi : L[i]? = some (.blk b (.cells ⟨cs⟩ t (0, 0))))
    (h1 : vs.all Value.oneCell' = true) (h2 : Nat.ble (off + vs.length) cs.length = true) (k : ∀ w', St c I (L.set i (.blk b (.cells ⟨setR cs off vs⟩ t (0, 0)))) w' → K w') : storeW ⟨b, off, none⟩ vs K w := by
  have hb : w.heap[b]? = some (.cells ⟨cs⟩ t (0, 0)) := hs.own _ (List.mem_of_getElem? hi)
  have h2 := Nat.le_of_ble_eq_true h2
  obtain ⟨h3, h4⟩ := setCells_at b off t (0, 0) vs 0 cs w hb
  unfold storeW
  refine ⟨fun v hv => List.all_eq_true.1 h1 v hv, fun j hj => ?_, k _ (hs.upd hi h4 (x' := .blk b _) h3 (fun j hj => .inl hj))⟩
  rw [add_at]
  have : off + j < cs.length := by omega
  refine ⟨⟨cs[off + j], ?_⟩, by simp [World.frozen?, hb]⟩
  simp [World.cell?, hb, List.getElem?_eq_getElem this]
/-- append(v, x..) onto a row of the call's own. -/
theorem app (hg : Good P T) (i j : Nat) (hs : St c I L w) {v : Value} {t e sz by_ n m c' bx rt : Nat} {xs news : List Value} {t' : Nat} {fr : Nat × Nat} {K : Value → World → Prop}
    (hi : L[i]? = some (.row v e sz n xs)) (hj : L[j]? = some (.blk bx (.cells ⟨news⟩ t' fr)))
    (ht : (tat T t).d = .slice e) (hz : (zeroOf T e).length = sz) (hsz : sizeOf? T e = some sz) (hby : (tat T e).bytes = by_) (hpos : Nat.blt 0 sz = true)
    (hl : Nat.beq news.length (m * sz) = true) (h1 : news.all Value.oneCell' = true) (hb : (n + m) * by_ ≤ 140737488355328) (hnm : n + m ≤ 9223372036854775807)
    (k : ∀ v' w', St c I (L.set i (.row v' e sz (n + m) (xs ++ news))) w' → K v' w') : semW P (Builtin.append_ #[t, t] rt ⟨[v, .slice (some ⟨bx, 0, none⟩) m c']⟩) K w := by
  obtain ⟨f, hf, hfs, hfb⟩ := sizeOf?_out hg hsz
  have hl := Nat.eq_of_beq_eq_true hl
  have hpos : 0 < sz := by simp only [Nat.blt] at hpos; exact Nat.le_of_ble_eq_true hpos
  obtain ⟨z, hzv, hzc, _⟩ := zeroOf_out (w := w) hg (t := e) (by intro h0; rw [h0] at hz; simp at hz; omega)
  have hfz : f.zero = some z := by
    simp only [zeroValue, typeInfo, Sem.run_bind, run_program, Result.andThen_ok, hf, Sem.run_pure] at hzv
    cases hh : f.zero with
    | none => rw [hh] at hzv; simp at hzv
    | some z' => rw [hh] at hzv; simp at hzv; rw [hzv]
  have hown : w.ownsRow 0 e sz v n xs := hs.own _ (List.mem_of_getElem? hi)
  have hblk : w.heap[bx]? = some (.cells ⟨news⟩ t' fr) := hs.own _ (List.mem_of_getElem? hj)
  have hzs : z.cells.size = sz := by rw [← hz, ← hzc]; simp
  obtain ⟨v', w', hr, hown', hgr, _, hat⟩ := run_append_own_at (P := P) w 0 t rt e f z sz f.bytes (hg.slice ht) hf hfz hfs rfl hzs hpos v n xs hown ⟨bx, 0, none⟩ m c' news hl
    (fun q u hq => cells_of (off := 0) (n := news.length) hblk (by simp) q u hq) (fun u hu => List.all_eq_true.1 h1 u hu) (by simpa [maxLen] using hnm) (by rw [hfb, hby]; exact hb) (Nat.zero_le _)
  refine semW_mk hr (k v' w' (hs.upd hi (x' := .row v' e sz (n + m) (xs ++ news)) (Ch.of_grown hgr) hown' (fun b hb => ?_)))
  simp only [Ent.foot] at hb ⊢
  rcases hat with hat | hat
  · exact .inl (hb.trans hat)
  · rw [hat] at hb; simp at hb; exact .inr (by omega)
theorem St.nil (hs : St c I L w) (t sz : Nat) : St c I (.row (.slice none 0 0) t sz 0 [] :: L) w :=
  hs.push (Ch.refl _ _) (x' := .row (.slice none 0 0) t sz 0 []) ⟨by simp, .inl ⟨rfl, rfl⟩⟩ (by rintro b hb; simp [Ent.foot, Value.ownBlock] at hb)
end

/-! ### How slices read -/
def RowI (I : Im) (sz n : Nat) (v : Value) (cs : List Value) : Prop :=
  cs.length = n * sz ∧ ∃ a c, v = .slice a n c ∧ n ≤ c ∧ (n = 0 ∨ ∃ ad, a = some ad ∧ ∀ w, Imm I w → ∀ i u, cs[i]? = some u → w.cell? (ad.add i) = some u)
def RdC {α : Type} (sz : Nat) (R : List Value → α → Prop) (cs : List Value) (xs : List α) : Prop :=
  cs.length = xs.length * sz ∧ ∀ j x, xs[j]? = some x → R ((cs.drop (j * sz)).take sz) x
def RdL {α : Type} (I : Im) (sz : Nat) (R : List Value → α → Prop) (v : Value) (xs : List α) : Prop := ∃ cs, RowI I sz xs.length v cs ∧ RdC sz R cs xs
def RdS : List Value → List UInt8 → Prop := fun cs l => cs = [.string (bs l)]
def RdZ (k : IntKind) : List Value → Int → Prop := fun cs n => cs = [.int k n]
def RdB : List Value → Bool → Prop := fun cs b => cs = [.bool b]
section
variable {α : Type} {I J : Im} {sz : Nat} {R R' : List Value → α → Prop} {v : Value} {xs ys : List α} {w : World}
theorem RowI.mono {n : Nat} {cs : List Value} (h : RowI I sz n v cs) (hl : Le I J) : RowI J sz n v cs := by
  obtain ⟨h1, a, c, h2, h3, h4⟩ := h
  refine ⟨h1, a, c, h2, h3, ?_⟩
  rcases h4 with h4 | ⟨ad, h5, h6⟩
  · exact .inl h4
  · exact .inr ⟨ad, h5, fun w hw => h6 w fun b o hb => hw b o (hl b o hb)⟩
theorem RdC.mono {cs : List Value} (h : RdC sz R cs xs) (hR : ∀ r x, x ∈ xs → R r x → R' r x) : RdC sz R' cs xs := ⟨h.1, fun j x hj => hR _ _ (List.mem_of_getElem? hj) (h.2 j x hj)⟩
theorem RdL.mono (h : RdL I sz R v xs) (hl : Le I J) (hR : ∀ r x, x ∈ xs → R r x → R' r x) : RdL J sz R' v xs := by
  obtain ⟨cs, h1, h2⟩ := h
  exact ⟨cs, h1.mono hl, h2.mono hR⟩
theorem RdL.up (h : RdL I sz R v xs) (hl : Le I J) : RdL J sz R v xs := h.mono hl fun _ _ _ h => h
theorem RdC.nil : RdC sz R [] ([] : List α) := ⟨by simp, fun j x h => by simp at h⟩
theorem RdC.snoc {cs d : List Value} {x : α} (h : RdC sz R cs xs) (hd : d.length = sz) (hR : R d x) : RdC sz R (cs ++ d) (xs ++ [x]) := by
  refine ⟨by rw [List.length_append, h.1, hd, List.length_append, List.length_singleton, Nat.add_mul, Nat.one_mul], fun j y hj => ?_⟩
  by_cases hlt : j < xs.length
  · rw [List.getElem?_append_left hlt] at hj
    have h1 : (j + 1) * sz ≤ xs.length * sz := Nat.mul_le_mul_right _ hlt
    have h2 := h.1
    rw [Nat.add_mul, Nat.one_mul] at h1
    rw [List.drop_append_of_le_length (by omega), List.take_append_of_le_length (by rw [List.length_drop]; omega)]
    exact h.2 j y hj
  · have : j = xs.length := by
      have := (List.getElem?_eq_some_iff.1 hj).1
      simp at this; omega
    subst this
    simp at hj; subst hj
    rw [List.drop_append, h.1]
    simp
    rw [List.drop_eq_nil_of_le (by rw [h.1]; exact Nat.le_refl _), List.nil_append, List.take_of_length_le (by omega)]
    exact hR
theorem RdL.len (h : RdL I sz R v xs) : ∃ a c, v = .slice a xs.length c ∧ xs.length ≤ c := by
  obtain ⟨cs, ⟨_, a, c, h2, h3, _⟩, _⟩ := h
  exact ⟨a, c, h2, h3⟩
theorem RdL.nil (c : Nat) (a : Option Addr) : RdL I sz R (.slice a 0 c) ([] : List α) := ⟨[], ⟨by simp, a, c, rfl, Nat.zero_le _, .inl rfl⟩, RdC.nil⟩
/-- An element. -/
theorem RdL.at {a : Option Addr} {n c : Nat} (h : RdL I sz R (.slice a n c) xs) (hI : Imm I w) (i : Int) (h0 : 0 ≤ i) (h1 : i < n) :
    ∃ ad x r, a = some ad ∧ xs[i.toNat]? = some x ∧ R r x ∧ r.length = sz ∧ ∀ j u, r[j]? = some u → w.cell? ((ad.add (i.toNat * sz)).add j) = some u := by
  obtain ⟨cs, ⟨hl, a', c', he, hc, h4⟩, hC⟩ := h
  injection he with e1 e2 e3
  subst e1; subst e2; subst e3
  rcases h4 with h4 | ⟨ad, rfl, hcl⟩
  · omega
  · have hlt : i.toNat < xs.length := by omega
    have hm : (i.toNat + 1) * sz ≤ xs.length * sz := Nat.mul_le_mul_right _ hlt
    rw [Nat.add_mul, Nat.one_mul] at hm
    refine ⟨ad, xs[i.toNat], _, rfl, List.getElem?_eq_getElem hlt, hC.2 _ _ (List.getElem?_eq_getElem hlt), ?_, ?_⟩
    · have := hC.1
      rw [List.length_take, List.length_drop]
      omega
    · intro j u hj
      rw [Addr.add_add]
      rw [List.getElem?_take] at hj
      split at hj
      · rw [List.getElem?_drop] at hj
        exact hcl w hI _ u hj
      · cases hj
theorem RowI.blk {b off n c : Nat} {arr cs : List Value} {t : Nat} {fr : Nat × Nat} (hb : I b = some (.cells ⟨arr⟩ t fr)) (ht : (arr.drop off).take (n * sz) = cs) (hl : cs.length = n * sz) (hc : n ≤ c) : RowI I sz n (.slice (some ⟨b, off, none⟩) n c) cs :=
  ⟨hl, _, c, rfl, hc, .inr ⟨_, rfl, fun w hw => cells_of (hw _ _ hb) ht⟩⟩
/-- What a row of the call's own reads as, once it is fixed. -/
theorem St.fixRow {c : Cx} {L : List Ent} (hs : St c I L w) {i : Nat} {t n : Nat} {cs : List Value} (hi : L[i]? = some (.row v t sz n cs)) (hX : ∀ b, ¬ c.X b) (hC : RdC sz R cs xs) (hn : n = xs.length) :
    ∃ J : Im, Le I J ∧ St c J (L.eraseIdx i) w ∧ RdL J sz R v xs := by
  have hown : w.ownsRow 0 t sz v n cs := hs.own _ (List.mem_of_getElem? hi)
  obtain ⟨J, h1, h2, h3⟩ := hs.fix hi hX
  subst hn
  refine ⟨J, h1, h2, cs, ?_, hC⟩
  rcases hown.2 with ⟨rfl, h4⟩ | ⟨g, cap, cur, rfl, _, hh, h5, h6, h7, h8⟩
  · exact ⟨hown.1, none, 0, by rw [h4], by omega, .inl h4⟩
  · exact RowI.blk (t := t) (fr := (0, 0)) (arr := cur.toList) (by rw [h3 g rfl, hh]) (by simpa using h8) hown.1 h5
theorem St.fixBlk {c : Cx} {L : List Ent} (hs : St c I L w) {i b : Nat} {o : Obj} (hi : L[i]? = some (.blk b o)) (hX : ∀ b, ¬ c.X b) : ∃ J : Im, Le I J ∧ St c J (L.eraseIdx i) w ∧ J b = some o := by
  obtain ⟨J, h1, h2, h3⟩ := hs.fix hi hX
  exact ⟨J, h1, h2, (h3 b rfl).trans (hs.own _ (List.mem_of_getElem? hi))⟩
/-- A literal that is fixed reads as its elements. -/
theorem RdL.lit {b : Nat} {cs : List Value} {t : Nat} {fr : Nat × Nat} (hb : I b = some (.cells ⟨cs⟩ t fr)) (hC : RdC sz R cs xs) (c : Nat) (hc : xs.length ≤ c) : RdL I sz R (.slice (some ⟨b, 0, none⟩) xs.length c) xs :=
  ⟨cs, RowI.blk hb (by rw [List.drop_zero, List.take_of_length_le (by rw [hC.1]; exact Nat.le_refl _)]) hC.1 hc, hC⟩
end
end B
end Go.Proofs.YtdbihpobfcbmeaaDoor
