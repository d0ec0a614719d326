/- A symbolic heap for the proofs of this seat: what a call has made and holds, what stands fixed, and the rules by which the interpreter's open operations go on. -/
import Derived.Test.YtdbihpobfcbmeaaDoorB9
import Derived.Below
import Derived.Maps.AppendAt
import Derived.Laws.AppendOwn
set_option linter.unusedVariables false
set_option linter.unusedSimpArgs false
namespace Go.Proofs.YtdbihpobfcbmeaaDoor
namespace B
open Go Go.RowKit

abbrev Im := Nat → Option Obj
def Imm (I : Im) (w : World) : Prop := ∀ b o, I b = some o → w.heap[b]? = some o
def Le (I J : Im) : Prop := ∀ b o, I b = some o → J b = some o
theorem Le.refl (I : Im) : Le I I := fun _ _ h => h
theorem Le.trans {I J K : Im} (h : Le I J) (k : Le J K) : Le I K := fun b o hb => k b o (h b o hb)
structure Ch (X : Nat → Prop) (w w' : World) : Prop where
  os : w'.os = w.os
  tape : w'.tape = w.tape
  output : w'.output = w.output
  size : w.heap.size ≤ w'.heap.size
  block : ∀ b, b < w.heap.size → ¬ X b → w'.heap[b]? = w.heap[b]?
def Non : Nat → Prop := fun _ => False
theorem Ch.refl (X : Nat → Prop) (w : World) : Ch X w w := ⟨rfl, rfl, rfl, Nat.le_refl _, fun _ _ _ => rfl⟩
theorem Ch.trans {X Y Z : Nat → Prop} {a b c : World} (h : Ch X a b) (k : Ch Y b c) (hX : ∀ i, i < a.heap.size → X i → Z i) (hY : ∀ i, i < a.heap.size → Y i → Z i) : Ch Z a c :=
  ⟨k.os.trans h.os, k.tape.trans h.tape, k.output.trans h.output, Nat.le_trans h.size k.size,
    fun i hi hz => (k.block i (Nat.lt_of_lt_of_le hi h.size) (fun hy => hz (hY i hi hy))).trans (h.block i hi (fun hx => hz (hX i hi hx)))⟩
theorem Ch.mono {X Y : Nat → Prop} {a b : World} (h : Ch X a b) (hX : ∀ i, i < a.heap.size → X i → Y i) : Ch Y a b :=
  ⟨h.os, h.tape, h.output, h.size, fun i hi hy => h.block i hi (fun hx => hy (hX i hi hx))⟩
theorem Ch.non {Y : Nat → Prop} {a b : World} (h : Ch Non a b) : Ch Y a b := h.mono fun _ _ h => h.elim
theorem Ch.trans0 {a b c : World} (h : Ch Non a b) (k : Ch Non b c) : Ch Non a c := h.trans k (fun _ _ h => h) (fun _ _ h => h)
theorem Ch.alloc (w : World) (o : Obj) : Ch Non w (w.alloc o) :=
  ⟨rfl, rfl, rfl, by rw [World.alloc]; simp, fun i hi _ => Below.heap_alloc w o i hi⟩
theorem Ch.below {w w' : World} (h : Ch Non w w') : Below w.heap.size w w' := ⟨h.os, h.tape, h.output, h.size, fun i hi => h.block i hi (fun h => h)⟩
theorem Ch.of_below {w w' : World} (h : Below w.heap.size w w') : Ch Non w w' := ⟨h.os, h.tape, h.output, h.size, fun i hi _ => h.block i hi⟩
theorem Ch.of_grown {w w' : World} {row : Option Nat} (h : w.grownBy w' row) : Ch (fun b => some b = row) w w' := ⟨h.os, h.tape, h.output, h.size, fun i hi hx => h.block i hi hx⟩
theorem Ch.drew (w : World) : Ch Non w w.drew := ⟨rfl, rfl, rfl, Nat.le_refl _, fun _ _ _ => rfl⟩
theorem Ch.draw (w : World) : Ch Non w { w with drawn := w.drawn + 1 } := ⟨rfl, rfl, rfl, Nat.le_refl _, fun _ _ _ => rfl⟩
theorem Imm.lt {I : Im} {w : World} (h : Imm I w) {b : Nat} {o : Obj} (hb : I b = some o) : b < w.heap.size := (Array.getElem?_eq_some_iff.1 (h b o hb)).1
theorem Imm.ch {I : Im} {w w' : World} {X : Nat → Prop} (h : Imm I w) (hc : Ch X w w') (hX : ∀ b o, I b = some o → ¬ X b) : Imm I w' :=
  fun b o hb => (hc.block b (h.lt hb) (hX b o hb)).trans (h b o hb)
theorem Imm.non {I : Im} {w w' : World} (h : Imm I w) (hc : Ch Non w w') : Imm I w' := h.ch hc fun _ _ _ h => h
/-- What a call leaves: all that was there is as it was; what stands fixed has grown by new blocks alone. -/
structure Ext (I : Im) (w : World) (J : Im) (w' : World) : Prop where
  ch : Ch Non w w'
  im : Imm J w'
  ag : ∀ b, b < w.heap.size → J b = I b
theorem Ext.le {I J : Im} {w w' : World} (h : Ext I w J w') (hI : Imm I w) : Le I J := fun b o hb => (h.ag b (hI.lt hb)).trans hb
theorem Ext.refl {I : Im} {w : World} (h : Imm I w) : Ext I w I w := ⟨Ch.refl _ _, h, fun _ _ => rfl⟩
theorem Ext.quiet {I : Im} {w w' : World} (h : Imm I w) (hc : Ch Non w w') : Ext I w I w' := ⟨hc, h.non hc, fun _ _ => rfl⟩
theorem Ext.trans {I J K : Im} {a b c : World} (h : Ext I a J b) (k : Ext J b K c) : Ext I a K c :=
  ⟨h.ch.trans0 k.ch, k.im, fun i hi => (k.ag i (Nat.lt_of_lt_of_le hi h.ch.size)).trans (h.ag i hi)⟩

/-! ### What is held -/
inductive Ent where
  | blk (b : Nat) (o : Obj)
  | row (v : Value) (t : Nat) (sz : Nat) (n : Nat) (cs : List Value)
def Ent.foot : Ent → Nat → Prop
  | .blk b _ => fun i => i = b
  | .row v _ _ _ _ => fun i => some i = v.ownBlock
def Ent.holds (w : World) : Ent → Prop
  | .blk b o => w.heap[b]? = some o
  | .row v t sz n cs => w.ownsRow 0 t sz v n cs
theorem Ent.foot_lt {w : World} {x : Ent} (h : x.holds w) {b : Nat} (hb : x.foot b) : b < w.heap.size := by
  cases x with
  | blk c o => simp only [Ent.foot] at hb; subst hb; exact (Array.getElem?_eq_some_iff.1 h).1
  | row v t sz n cs =>
    simp only [Ent.foot] at hb
    rcases h.2 with ⟨rfl, _⟩ | ⟨g, cap, cur, rfl, _, hh, _⟩
    · simp [Value.ownBlock] at hb
    · simp only [Value.ownBlock, Option.some.injEq] at hb; subst hb; exact (Array.getElem?_eq_some_iff.1 hh).1
theorem Ent.holds_ch {w w' : World} {x : Ent} (h : x.holds w) {X : Nat → Prop} (hc : Ch X w w') (hX : ∀ b, x.foot b → ¬ X b) : x.holds w' := by
  cases x with
  | blk c o => exact (hc.block c (Ent.foot_lt h (x := .blk c o) rfl) (hX c rfl)).trans h
  | row v t sz n cs =>
    refine ⟨h.1, ?_⟩
    rcases h.2 with h2 | ⟨g, cap, cur, rfl, h0, hh, h3⟩
    · exact .inl h2
    · exact .inr ⟨g, cap, cur, rfl, h0, (hc.block g (Array.getElem?_eq_some_iff.1 hh).1 (hX g rfl)).trans hh, h3⟩
structure Cx where
  X : Nat → Prop
  w : World
  I : Im
structure St (c : Cx) (I : Im) (L : List Ent) (w : World) : Prop where
  ch : Ch c.X c.w w
  im : Imm I w
  ag : ∀ b, b < c.w.heap.size → I b = c.I b
  own : ∀ x, x ∈ L → x.holds w
  new : ∀ x, x ∈ L → ∀ b, x.foot b → c.w.heap.size ≤ b ∨ c.X b
  sep : ∀ x, x ∈ L → ∀ b, x.foot b → I b = none
  nd : L.Pairwise fun x y => ∀ b, x.foot b → ¬ y.foot b
section
variable {c : Cx} {I J : Im} {L : List Ent} {w w' : World}
theorem St.start {I : Im} {w : World} (h : Imm I w) : St ⟨Non, w, I⟩ I [] w := ⟨Ch.refl _ _, h, fun _ _ => rfl, by simp, by simp, by simp, List.Pairwise.nil⟩
theorem St.ext {w0 : World} {I0 : Im} (h : St ⟨Non, w0, I0⟩ I L w) : Ext I0 w0 I w := ⟨h.ch, h.im, h.ag⟩
theorem St.chn {w0 : World} {I0 : Im} (h : St ⟨Non, w0, I0⟩ I L w) : Ch Non w0 w := h.ch
/-- A call that changes nothing that was there. -/
theorem St.call (h : St c I L w) (hx : Ext I w J w') : St c J L w' := by
  have hs := h.ch.size
  refine ⟨h.ch.trans hx.ch (fun _ _ h => h) (fun _ _ h => h.elim), hx.im, fun b hb => (hx.ag b (Nat.lt_of_lt_of_le hb hs)).trans (h.ag b hb),
    fun x hm => Ent.holds_ch (h.own x hm) hx.ch (fun _ _ h => h), h.new, fun x hm b hb => ?_, h.nd⟩
  rw [hx.ag b (Ent.foot_lt (h.own x hm) hb)]
  exact h.sep x hm b hb
theorem St.quiet (h : St c I L w) (hc : Ch Non w w') : St c I L w' := h.call (Ext.quiet h.im hc)
theorem St.le (h : St c I L w) (hx : Ext I w J w') : Le I J := hx.le h.im
theorem pw_set {α : Type} {R : α → α → Prop} : ∀ {L : List α} {i : Nat} {x x' : α}, L.Pairwise R → L[i]? = some x → (∀ y, y ∈ L → R y x → R y x') → (∀ y, y ∈ L → R x y → R x' y) → (L.set i x').Pairwise R
  | [], _, _, _, h, hi, _, _ => by simp at hi
  | y :: L, 0, x, x', h, hi, h1, h2 => by
    simp at hi; subst hi
    rw [List.pairwise_cons] at h
    simp only [List.set_cons_zero, List.pairwise_cons]
    exact ⟨fun z hz => h2 z (by simp [hz]) (h.1 z hz), h.2⟩
  | y :: L, i + 1, x, x', h, hi, h1, h2 => by
    rw [List.pairwise_cons] at h
    simp only [List.getElem?_cons_succ] at hi
    simp only [List.set_cons_succ, List.pairwise_cons]
    refine ⟨fun z hz => ?_, pw_set h.2 hi (fun z hz => h1 z (by simp [hz])) (fun z hz => h2 z (by simp [hz]))⟩
    rcases List.mem_or_eq_of_mem_set hz with hz | rfl
    · exact h.1 z hz
    · exact h1 y (by simp) (h.1 x (List.mem_of_getElem? hi))
/-- One thing that is held is turned. -/
theorem St.upd (h : St c I L w) {i : Nat} {x x' : Ent} (hi : L[i]? = some x) (hc : Ch x.foot w w') (hx : x'.holds w') (hf : ∀ b, x'.foot b → x.foot b ∨ w.heap.size ≤ b) : St c I (L.set i x') w' := by
  have hm : x ∈ L := List.mem_of_getElem? hi
  have hs := h.ch.size
  have other : ∀ y, y ∈ L → (∀ b, y.foot b → ¬ x.foot b) → y.holds w' := fun y hy hd => Ent.holds_ch (h.own y hy) hc fun b hb => hd b hb
  have fr : ∀ y, y ∈ L → (∀ b, y.foot b → ¬ x.foot b) → ∀ b, y.foot b → ¬ x'.foot b := fun y hy hd b hb hb' => by
    rcases hf b hb' with h1 | h1
    · exact hd b hb h1
    · exact absurd (Ent.foot_lt (h.own y hy) hb) (by omega)
  refine ⟨h.ch.trans hc (fun _ _ h => h) (fun b hb hxb => ?_), h.im.ch hc (fun b o hb hxb => by rw [h.sep x hm b hxb] at hb; cases hb), h.ag, fun y hy => ?_, fun y hy b hb => ?_, fun y hy b hb => ?_, ?_⟩
  · rcases h.new x hm b hxb with h1 | h1
    · omega
    · exact h1
  · -- each entry holds
    have key : ∀ (L : List Ent) (i : Nat), L.Pairwise (fun x y => ∀ b, x.foot b → ¬ y.foot b) → L[i]? = some x → (∀ y, y ∈ L → y.holds w) → ∀ y, y ∈ L.set i x' → y.holds w' := by
      intro L
      induction L with
      | nil => intro i _ hi; simp at hi
      | cons z L ih =>
        intro i hp hi hown y hy
        rw [List.pairwise_cons] at hp
        cases i with
        | zero =>
          simp at hi; subst hi
          simp only [List.set_cons_zero, List.mem_cons] at hy
          rcases hy with rfl | hy
          · exact hx
          · exact Ent.holds_ch (hown y (by simp [hy])) hc fun b hb hb' => hp.1 y hy b hb' hb
        | succ i =>
          simp only [List.getElem?_cons_succ] at hi
          simp only [List.set_cons_succ, List.mem_cons] at hy
          rcases hy with rfl | hy
          · exact Ent.holds_ch (hown y (by simp)) hc fun b hb hb' => hp.1 x (List.mem_of_getElem? hi) b hb hb'
          · exact ih i hp.2 hi (fun y hy => hown y (by simp [hy])) y hy
    exact key L i h.nd hi h.own y hy
  · rcases List.mem_or_eq_of_mem_set hy with hy | rfl
    · exact h.new y hy b hb
    · rcases hf b hb with h1 | h1
      · exact h.new x hm b h1
      · exact .inl (by omega)
  · rcases List.mem_or_eq_of_mem_set hy with hy | rfl
    · exact h.sep y hy b hb
    · rcases hf b hb with h1 | h1
      · exact h.sep x hm b h1
      · cases hI : I b with
        | none => rfl
        | some o => exact absurd (h.im.lt hI) (by omega)
  · refine pw_set h.nd hi (fun y hy hd => fr y hy hd) (fun y hy hd b hb hb' => ?_)
    rcases hf b hb with h1 | h1
    · exact hd b h1 hb'
    · exact absurd (Ent.foot_lt (h.own y hy) hb') (by omega)
/-- A new thing is held. -/
theorem St.push (h : St c I L w) {x' : Ent} (hc : Ch Non w w') (hx : x'.holds w') (hf : ∀ b, x'.foot b → w.heap.size ≤ b) : St c I (x' :: L) w' := by
  have h2 := h.quiet hc
  have hs := h.ch.size
  refine ⟨h2.ch, h2.im, h2.ag, fun y hy => ?_, fun y hy b hb => ?_, fun y hy b hb => ?_, ?_⟩
  · rcases List.mem_cons.1 hy with rfl | hy
    · exact hx
    · exact h2.own y hy
  · rcases List.mem_cons.1 hy with rfl | hy
    · have := hf b hb; exact .inl (by omega)
    · exact h2.new y hy b hb
  · rcases List.mem_cons.1 hy with rfl | hy
    · cases hI : I b with
      | none => rfl
      | some o => have := h.im.lt hI; have := hf b hb; omega
    · exact h2.sep y hy b hb
  · rw [List.pairwise_cons]
    refine ⟨fun y hy b hb hb' => ?_, h2.nd⟩
    have := Ent.foot_lt (h.own y hy) hb'
    have := hf b hb
    omega
theorem St.sub (h : St c I L w) {M : List Ent} (hM : M.Sublist L) : St c I M w :=
  ⟨h.ch, h.im, h.ag, fun x hx => h.own x (hM.subset hx), fun x hx => h.new x (hM.subset hx), fun x hx => h.sep x (hM.subset hx), h.nd.sublist hM⟩
theorem St.drop (h : St c I L w) (i : Nat) : St c I (L.eraseIdx i) w := h.sub (List.eraseIdx_sublist L i)
theorem St.perm (h : St c I L w) {M : List Ent} (hM : M.Perm L) : St c I M w :=
  ⟨h.ch, h.im, h.ag, fun x hx => h.own x (hM.subset hx), fun x hx => h.new x (hM.subset hx), fun x hx => h.sep x (hM.subset hx),
    (hM.pairwise_iff (fun {x y} hxy b hb hb' => hxy b hb' hb)).2 h.nd⟩
/-- What is held is held fixed from now on. -/
theorem St.fix (h : St c I L w) {i : Nat} {x : Ent} (hi : L[i]? = some x) (hX : ∀ b, ¬ c.X b) : ∃ J : Im, Le I J ∧ St c J (L.eraseIdx i) w ∧ ∀ b, x.foot b → J b = w.heap[b]? := by
  have hm : x ∈ L := List.mem_of_getElem? hi
  classical
  let J : Im := fun b => if x.foot b then w.heap[b]? else I b
  have hlt : ∀ y, y ∈ L.eraseIdx i → ∀ b, y.foot b → ¬ x.foot b := by
    have key : ∀ (L : List Ent) (i : Nat), L.Pairwise (fun x y => ∀ b, x.foot b → ¬ y.foot b) → L[i]? = some x → ∀ y, y ∈ L.eraseIdx i → ∀ b, y.foot b → ¬ x.foot b := by
      intro L
      induction L with
      | nil => intro i _ hi; simp at hi
      | cons z L ih =>
        intro i hp hi y hy b hb
        rw [List.pairwise_cons] at hp
        cases i with
        | zero => simp at hi; subst hi; exact fun hb' => hp.1 y (by simpa using hy) b hb' hb
        | succ i =>
          simp only [List.getElem?_cons_succ] at hi
          simp only [List.eraseIdx_cons_succ, List.mem_cons] at hy
          rcases hy with rfl | hy
          · exact hp.1 x (List.mem_of_getElem? hi) b hb
          · exact ih i hp.2 hi y hy b hb
    exact key L i h.nd hi
  refine ⟨J, fun b o hb => ?_, ⟨h.ch, fun b o hb => ?_, fun b hb => ?_, (h.drop i).own, (h.drop i).new, fun y hy b hb => ?_, (h.drop i).nd⟩, fun b hb => by simp only [J, if_pos hb]⟩
  · simp only [J]
    split
    · rename_i hf; rw [h.sep x hm b hf] at hb; cases hb
    · exact hb
  · simp only [J] at hb
    split at hb
    · exact hb
    · exact h.im b o hb
  · simp only [J]
    split
    · rename_i hf
      rcases h.new x hm b hf with h1 | h1
      · omega
      · exact absurd h1 (hX b)
    · exact h.ag b hb
  · simp only [J]
    rw [if_neg (hlt y hy b hb)]
    exact (h.drop i).sep y hy b hb
end
end B
end Go.Proofs.YtdbihpobfcbmeaaDoor
