/- Ranges over functions, rows of the call's own that are written in place, strings and bytes: further rules. -/
import Derived.Test.YtdbihpobfcbmeaaDoorBS
set_option linter.unusedVariables false
set_option linter.unusedSimpArgs false
namespace Go.Proofs.YtdbihpobfcbmeaaDoor
namespace B
open Go Go.RowKit

def getI {α : Type} (xs : List α) (i : Int) : Option α := if 0 ≤ i then xs[i.toNat]? else none
theorem list_set_self {β : Type} {l : List β} {i : Nat} {x : β} (h : l[i]? = some x) : l.set i x = l := by
  apply List.ext_getElem?
  intro j
  rw [List.getElem?_set]
  split
  · rename_i e; subst e
    split
    · exact h.symm
    · rename_i h2; rw [List.getElem?_eq_none (by omega)]
  · rfl
/-! ### Ranges over functions -/
def lp (r : Loop) (s : LoopState) (j : Option Code) : Obj := .loop { r with state := s, pending := j }
theorem Ch.putObj (w : World) (l : Nat) (o : Obj) : Ch (fun j => j = l) w (w.putObj l o) :=
  ⟨rfl, rfl, rfl, by simp [World.putObj], fun j hj hne => World.putObj_heap_other hne⟩
section
variable {P : Program} {T : TT} {c : Cx} {I J : Im} {L : List Ent} {w w' : World}
theorem St.put (hs : St c I L w) (i : Nat) {b : Nat} {o : Obj} (o' : Obj) (hi : L[i]? = some (.blk b o)) : St c I (L.set i (.blk b o')) (w.putObj b o') := by
  have hb : w.heap[b]? = some o := hs.own _ (List.mem_of_getElem? hi)
  refine hs.upd hi (Ch.putObj w b o') (x' := .blk b o') (World.putObj_heap_same (Array.getElem?_eq_some_iff.1 hb).1) (fun j hj => .inl hj)
theorem tookR (i : Nat) (hs : St c I L w) {D : Nat} {K : World → Prop} (hi : L[i]? = some (.blk D (.deferred (some [])))) (k : ∀ w', St c I (L.eraseIdx i) w' → K w') : tookD D K w := by
  refine tookD_mk (hs.own _ (List.mem_of_getElem? hi)) (k _ ?_)
  have h2 : (L.set i (.blk D (.deferred none))).eraseIdx i = L.eraseIdx i := by
    rw [List.eraseIdx_set_eq]
  rw [← h2]
  exact (hs.put i (.deferred none) hi).drop i
theorem begR (i : Nat) (hs : St c I L w) {l : Nat} {r : Loop} {j : Option Code} {K : World → Prop} (hi : L[i]? = some (.blk l (lp r .ready j))) (k : ∀ w', St c I (L.set i (.blk l (lp r .busy j))) w' → K w') : begW P l K w := by
  unfold begW
  exact ⟨_, run_beginRound (hs.own _ (List.mem_of_getElem? hi)) rfl, k _ (hs.put i _ hi)⟩
theorem erR0 (i : Nat) (hs : St c I L w) {l : Nat} {r : Loop} {s : LoopState} {j : Option Code} {K : Value → World → Prop} (hi : L[i]? = some (.blk l (lp r s j))) (k : ∀ w', St c I (L.set i (.blk l (lp r .ready none))) w' → K (.bool true) w') : erW P l none K w := by
  unfold erW
  exact ⟨_, _, run_endRound none (hs.own _ (List.mem_of_getElem? hi)), k _ (hs.put i _ hi)⟩
theorem erR1 (i : Nat) (hs : St c I L w) {l : Nat} {r : Loop} {s : LoopState} {j : Option Code} {cd : Code} {K : Value → World → Prop} (hi : L[i]? = some (.blk l (lp r s j))) (k : ∀ w', St c I (L.set i (.blk l (lp r .done (some cd)))) w' → K (.bool false) w') : erW P l (some cd) K w := by
  unfold erW
  exact ⟨_, _, run_endRound (some cd) (hs.own _ (List.mem_of_getElem? hi)), k _ (hs.put i _ hi)⟩
theorem endR (i : Nat) (hs : St c I L w) {l : Nat} {r : Loop} {s : LoopState} {j : Option Code} {K : Option Code → World → Prop} (hi : L[i]? = some (.blk l (lp r s j))) (hb : s ≠ .busy) (k : ∀ w', St c I (L.eraseIdx i) w' → K j w') : endW P l K w := by
  unfold endW
  refine ⟨_, _, run_endLoop (hs.own _ (List.mem_of_getElem? hi)) hb, k _ ?_⟩
  have h2 : (L.set i (.blk l (lp r .exhausted j))).eraseIdx i = L.eraseIdx i := by
    rw [List.eraseIdx_set_eq]
  rw [← h2]
  exact (hs.put i _ hi).drop i
theorem rngR (hg : Good P T) (hs : St c I L w) {n : Fm} {ps : Array Nat} {a b : Code} {g : Operand} {gf : Nat} {lb gl : List Value} {Q : Exit → Env → World → Prop} {e : Env} (hr : n.r = none) (hm : n.m = true) (hnn : Nat.ble n.n ghost = true)
    (hgv : ev n e g = .func (.func gf) #[] ⟨lb⟩) (hgh : e ghost = .tuple ⟨gl⟩) (hb : hasBody P gf = true)
    (call : ∀ (r : Loop) (D l : Nat) (w1 : World), Rec r n.n e ps.toList a b → St c I (.blk l (lp r .ready none) :: .blk D (.deferred (some [])) :: L) w1 →
      callW P gf (.func (.yield l) #[] #[] :: lb) (fun _ w3 => endW P l (fun j w4 => match j with
        | none => Q .normal (upd e ghost (.tuple ⟨.pointer (some ⟨D, 0, none⟩) :: gl⟩)) w4
        | some c => okC n c = true ∧ wpc P T n c Q (upd e ghost (.tuple ⟨.pointer (some ⟨D, 0, none⟩) :: gl⟩)) w4) w3) w1) : otherW P n (.rangeFunc g ps a b) Q e w := by
  refine rng_of hg hr hm hnn hgv hgh hb fun r D l hrec hD hl => ?_
  refine call r D l _ hrec ?_
  have h1 := hs.push (Ch.alloc w (.deferred (some []))) (x' := .blk w.heap.size (.deferred (some []))) (heap_alloc_new w _) (by rintro b rfl; exact Nat.le_refl _)
  have hsz : (w.alloc (.deferred (some []))).heap.size = w.heap.size + 1 := by simp
  have h2 := h1.push (Ch.alloc (w.alloc (.deferred (some []))) (lp r .ready none)) (x' := .blk (w.alloc (.deferred (some []))).heap.size (lp r .ready none)) (heap_alloc_new _ _) (by rintro b rfl; exact Nat.le_refl _)
  rw [hsz] at h2
  subst hD; subst hl
  exact h2
theorem yldR (hg : Good P T) (i : Nat) (hs : St c I L w) {l nn : Nat} {r : Loop} {j : Option Code} {e : Env} {ps : List Nat} {a b : Code} {args : List Value} {K : Value → World → Prop} (hi : L[i]? = some (.blk l (lp r .ready j))) (hr : Rec r nn e ps a b) (hl : Nat.beq args.length ps.length = true)
    (h : wpc P T ⟨nn, some l, false⟩ a (thenF fun e w => begW P l (fun w => wpc P T ⟨nn, some l, false⟩ b (roundQ P l K) e w) w) (layA ps args e) w) : yldW P l args K w :=
  yld_of hg (r := { r with state := .ready, pending := j }) (hs.own _ (List.mem_of_getElem? hi)) ⟨hr.tmps, hr.params, hr.assign, hr.body⟩ (Nat.eq_of_beq_eq_true hl) h
end
/-- A function value, told by a plain function over a state that stands in memory. -/
def Clo (P : Program) (c : Cx) (fv : Value) {σ α β : Type} (y : σ → α → Option (σ × β)) (Fr : σ → Im → List Ent → Prop) (ar : Im → α → List Value → Prop) (br : β → Value) : Prop :=
  ∀ {I : Im} {Lo M : List Ent} {w : World} {K : Value → World → Prop} (s : σ) (a : α) (r : σ × β) (args : List Value), y s a = some r → Fr s I M → St c I (Lo ++ M) w → ar I a args →
    (∀ (J : Im) (M' : List Ent) (w' : World), Le I J → Fr r.1 J M' → St c J (Lo ++ M') w' → K (br r.2) w') → appV P fv args K w

/-! ### Rows that are written in place -/
section
variable {P : Program} {T : TT} {c : Cx} {I J : Im} {L : List Ent} {w w' : World} {α : Type} {sz : Nat} {R : List Value → α → Prop}
theorem row_addr {w : World} {t sz n : Nat} {v : Value} {cs : List Value} (h : w.ownsRow 0 t sz v n cs) (hn : 0 < n) : ∃ g c cur, v = .slice (some ⟨g, 0, none⟩) n c ∧ w.heap[g]? = some (.cells cur t (0, 0)) ∧ n ≤ c ∧ n * sz ≤ cur.size ∧ cur.toList.take (n * sz) = cs := by
  rcases h.2 with ⟨_, h0⟩ | ⟨g, cap, cur, rfl, _, hh, h5, h6, h7, h8⟩
  · omega
  · refine ⟨g, cap, cur, rfl, hh, h5, ?_, by simpa using h8⟩
    have := h.1
    have h9 := congrArg List.length h8
    simp at h9
    omega
theorem idxRow (i : Nat) (hs : St c I L w) {a : Option Addr} {n cc t : Nat} {cs : List Value} {xs : List α} {x : α} {k : Int} {K : Value → Prop} (hi : L[i]? = some (.row (.slice a n cc) t sz n cs)) (hC : RdC sz R cs xs) (hn : n = xs.length) (hx : getI xs k = some x)
    (kk : ∀ (g : Nat) (r : List Value), a = some ⟨g, 0, none⟩ → R r x → r.length = sz → (cs.drop (k.toNat * sz)).take sz = r → k.toNat < n → K (.pointer (some ((⟨g, 0, none⟩ : Addr).add (k.toNat * sz))))) : idxW a n k sz K := by
  unfold getI at hx
  split at hx
  · rename_i h0
    have hlt := (List.getElem?_eq_some_iff.1 hx).1
    subst hn
    have hown : w.ownsRow 0 t sz (.slice a xs.length cc) xs.length cs := hs.own _ (List.mem_of_getElem? hi)
    obtain ⟨g, c', cur, he, _, _, _, _⟩ := row_addr hown (by omega)
    injection he with e1 e2 e3
    refine idx e1 h0 (by omega) (kk g _ e1 (hC.2 _ _ hx) ?_ rfl (by omega))
    have := hC.1
    have hm : (k.toNat + 1) * sz ≤ xs.length * sz := Nat.mul_le_mul_right _ hlt
    rw [Nat.add_mul, Nat.one_mul] at hm
    rw [List.length_take, List.length_drop]
    omega
  · cases hx
theorem row_cells {w : World} {t sz n g c : Nat} {cs : List Value} (h : w.ownsRow 0 t sz (.slice (some ⟨g, 0, none⟩) n c) n cs) {m : Nat} {vs : List Value} (hv : (cs.drop m).take vs.length = vs) :
    ∀ i v, vs[i]? = some v → w.cell? ((⟨g, m, none⟩ : Addr).add i) = some v := by
  intro i v hi
  have hlt := (List.getElem?_eq_some_iff.1 hi).1
  have hl : m + vs.length ≤ cs.length := by
    have := congrArg List.length hv
    rw [List.length_take, List.length_drop] at this
    omega
  have hcs : cs[m + i]? = some v := by
    rw [← hv, List.getElem?_take, if_pos hlt, List.getElem?_drop] at hi
    exact hi
  have hn : 0 < n := by
    have := h.1
    cases n with
    | zero => simp at this; subst this; simp at hcs
    | succ n => omega
  obtain ⟨g', c', cur, he, hh, _, hsz, ht⟩ := row_addr h hn
  injection he with e1 e2 e3
  injection e1 with e1
  injection e1 with e1
  subst e1
  rw [add_at]
  have : cur.toList[m + i]? = some v := by
    rw [← ht, List.getElem?_take] at hcs
    split at hcs
    · exact hcs
    · cases hcs
  simp [World.cell?, hh]
  simpa using this
/-- What stands in a row, of some cells of an element. -/
theorem ldRow (i : Nat) (hs : St c I L w) {g n cc t m len : Nat} {cs vs : List Value} {K : List Value → World → Prop} (hi : L[i]? = some (.row (.slice (some ⟨g, 0, none⟩) n cc) t sz n cs)) (hv : (cs.drop m).take len = vs) (hl : vs.length = len) (k : K vs w) :
    loadW ((⟨g, 0, none⟩ : Addr).add m) len K w := by
  rw [add_at, Nat.zero_add]
  exact ldc (row_cells (hs.own _ (List.mem_of_getElem? hi)) (by rw [hl]; exact hv)) hl k
theorem setR_length : ∀ (vs cs : List Value) (off : Nat), (setR cs off vs).length = cs.length
  | [], _, _ => rfl
  | v :: vs, cs, off => by simp only [setR]; rw [setR_length vs]; simp
theorem setR_get : ∀ (vs cs : List Value) (off i : Nat), off + vs.length ≤ cs.length → (setR cs off vs)[i]? = if off ≤ i ∧ i < off + vs.length then vs[i - off]? else cs[i]?
  | [], cs, off, i, h => by
    have : ¬ (off ≤ i ∧ i < off + ([] : List Value).length) := by simp
    rw [if_neg this]; rfl
  | v :: vs, cs, off, i, h => by
    simp only [List.length_cons] at h
    simp only [setR]
    rw [setR_get vs (cs.set off v) (off + 1) i (by simp; omega)]
    by_cases h1 : off + 1 ≤ i ∧ i < off + 1 + vs.length
    · rw [if_pos h1, if_pos (by simp; omega), show i - off = (i - (off + 1)) + 1 by omega]; simp
    · rw [if_neg h1, List.getElem?_set]
      by_cases h2 : off = i
      · subst h2
        rw [if_pos rfl, if_pos (show off < cs.length by omega), if_pos (show off ≤ off ∧ off < off + (v :: vs).length by simp)]; simp
      · rw [if_neg h2, if_neg (show ¬ (off ≤ i ∧ i < off + (v :: vs).length) by simp only [List.length_cons]; omega)]
theorem setR_take (vs cs : List Value) (off n : Nat) (h : off + vs.length ≤ n) (hn : n ≤ cs.length) : (setR cs off vs).take n = setR (cs.take n) off vs := by
  apply List.ext_getElem?
  intro i
  rw [List.getElem?_take, setR_get vs cs off i (by omega), setR_get vs (cs.take n) off i (by rw [List.length_take]; omega), List.getElem?_take]
  by_cases h1 : off ≤ i ∧ i < off + vs.length
  · rw [if_pos h1, if_pos h1, if_pos (by omega)]
  · rw [if_neg h1, if_neg h1]
theorem RdC.put {cs r : List Value} {xs : List α} {x : α} (hC : RdC sz R cs xs) {k off : Nat} {vs : List Value} (hk : k < xs.length) (hr : (cs.drop (k * sz)).take sz = r) (ho : off + vs.length ≤ sz) (hx : R (setR r off vs) x) : RdC sz R (setR cs (k * sz + off) vs) (xs.set k x) := by
  have hl := hC.1
  have hm : (k + 1) * sz ≤ xs.length * sz := Nat.mul_le_mul_right _ hk
  rw [Nat.add_mul, Nat.one_mul] at hm
  refine ⟨by rw [setR_length, List.length_set, hl], fun j y hj => ?_⟩
  by_cases hjk : j = k
  · subst hjk
    rw [List.getElem?_set, if_pos rfl, if_pos hk] at hj
    cases hj
    have : ((setR cs (j * sz + off) vs).drop (j * sz)).take sz = setR r off vs := by
      apply List.ext_getElem?
      intro i
      have hrl : r.length = sz := by rw [← hr, List.length_take, List.length_drop]; omega
      rw [List.getElem?_take, List.getElem?_drop, setR_get vs r off i (by omega)]
      by_cases hi : i < sz
      · rw [if_pos hi, setR_get vs cs _ _ (by omega)]
        by_cases h1 : off ≤ i ∧ i < off + vs.length
        · rw [if_pos h1, if_pos (by omega)]; congr 1; omega
        · rw [if_neg h1, if_neg (by omega), ← hr, List.getElem?_take, if_pos hi, List.getElem?_drop]
      · rw [if_neg hi, if_neg (by omega)]
        rw [List.getElem?_eq_none (by omega)]
    rw [this]; exact hx
  · rw [List.getElem?_set, if_neg (Ne.symm hjk)] at hj
    have hjl := (List.getElem?_eq_some_iff.1 hj).1
    have hm2 : (j + 1) * sz ≤ xs.length * sz := Nat.mul_le_mul_right _ hjl
    rw [Nat.add_mul, Nat.one_mul] at hm2
    have : ((setR cs (k * sz + off) vs).drop (j * sz)).take sz = (cs.drop (j * sz)).take sz := by
      apply List.ext_getElem?
      intro i
      rw [List.getElem?_take, List.getElem?_take, List.getElem?_drop, List.getElem?_drop]
      by_cases hi : i < sz
      · rw [if_pos hi, if_pos hi, setR_get vs cs _ _ (by omega), if_neg]
        rintro ⟨h1, h2⟩
        rcases Nat.lt_or_gt_of_ne hjk with h3 | h3
        · have : (j + 1) * sz ≤ k * sz := Nat.mul_le_mul_right _ h3
          rw [Nat.add_mul, Nat.one_mul] at this
          omega
        · have : (k + 1) * sz ≤ j * sz := Nat.mul_le_mul_right _ h3
          rw [Nat.add_mul, Nat.one_mul] at this
          omega
      · rw [if_neg hi, if_neg hi]
    rw [this]; exact hC.2 _ _ hj
theorem stoRow (i : Nat) (hs : St c I L w) {g n cc t m : Nat} {cs vs : List Value} {K : World → Prop} (hi : L[i]? = some (.row (.slice (some ⟨g, 0, none⟩) n cc) t sz n cs)) (hm : m + vs.length ≤ n * sz) (h1 : vs.all Value.oneCell' = true)
    (k : ∀ w', St c I (L.set i (.row (.slice (some ⟨g, 0, none⟩) n cc) t sz n (setR cs m vs))) w' → K w') : storeW ((⟨g, 0, none⟩ : Addr).add m) vs K w := by
  have hown : w.ownsRow 0 t sz (.slice (some ⟨g, 0, none⟩) n cc) n cs := hs.own _ (List.mem_of_getElem? hi)
  have hlen := hown.1
  rw [add_at, Nat.zero_add]
  by_cases hv : vs = []
  · subst hv
    unfold storeW
    refine ⟨by simp, by simp, k _ ?_⟩
    simp only [setR, setCells]
    rw [list_set_self hi]; exact hs
  have hvl : 0 < vs.length := List.length_pos_iff.2 hv
  have hn : 0 < n := by
    cases n with
    | zero => rw [Nat.zero_mul] at hm; omega
    | succ n => omega
  rcases hown.2 with ⟨h, _⟩ | ⟨g', cap, cur, he, h0, hh, h5, h6, h7, h8⟩
  · cases h
  injection he with e1 e2 e3
  injection e1 with e1
  injection e1 with e1
  subst e1; subst e3
  have hcl : n * sz ≤ cur.size := by
    have h9 := congrArg List.length h8
    simp at h9
    omega
  obtain ⟨curl⟩ := cur
  obtain ⟨h3, h4⟩ := setCells_at g m t (0, 0) vs 0 curl w hh
  rw [Nat.add_zero] at h3
  unfold storeW
  refine ⟨fun v hv => List.all_eq_true.1 h1 v hv, fun j hj => ?_, k _ (hs.upd hi (x' := .row (.slice (some ⟨g, 0, none⟩) n cc) t sz n (setR cs m vs)) (h4.mono fun j _ hj => by show some j = some g; rw [hj]) ?_ (fun j hj => .inl hj))⟩
  · rw [add_at]
    have : m + j < curl.length := by simp at hcl; omega
    refine ⟨⟨curl[m + j], ?_⟩, by simp [World.frozen?, hh]⟩
    simp [World.cell?, hh, List.getElem?_eq_getElem this]
  · refine ⟨by rw [setR_length, hlen], .inr ⟨g, cc, ⟨setR curl m vs⟩, rfl, h0, h3, h5, h6, ?_, ?_⟩⟩
    · simp [setR_length]; simpa using h7
    · show (setR curl m vs).take (n * sz) = _
      rw [setR_take vs curl m (n * sz) hm (by simpa using hcl)]
      simp at h8
      rw [h8]
/-- .. told by an equation of its place. -/
theorem ldRowE (i : Nat) (hs : St c I L w) {a : Option Addr} {g n cc t m len : Nat} {cs vs : List Value} {K : List Value → World → Prop} (hi : L[i]? = some (.row (.slice a n cc) t sz n cs)) (ha : a = some ⟨g, 0, none⟩) (hv : (cs.drop m).take len = vs) (hl : vs.length = len) (k : K vs w) :
    loadW ((⟨g, 0, none⟩ : Addr).add m) len K w := by
  subst ha; exact ldRow i hs hi hv hl k
theorem ldRowF (i : Nat) (hs : St c I L w) {a : Option Addr} {g n cc t m off : Nat} {cs r : List Value} {v : Value} {K : List Value → World → Prop} (hi : L[i]? = some (.row (.slice a n cc) t sz n cs)) (ha : a = some ⟨g, 0, none⟩) (hr : (cs.drop m).take sz = r) (hv : r[off]? = some v) (k : K [v] w) :
    loadW (addA ((⟨g, 0, none⟩ : Addr).add m) off) 1 K w := by
  have e : addA ((⟨g, 0, none⟩ : Addr).add m) off = (⟨g, 0, none⟩ : Addr).add (m + off) := by simp [addA, add_at]
  rw [e]
  refine ldRowE i hs hi ha ?_ rfl k
  rw [← hr, List.getElem?_take] at hv
  split at hv
  · rw [List.getElem?_drop] at hv
    obtain ⟨hlt, hv⟩ := List.getElem?_eq_some_iff.1 hv
    rw [List.drop_eq_getElem_cons hlt, hv]; rfl
  · cases hv
theorem stoRowE (i : Nat) (hs : St c I L w) {a : Option Addr} {g n cc t m : Nat} {cs vs : List Value} {K : World → Prop} (hi : L[i]? = some (.row (.slice a n cc) t sz n cs)) (ha : a = some ⟨g, 0, none⟩) (hm : m + vs.length ≤ n * sz) (h1 : vs.all Value.oneCell' = true)
    (k : ∀ w', St c I (L.set i (.row (.slice a n cc) t sz n (setR cs m vs))) w' → K w') : storeW ((⟨g, 0, none⟩ : Addr).add m) vs K w := by
  subst ha; exact stoRow i hs hi hm h1 k
theorem stoRowF (i : Nat) (hs : St c I L w) {a : Option Addr} {g n cc t m off : Nat} {cs vs : List Value} {K : World → Prop} (hi : L[i]? = some (.row (.slice a n cc) t sz n cs)) (ha : a = some ⟨g, 0, none⟩) (hm : m + off + vs.length ≤ n * sz) (h1 : vs.all Value.oneCell' = true)
    (k : ∀ w', St c I (L.set i (.row (.slice a n cc) t sz n (setR cs (m + off) vs))) w' → K w') : storeW (addA ((⟨g, 0, none⟩ : Addr).add m) off) vs K w := by
  have e : addA ((⟨g, 0, none⟩ : Addr).add m) off = (⟨g, 0, none⟩ : Addr).add (m + off) := by simp [addA, add_at]
  rw [e]; exact stoRowE i hs hi ha hm h1 k
/-- A whole element is written. -/
theorem RdC.putAll {cs : List Value} {xs : List α} {x : α} (hC : RdC sz R cs xs) {k : Nat} {vs : List Value} (hk : k < xs.length) (hv : vs.length = sz) (hx : R vs x) : RdC sz R (setR cs (k * sz) vs) (xs.set k x) := by
  have hl := hC.1
  have hm : (k + 1) * sz ≤ xs.length * sz := Nat.mul_le_mul_right _ hk
  rw [Nat.add_mul, Nat.one_mul] at hm
  have := hC.put (k := k) (off := 0) (vs := vs) (x := x) hk rfl (by omega) (by
    have hrl : ((cs.drop (k * sz)).take sz).length = sz := by rw [List.length_take, List.length_drop]; omega
    have : setR ((cs.drop (k * sz)).take sz) 0 vs = vs := by
      apply List.ext_getElem?
      intro i
      rw [setR_get _ _ _ _ (by omega)]
      by_cases hi : i < vs.length
      · rw [if_pos (by omega), Nat.sub_zero]
      · rw [if_neg (by omega), List.getElem?_eq_none (by omega), List.getElem?_eq_none (by omega)]
    rw [this]; exact hx)
  simpa using this
theorem mul_lt_of {k n sz m : Nat} (h : k < n) (hm : m ≤ sz) : k * sz + m ≤ n * sz := by
  have := Nat.mul_le_mul_right sz (show k + 1 ≤ n from h)
  rw [Nat.add_mul, Nat.one_mul] at this
  omega
/-- A row is lent: as long as it is, it stands fixed; it comes back as it was. -/
theorem St.lend {v : Value} {n t : Nat} {cs : List Value} {xs : List α} (hs : St c I L w) {i : Nat} (hi : L[i]? = some (.row v t sz n cs)) (hX : ∀ b, ¬ c.X b) (hC : RdC sz R cs xs) (hn : n = xs.length) :
    ∃ J : Im, Le I J ∧ St c J (L.eraseIdx i) w ∧ RdL J sz R v xs ∧ ∀ (J' : Im) (M : List Ent) (w' : World), Le J J' → St c J' M w' → St c I (.row v t sz n cs :: M) w' := by
  have hm : Ent.row v t sz n cs ∈ L := List.mem_of_getElem? hi
  have hown : w.ownsRow 0 t sz v n cs := hs.own _ hm
  obtain ⟨J, h1, h2, h3⟩ := hs.fix hi hX
  have hrd : RdL J sz R v xs := by
    subst hn
    refine ⟨cs, ?_, hC⟩
    rcases hown.2 with ⟨rfl, h4⟩ | ⟨g, cap, cur, rfl, _, hh, h5, h6, h7, h8⟩
    · exact ⟨hown.1, none, 0, by rw [h4], by omega, .inl h4⟩
    · exact RowI.blk (t := t) (fr := (0, 0)) (arr := cur.toList) (by rw [h3 g rfl, hh]) (by simpa using h8) hown.1 h5
  refine ⟨J, h1, h2, hrd, fun J' M w' hJ hs' => ?_⟩
  have hJb : ∀ b, (Ent.row v t sz n cs).foot b → J' b = w.heap[b]? := by
    intro b hb
    have h5 := h3 b hb
    cases ho : w.heap[b]? with
    | none => exact absurd (Ent.foot_lt (hs.own _ hm) hb) (by have := Array.getElem?_eq_none_iff.1 ho; omega)
    | some o => rw [ho] at h5; exact hJ b o h5
  refine ⟨hs'.ch, fun b o hb => hs'.im b o (hJ b o (h1 b o hb)), hs.ag, fun x hx => ?_, fun x hx b hb => ?_, fun x hx b hb => ?_, ?_⟩
  · rcases List.mem_cons.1 hx with rfl | hx
    · refine ⟨hown.1, ?_⟩
      rcases hown.2 with h5 | ⟨g, cap, cur, rfl, h0, hh, h5⟩
      · exact .inl h5
      · refine .inr ⟨g, cap, cur, rfl, h0, ?_, h5⟩
        refine hs'.im g _ ?_
        rw [hJb g rfl, hh]
    · exact hs'.own x hx
  · rcases List.mem_cons.1 hx with rfl | hx
    · exact hs.new _ hm b hb
    · exact hs'.new x hx b hb
  · rcases List.mem_cons.1 hx with rfl | hx
    · exact hs.sep _ hm b hb
    · have := hs'.sep x hx b hb
      cases hI : I b with
      | none => rfl
      | some o => rw [hJ b o (h1 b o hI)] at this; cases this
  · rw [List.pairwise_cons]
    refine ⟨fun y hy b hb hb' => ?_, hs'.nd⟩
    have h5 := hs'.sep y hy b hb'
    rw [hJb b hb] at h5
    have := Ent.foot_lt (hs.own _ hm) hb
    rw [Array.getElem?_eq_getElem this] at h5
    cases h5
end
end B
end Go.Proofs.YtdbihpobfcbmeaaDoor
