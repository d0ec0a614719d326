/- Appending, in full: onto a row of the call's own, of what any slice holds. -/
import Derived.Test.YtdbihpobfcbmeaaDoorBD
import Derived.Laws.BytesString
set_option linter.unusedVariables false
set_option linter.unusedSimpArgs false
namespace Go.Proofs.YtdbihpobfcbmeaaDoor
namespace B
open Go Go.RowKit

section
variable {P : Program} {T : TT} {c : Cx} {I J : Im} {L : List Ent} {w w' : World}
/-- append at the world's own words. -/
theorem appw (hg : Good P T) {v : Value} {t e sz n m c' rt : Nat} {xs news : List Value} {ad : Addr} {K : Value → World → Prop}
    (ho : w.ownsRow 0 e sz v n xs) (hc : ∀ q u, news[q]? = some u → w.cell? (ad.add q) = some u)
    (ht : (tat T t).d = .slice e) (hz : Nat.beq (zeroOf T e).length sz = true) (hsz : sizeOf? T e = some sz) (hby : Nat.ble (tat T e).bytes 1024 = true) (hpos : Nat.blt 0 sz = true)
    (hl : news.length = m * sz) (h1 : ∀ u ∈ news, u.oneCell' = true) (hnm : n + m ≤ 100000000000)
    (k : ∀ v' w', Ch (fun b => some b = v.ownBlock) w w' → w'.ownsRow 0 e sz v' (n + m) (xs ++ news) → (∀ b, some b = v'.ownBlock → some b = v.ownBlock ∨ w.heap.size ≤ b) → K v' w') :
    semW P (Builtin.append_ #[t, t] rt ⟨[v, .slice (some ad) m c']⟩) K w := by
  obtain ⟨f, hf, hfs, hfb⟩ := sizeOf?_out hg hsz
  have hz := Nat.eq_of_beq_eq_true hz
  have hpos : 0 < sz := by simp only [Nat.blt] at hpos; exact Nat.le_of_ble_eq_true hpos
  obtain ⟨z, hzv, hzc, _⟩ := zeroOf_out (w := w) hg (t := e) (by intro h0; rw [h0] at hz; simp at hz; omega)
  have hfz : f.zero = some z := by
    simp only [zeroValue, typeInfo, Sem.run_bind, run_program, Result.andThen_ok, hf, Sem.run_pure] at hzv
    cases hh : f.zero with
    | none => rw [hh] at hzv; simp at hzv
    | some z' => rw [hh] at hzv; simp at hzv; rw [hzv]
  have hzs : z.cells.size = sz := by rw [← hz, ← hzc]; simp
  have hb2 : (n + m) * f.bytes ≤ 140737488355328 := by
    have h1 := Nat.le_of_ble_eq_true hby
    rw [hfb]
    have h2 : (n + m) * (tat T e).bytes ≤ (n + m) * 1024 := Nat.mul_le_mul_left _ h1
    omega
  obtain ⟨v', w', hr, hown', hgr, _, hat⟩ := run_append_own_at (P := P) w 0 t rt e f z sz f.bytes (hg.slice ht) hf hfz hfs rfl hzs hpos v n xs ho ad m c' news hl hc h1 (by simp only [maxLen]; omega) hb2 (Nat.zero_le _)
  refine semW_mk hr (k v' w' (Ch.of_grown hgr) hown' (fun b hb => ?_))
  rcases hat with hat | hat
  · exact .inl (hb.trans hat)
  · rw [hat] at hb; simp at hb; exact .inr (by omega)
theorem appc (hg : Good P T) (i : Nat) (hs : St c I L w) {v : Value} {t e sz n m c' rt : Nat} {xs news : List Value} {ad : Addr} {K : Value → World → Prop}
    (hi : L[i]? = some (.row v e sz n xs)) (hc : ∀ q u, news[q]? = some u → w.cell? (ad.add q) = some u)
    (ht : (tat T t).d = .slice e) (hz : Nat.beq (zeroOf T e).length sz = true) (hsz : sizeOf? T e = some sz) (hby : Nat.ble (tat T e).bytes 1024 = true) (hpos : Nat.blt 0 sz = true)
    (hl : news.length = m * sz) (h1 : ∀ u ∈ news, u.oneCell' = true) (hnm : n + m ≤ 100000000000)
    (k : ∀ v' w', St c I (L.set i (.row v' e sz (n + m) (xs ++ news))) w' → K v' w') : semW P (Builtin.append_ #[t, t] rt ⟨[v, .slice (some ad) m c']⟩) K w :=
  appw hg (hs.own _ (List.mem_of_getElem? hi)) hc ht hz hsz hby hpos hl h1 hnm fun v' w' h2 h3 h4 => k v' w' (hs.upd hi (x' := .row v' e sz (n + m) (xs ++ news)) h2 h3 h4)
/-- .. of a box of the call's own. -/
theorem appb (hg : Good P T) (i j : Nat) (hs : St c I L w) {v : Value} {t e sz n m c' bx rt : Nat} {xs news : List Value} {t' : Nat} {fr : Nat × Nat} {K : Value → World → Prop}
    (hi : L[i]? = some (.row v e sz n xs)) (hj : L[j]? = some (.blk bx (.cells ⟨news⟩ t' fr)))
    (ht : (tat T t).d = .slice e) (hz : Nat.beq (zeroOf T e).length sz = true) (hsz : sizeOf? T e = some sz) (hby : Nat.ble (tat T e).bytes 1024 = true) (hpos : Nat.blt 0 sz = true)
    (hl : Nat.beq news.length (m * sz) = true) (h1 : news.all Value.oneCell' = true) (hnm : n + m ≤ 100000000000)
    (k : ∀ v' w', St c I (L.set i (.row v' e sz (n + m) (xs ++ news))) w' → K v' w') : semW P (Builtin.append_ #[t, t] rt ⟨[v, .slice (some ⟨bx, 0, none⟩) m c']⟩) K w :=
  appc hg i hs hi (cells_of (off := 0) (n := news.length) (hs.own _ (List.mem_of_getElem? hj)) (by simp)) ht hz hsz hby hpos (Nat.eq_of_beq_eq_true hl) (List.all_eq_true.1 h1) hnm k
/-- .. of any slice that is not empty. -/
theorem appR (hg : Good P T) (i : Nat) (hs : St c I L w) {v x : Value} {t e sz n m rt : Nat} {xs news : List Value} {K : Value → World → Prop}
    (hi : L[i]? = some (.row v e sz n xs)) (hr : RowI I sz m x news) (hm : 0 < m)
    (ht : (tat T t).d = .slice e) (hz : Nat.beq (zeroOf T e).length sz = true) (hsz : sizeOf? T e = some sz) (hby : Nat.ble (tat T e).bytes 1024 = true) (hpos : Nat.blt 0 sz = true)
    (h1 : ∀ u ∈ news, u.oneCell' = true) (hnm : n + m ≤ 100000000000)
    (k : ∀ v' w', St c I (L.set i (.row v' e sz (n + m) (xs ++ news))) w' → K v' w') : semW P (Builtin.append_ #[t, t] rt ⟨[v, x]⟩) K w := by
  obtain ⟨hl, a, c', rfl, hc, h4⟩ := hr
  rcases h4 with h4 | ⟨ad, rfl, hcl⟩
  · omega
  · exact appc hg i hs hi (hcl w hs.im) ht hz hsz hby hpos hl h1 hnm k
/-- A literal of the call's own as a row. -/
theorem St.toRow (hs : St c I L w) (i : Nat) {b t sz n : Nat} {cs : List Value} (hi : L[i]? = some (.blk b (.cells ⟨cs⟩ t (0, 0)))) (hl : cs.length = n * sz) (hn : n ≤ 100000000000) : St c I (L.set i (.row (.slice (some ⟨b, 0, none⟩) n n) t sz n cs)) w := by
  have hb : w.heap[b]? = some (.cells ⟨cs⟩ t (0, 0)) := hs.own _ (List.mem_of_getElem? hi)
  refine hs.upd hi (Ch.refl _ _) (x' := .row _ t sz n cs) ⟨hl, .inr ⟨b, n, ⟨cs⟩, rfl, Nat.zero_le _, hb, Nat.le_refl _, by simp only [maxLen]; omega, hl, by rw [← hl, List.take_length]⟩⟩ (fun b' hb' => ?_)
  simp only [Ent.foot, Value.ownBlock, Option.some.injEq] at hb'
  exact .inl hb'
theorem RdC.append {α : Type} {sz : Nat} {R : List Value → α → Prop} {cs ds : List Value} {xs ys : List α} (h : RdC sz R cs xs) (h' : RdC sz R ds ys) : RdC sz R (cs ++ ds) (xs ++ ys) := by
  obtain ⟨h1, h2⟩ := h
  obtain ⟨h3, h4⟩ := h'
  refine ⟨by rw [List.length_append, List.length_append, Nat.add_mul, h1, h3], fun j x hj => ?_⟩
  by_cases hlt : j < xs.length
  · rw [List.getElem?_append_left hlt] at hj
    have hm : (j + 1) * sz ≤ xs.length * sz := Nat.mul_le_mul_right _ hlt
    rw [Nat.add_mul, Nat.one_mul] at hm
    rw [List.drop_append_of_le_length (by omega), List.take_append_of_le_length (by rw [List.length_drop]; omega)]
    exact h2 j x hj
  · rw [List.getElem?_append_right (by omega)] at hj
    have hj2 := h4 _ _ hj
    have hm : xs.length * sz ≤ j * sz := Nat.mul_le_mul_right _ (by omega)
    rw [List.drop_append, List.drop_eq_nil_of_le (by omega), List.nil_append, h1, ← Nat.sub_mul]
    exact hj2
/-- An element, in every world that holds what stands fixed. -/
theorem RdL.at' {α : Type} {sz : Nat} {R : List Value → α → Prop} {xs : List α} {a : Option Addr} {n c : Nat} (h : RdL I sz R (.slice a n c) xs) (i : Int) (h0 : 0 ≤ i) (h1 : i < n) :
    ∃ ad x r, a = some ad ∧ xs[i.toNat]? = some x ∧ R r x ∧ r.length = sz ∧ ∀ w, Imm I w → ∀ j u, r[j]? = some u → w.cell? ((ad.add (i.toNat * sz)).add j) = some u := by
  obtain ⟨cs, ⟨hl, a', c', he, hc, h4⟩, hC⟩ := h
  injection he with e1 e2 e3
  subst e1; subst e2; subst e3
  rcases h4 with h4 | ⟨ad, rfl, hcl⟩
  · omega
  · have hlt : i.toNat < xs.length := by omega
    have hm : (i.toNat + 1) * sz ≤ xs.length * sz := Nat.mul_le_mul_right _ hlt
    rw [Nat.add_mul, Nat.one_mul] at hm
    refine ⟨ad, xs[i.toNat], _, rfl, List.getElem?_eq_getElem hlt, hC.2 _ _ (List.getElem?_eq_getElem hlt), ?_, ?_⟩
    · have := hC.1
      rw [List.length_take, List.length_drop]
      omega
    · intro w hI j u hj
      rw [Addr.add_add]
      rw [List.getElem?_take] at hj
      split at hj
      · rw [List.getElem?_drop] at hj
        exact hcl w hI _ u hj
      · cases hj
/-- What is held, but for the first thing, which may turn as it will. -/
theorem St.loose {x : Ent} (hs : St c I (x :: L) w) (hc : Ch x.foot w w') : St c I L w' :=
  (hs.upd (i := 0) (x := x) rfl hc (x' := .row (.slice none 0 0) 0 0 0 []) ⟨rfl, .inl ⟨rfl, rfl⟩⟩ (fun b hb => by simp [Ent.foot, Value.ownBlock] at hb)).drop 0
theorem fold_bs : ∀ (l a : List UInt8), (l.map fun b => ((b.toNat : Nat) : Int)).foldl (fun (r : ByteArray) n => r.push (UInt8.ofNat n.toNat)) (bs a) = bs (a ++ l)
  | [], a => by simp
  | b :: l, a => by
    have h : (bs a).push (UInt8.ofNat ((b.toNat : Nat) : Int).toNat) = bs (a ++ [b]) := by
      rw [Int.toNat_natCast, UInt8.ofNat_toNat]
      show ByteArray.mk ((⟨a⟩ : Array UInt8).push b) = _
      simp [bs]
    simp only [List.map_cons, List.foldl_cons, h, fold_bs l (a ++ [b])]
    rw [List.append_assoc]; rfl
/-- string(bytes). -/
theorem cvsW (hg : Good P T) {s d e c' : Nat} {ad : Addr} {l : List UInt8} {K : Value → World → Prop} (hsrc : (tat T s).d = .slice e) (he : (tat T e).d = .int .u8) (hd : (tat T d).d = .str)
    (hc : ∀ j u, (l.map fun b => Value.int .u8 ((b.toNat : Nat) : Int))[j]? = some u → w.cell? (ad.add j) = some u) (k : K (.string (bs l)) w) : semW P (convert s d (.slice (some ad) l.length c')) K w := by
  refine semW_mk (w' := w) ?_ k
  rw [run_convert_bytes_string w s d e _ _ _ (hg.slice hsrc) (hg.int he) (hg.str hd)]
  have h1 := run_load_cells (P := P) ad (l.map fun b => Value.int .u8 ((b.toNat : Nat) : Int)) hc
  rw [List.length_map] at h1
  rw [run_bytesToString w ad l.length c' (l.map fun b => ((b.toNat : Nat) : Int)) (by rw [h1, List.map_map]; rfl)]
  have := fold_bs l []
  rw [List.nil_append] at this
  rw [← this]; rfl
/-- A new block that nobody holds stands fixed from now on. -/
theorem St.addIm (hs : St c I L w) {b : Nat} {o : Obj} (hb : w.heap[b]? = some o) (hn : c.w.heap.size ≤ b) (hL : ∀ x, x ∈ L → ¬ x.foot b) : ∃ J : Im, Le I J ∧ St c J L w ∧ J b = some o := by
  have e1 : ∀ j, j = b → (fun j => if j = b then some o else I j) j = some o := fun j h => if_pos h
  have e2 : ∀ j, ¬ j = b → (fun j => if j = b then some o else I j) j = I j := fun j h => if_neg h
  generalize (fun j => if j = b then some o else I j) = J at e1 e2
  refine ⟨J, fun j o' h => ?_, ⟨hs.ch, fun j o' h => ?_, fun j h => ?_, hs.own, hs.new, fun x hx j hj => ?_, hs.nd⟩, e1 b rfl⟩
  · by_cases e : j = b
    · rw [e1 j e, ← hb, ← e, hs.im _ _ h]
    · rw [e2 j e]; exact h
  · by_cases e : j = b
    · rw [e1 j e] at h; rw [e, hb, h]
    · rw [e2 j e] at h; exact hs.im _ _ h
  · rw [e2 j (by omega)]; exact hs.ag j h
  · rw [e2 j (fun e => hL x hx (by rw [← e]; exact hj))]; exact hs.sep x hx j hj
/-- Facts that stay when nothing that was there turns. -/
def stabAll : List Fa → Prop
  | [] => True
  | .v _ :: r => stabAll r
  | .s f :: r => (∀ u w w', f u w → Ch Non w w' → f u w') ∧ stabAll r
theorem stabAll_at {f : Value → World → Prop} : ∀ {F : List Fa} {j : Nat}, stabAll F → F[j]? = some (.s f) → ∀ u w w', f u w → Ch Non w w' → f u w'
  | [], j, _, h => by simp at h
  | .v _ :: r, 0, h, hf => by simp at hf
  | .v _ :: r, j + 1, h, hf => stabAll_at (F := r) h (by simpa using hf)
  | .s g :: r, 0, h, hf => by simp at hf; subst hf; exact h.1
  | .s g :: r, j + 1, h, hf => stabAll_at (F := r) h.2 (by simpa using hf)
theorem newR {o : Obj} {K : Nat → World → Prop} (k : ∀ b w', w'.heap[b]? = some o → Ch Non w w' → w.heap.size ≤ b → K b w') : newW o K w := by
  unfold newW
  exact k _ _ (heap_alloc_new w o) (Ch.alloc w o) (Nat.le_refl _)
/-- The facts of a drawn region, each with its place. -/
def factsS : Nat → List Fa → List (Nat × (Value → World → Prop))
  | _, [] => []
  | n, .v _ :: r => factsS (n + 1) r
  | n, .s f :: r => (n, f) :: factsS (n + 1) r
theorem memS {f : Value → World → Prop} : ∀ {F : List Fa} {n j : Nat}, F[j]? = some (.s f) → (n + j, f) ∈ factsS n F
  | [], n, j, h => by simp at h
  | .v _ :: r, n, 0, hf => by simp at hf
  | .v _ :: r, n, j + 1, hf => by have := memS (F := r) (n := n + 1) (j := j) (by simpa using hf); rw [show n + (j + 1) = n + 1 + j by omega]; exact this
  | .s g :: r, n, 0, hf => by simp at hf; subst hf; simp [factsS]
  | .s g :: r, n, j + 1, hf => by have := memS (F := r) (n := n + 1) (j := j) (by simpa using hf); rw [show n + (j + 1) = n + 1 + j by omega]; exact List.mem_cons_of_mem _ this
/-- A drawn region that turns nothing that was there. -/
def no : Nat → Nat → Prop := fun _ _ => False
theorem stabN {F : List Fa} (h : stabAll F) : ∀ i j f, i ≠ j → F[j]? = some (.s f) → ∀ u w w', f u w → Ch (no i) w w' → f u w' :=
  fun i j f _ hf u w w' hu hc => stabAll_at h hf u w w' hu (hc.mono fun _ _ h => h)
theorem St.nn (hs : St c I L w) {k : Nat} (hc : Ch (fun b => ∃ j, j ≠ k ∧ no j b) w w') : St c I L w' := hs.quiet (hc.mono fun _ _ ⟨_, _, h⟩ => h)
theorem St.ne (hs : St c I L w) (hc : Ch (fun b => ∃ j, no j b) w w') : St c I L w' := hs.quiet (hc.mono fun _ _ ⟨_, h⟩ => h)
end
end B
end Go.Proofs.YtdbihpobfcbmeaaDoor
