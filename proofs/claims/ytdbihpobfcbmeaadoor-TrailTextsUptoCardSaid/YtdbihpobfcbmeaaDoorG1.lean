/- Bytes and strings: rules; the builder's. -/
import Derived.Test.YtdbihpobfcbmeaaDoorG0
import Derived.Lib.AppendStr
import Derived.Lib.UnsafeStr
import Derived.Lib.Builder
import Derived.LaidEql
set_option linter.unusedVariables false
set_option linter.unusedSimpArgs false
namespace Go.Proofs.YtdbihpobfcbmeaaDoor
namespace B
open Go Go.RowKit

def RdU : List Value → UInt8 → Prop := fun cs b => cs = [.int .u8 ((b.toNat : Nat) : Int)]
theorem RdU_one : ∀ r x, RdU r x → ∀ u ∈ r, u.oneCell' = true := by
  rintro r x rfl u hu; simp at hu; subst hu; rfl
theorem iteO {ρ : Type} {r : ρ} {p : Prop} [Decidable p] {a b : Option ρ} (hf : (if p then a else b) = some r) : (p ∧ a = some r) ∨ (¬ p ∧ b = some r) := by
  by_cases h : p
  · rw [if_pos h] at hf; exact .inl ⟨h, hf⟩
  · rw [if_neg h] at hf; exact .inr ⟨h, hf⟩
theorem iteB {ρ : Type} {r : ρ} {p : Bool} {a b : Option ρ} (hf : (if p = true then a else b) = some r) : (p = true ∧ a = some r) ∨ (p = false ∧ b = some r) := by
  cases p
  · exact .inr ⟨rfl, hf⟩
  · exact .inl ⟨rfl, hf⟩
theorem pkTe {v : Bool} {a b : Value} (h : v = true) : pickV v a b = a := by subst h; rfl
theorem pkFe {v : Bool} {a b : Value} (h : v = false) : pickV v a b = b := by subst h; rfl
theorem RdU_I {e : Int} (h : 0 ≤ e ∧ e < 256) : RdU [.int .u8 e] (byteI e) := by
  show [_] = [_]
  rw [byteI_val h.1 h.2]
theorem vN {a : Option Addr} {n n' c : Nat} (h : n = n') : Value.slice a n c = .slice a n' c := by rw [h]
theorem RdC.rep {α : Type} {R : List Value → α → Prop} {v : Value} {x : α} (n : Nat) (h : R [v] x) : RdC 1 R (List.replicate n v) (List.replicate n x) := by
  refine ⟨by simp, fun j y hj => ?_⟩
  have hlt := (List.getElem?_eq_some_iff.1 hj).1
  rw [List.length_replicate] at hlt
  rw [List.getElem?_replicate, if_pos hlt] at hj
  cases hj
  rw [Nat.mul_one, List.drop_replicate, List.take_replicate]
  have : min 1 (n - j) = 1 := by omega
  rw [this]; exact h
theorem nilC {α : Type} {I : Im} {sz n cc : Nat} {R : List Value → α → Prop} {xs : List α} (h : RdL I sz R (.slice none n cc) xs) : xs = [] := by
  obtain ⟨cs, ⟨hl, a', c', he, hc, h4⟩, hC⟩ := h
  injection he with e1 e2 e3
  rcases h4 with h4 | ⟨ad, h5, _⟩
  · exact List.eq_nil_of_length_eq_zero h4
  · rw [← e1] at h5; cases h5
def bC (l : List UInt8) : List Value := l.map fun b => .int .u8 ((b.toNat : Nat) : Int)
theorem RdC.bytes : ∀ l : List UInt8, RdC 1 RdU (bC l) l := by
  intro l
  refine ⟨by simp [bC], fun j x hj => ?_⟩
  have hlt := (List.getElem?_eq_some_iff.1 hj).1
  rw [Nat.mul_one]
  show ((bC l).drop j).take 1 = _
  have h2 : (bC l)[j]? = some (.int .u8 ((x.toNat : Nat) : Int)) := by simp [bC, hj]
  have hlt2 : j < (bC l).length := by simp [bC]; exact hlt
  rw [List.drop_eq_getElem_cons hlt2]
  have h3 := List.getElem?_eq_getElem hlt2
  rw [h2] at h3
  rw [← Option.some.inj h3]
  simp
theorem RdC.bytesEq {cs : List Value} {l : List UInt8} (h : RdC 1 RdU cs l) : cs = bC l := by
  have hl := h.1
  rw [Nat.mul_one] at hl
  apply List.ext_getElem?
  intro j
  cases hj : l[j]? with
  | none =>
    have := List.getElem?_eq_none_iff.1 hj
    rw [List.getElem?_eq_none (by omega), List.getElem?_eq_none (by simp [bC]; exact this)]
  | some x =>
    have h2 := h.2 j x hj
    rw [Nat.mul_one] at h2
    have h3 : ((cs.drop j).take 1)[0]? = some (.int .u8 ((x.toNat : Nat) : Int)) := by rw [show (cs.drop j).take 1 = _ from h2]; rfl
    rw [List.getElem?_take, if_pos (by omega), List.getElem?_drop, Nat.add_zero] at h3
    rw [h3]; simp [bC, hj]
theorem strCells_bs (s : List UInt8) : Lib.strCells (bs s) = bC s := by
  simp [Lib.strCells, bC, bs]
section
variable {P : Program} {T : TT} {c : Cx} {I J : Im} {L : List Ent} {w w' : World}
theorem run_append_str_at (w : World) (t u ty e : TypeId) (i : TypeInfo) (ht : P.underlying t = some (.slice e)) (hu : P.underlying u = some .string) (hi : P.info? e = some i) (hz : i.zero = some (.int .u8 0)) (hsize : i.size = 1) (hby : i.bytes = 1)
    (v : Value) (n : Nat) (xs : List Value) (hown : w.ownsRow 0 e 1 v n xs) (s : ByteArray) (h63 : n + s.size ≤ maxLen) (hbytes : n + s.size ≤ 140737488355328) :
    ∃ v' w', (Builtin.append_ #[t, u] ty #[v, .string s]).run P w = .ok v' w' ∧ w'.ownsRow 0 e 1 v' (n + s.size) (xs ++ Lib.strCells s) ∧ w.grownBy w' v.ownBlock ∧ ∀ b, some b = v'.ownBlock → some b = v.ownBlock ∨ w.heap.size ≤ b := by
  obtain ⟨v', w', h1, h2, h3, _⟩ := Lib.run_append_own_string (P := P) w 0 t u ty e i ht hu hi hz hsize hby v n xs hown s h63 hbytes (Nat.zero_le _)
  refine ⟨v', w', h1, h2, h3, ?_⟩
  have hsm : n + s.size ≤ 9223372036854775807 := by simp only [maxLen] at h63; omega
  rcases hown.2 with ⟨rfl, hn0⟩ | ⟨g, cap, cur, rfl, _, hg, hnc, hcm, hcs, htake⟩
  · -- nothing stood there
    obtain ⟨v2, w2, k1, k2, _, _⟩ := Lib.run_append_own_string (P := P) w w.heap.size t u ty e i ht hu hi hz hsize hby (.slice none 0 0) n xs ⟨hown.1, .inl ⟨rfl, hn0⟩⟩ s h63 hbytes (Nat.le_refl _)
    rw [h1] at k1; cases k1
    intro b hb
    rcases k2.2 with ⟨rfl, _⟩ | ⟨g, _, _, rfl, hge, _⟩
    · simp [Value.ownBlock] at hb
    · simp [Value.ownBlock] at hb; subst hb; exact .inr hge
  · have hxl : xs.length = n := by simpa using hown.1
    by_cases hroom : n + s.size ≤ cap
    · have hr := Lib.run_append_room_string (P := P) w t u ty e i ht hu hi hsize g n cap cur hg s hroom (by omega)
      rw [h1] at hr; cases hr
      intro b hb; exact .inl hb
    · have holds : ∀ j u, xs[j]? = some u → w.cell? ((⟨g, 0, none⟩ : Addr).add j) = some u := hown.cells (g := g) rfl
      have hr := Lib.run_append_grow_string (P := P) w t u ty e i (.int .u8 0) ht hu hi hz ⟨g, 0, none⟩ n cap xs (by rw [hsize]; simpa using hxl) holds s (by omega) (by omega) (by rw [hby]; exact growslice_fits (by omega) (by omega))
      rw [h1] at hr; cases hr
      intro b hb
      simp [Value.ownBlock] at hb; subst hb; exact .inr (Nat.le_refl _)
/-- append(bytes, text...) -/
theorem appS (hg : Good P T) (i : Nat) (hs : St c I L w) {a : Option Addr} {n cc t u e rt : Nat} {cs : List Value} {xs s : List UInt8} {K : Value → World → Prop}
    (hi : L[i]? = some (.row (.slice a n cc) e 1 n cs)) (hC : RdC 1 RdU cs xs) (hn : n = xs.length) (ht : (tat T t).d = .slice e) (hu : (tat T u).d = .str) (hz : zeroOf T e = [.int .u8 0]) (hd : (tat T e).d = .int .u8) (hsz : sizeOf? T e = some 1) (hby : Nat.beq (tat T e).bytes 1 = true)
    (hnm : xs.length + s.length ≤ 100000000000)
    (k : ∀ (a' : Option Addr) (c'' : Nat) (cs' : List Value) w', St c I (L.set i (.row (.slice a' (xs ++ s).length c'') e 1 (xs ++ s).length cs')) w' → RdC 1 RdU cs' (xs ++ s) → K (.slice a' (xs ++ s).length c'') w') :
    semW P (Builtin.append_ #[t, u] rt ⟨[.slice a n cc, .string (bs s)]⟩) K w := by
  subst hn
  obtain ⟨f, hf, hfs, hfb⟩ := sizeOf?_out hg hsz
  obtain ⟨z, hzv, hzc, _⟩ := zeroOf_out (w := w) hg (t := e) (by rw [hz]; simp)
  have hzz : f.zero = some (.int .u8 0) := by
    have hti := hg.ti e
    unfold tiOK at hti
    rw [hd] at hti
    simp only [Bool.and_eq_true] at hti
    have hio := hti.2
    unfold infoOK at hio
    rw [hf] at hio
    simp only [Bool.and_eq_true] at hio
    have h3 := hio.2
    have hfz : f.zero = some z := by
      simp only [zeroValue, typeInfo, Sem.run_bind, run_program, Result.andThen_ok, hf, Sem.run_pure] at hzv
      cases hh : f.zero with
      | none => rw [hh] at hzv; simp at hzv
      | some z' => rw [hh] at hzv; simp at hzv; rw [hzv]
    rw [hfz] at h3 ⊢
    rw [hz] at hzc
    cases z with
    | agg cs' => simp [isAggD] at h3
    | int k n => simp [Value.cells] at hzc; rw [hzc.1, hzc.2]
    | _ => simp [Value.cells] at hzc
  have hown : w.ownsRow 0 e 1 (.slice a xs.length cc) xs.length cs := hs.own _ (List.mem_of_getElem? hi)
  have hss : (bs s).size = s.length := rfl
  obtain ⟨v', w', h1, h2, h3, h4⟩ := run_append_str_at (P := P) w t u rt e f (hg.slice ht) (hg.str hu) hf hzz hfs (by rw [hfb]; exact Nat.eq_of_beq_eq_true hby) _ _ _ hown (bs s) (by rw [hss]; simp only [maxLen]; omega) (by rw [hss]; omega)
  rw [strCells_bs, hss, ← List.length_append] at h2
  obtain ⟨a', c'', rfl⟩ := slice_of_own h2
  refine semW_mk h1 (k a' c'' _ w' (hs.upd hi (x' := .row (.slice a' (xs ++ s).length c'') e 1 (xs ++ s).length (cs ++ bC s)) (Ch.of_grown h3) h2 h4) (hC.append (RdC.bytes s)))
theorem bytes_none {P : Program} (w : World) (n c : Nat) (h : n = 0) : (Conv.bytesToString (.slice none n c)).run P w = .ok (.string (bs [])) w := by
  subst h; simp [Conv.bytesToString]; rfl
/-- string(bytes) -/
theorem cvsC (hg : Good P T) {s d e n cc : Nat} {a : Option Addr} {cs : List Value} {xs : List UInt8} {K : Value → World → Prop} (hc : ∀ ad, a = some ad → ∀ q u, cs[q]? = some u → w.cell? (ad.add q) = some u) (h0 : a = none → xs = []) (hC : RdC 1 RdU cs xs) (hn : n = xs.length)
    (hsrc : (tat T s).d = .slice e) (he : (tat T e).d = .int .u8) (hd : (tat T d).d = .str) (k : K (.string (bs xs)) w) : semW P (convert s d (.slice a n cc)) K w := by
  subst hn
  cases a with
  | none =>
    obtain rfl := h0 rfl
    refine semW_mk ?_ k
    rw [run_convert_bytes_string w s d e _ _ _ (hg.slice hsrc) (hg.int he) (hg.str hd)]
    exact bytes_none w _ _ rfl
  | some ad =>
    refine cvsW hg hsrc he hd (l := xs) (fun j u hj => hc ad rfl j u ?_) k
    rw [hC.bytesEq]; exact hj
theorem cvsR (hg : Good P T) (i : Nat) (hs : St c I L w) {s d e t n cc : Nat} {a : Option Addr} {cs : List Value} {xs : List UInt8} {K : Value → World → Prop} (hi : L[i]? = some (.row (.slice a n cc) t 1 n cs)) (hC : RdC 1 RdU cs xs) (hn : n = xs.length)
    (hsrc : (tat T s).d = .slice e) (he : (tat T e).d = .int .u8) (hd : (tat T d).d = .str) (k : K (.string (bs xs)) w) : semW P (convert s d (.slice a n cc)) K w := by
  have hown : w.ownsRow 0 t 1 (.slice a n cc) n cs := hs.own _ (List.mem_of_getElem? hi)
  refine cvsC hg (fun ad had q u hq => ?_) (fun ha => ?_) hC hn hsrc he hd k
  · subst had
    rcases hown.2 with ⟨h, _⟩ | ⟨g, _, _, h, _⟩
    · cases h
    · injection h with h1; injection h1 with h1; subst h1
      exact hown.cells (g := g) rfl q u hq
  · subst ha
    rcases hown.2 with ⟨_, h⟩ | ⟨g, _, _, h, _⟩
    · exact List.eq_nil_of_length_eq_zero (by omega)
    · cases h
theorem cvsI (hg : Good P T) (hs : St c I L w) {s d e n cc : Nat} {a : Option Addr} {xs : List UInt8} {K : Value → World → Prop} (h : RdL I 1 RdU (.slice a n cc) xs)
    (hsrc : (tat T s).d = .slice e) (he : (tat T e).d = .int .u8) (hd : (tat T d).d = .str) (k : K (.string (bs xs)) w) : semW P (convert s d (.slice a n cc)) K w := by
  obtain ⟨cs, ⟨hl, a', c', he', hc, h4⟩, hC⟩ := h
  injection he' with e1 e2 e3
  subst e1; subst e2; subst e3
  refine cvsC hg (fun ad had q u hq => ?_) (fun ha => ?_) hC rfl hsrc he hd k
  · rcases h4 with h4 | ⟨ad', h5, h6⟩
    · rw [h4] at hl; simp at hl; subst hl; simp at hq
    · rw [had] at h5; cases h5; exact h6 w hs.im q u hq
  · rcases h4 with h4 | ⟨ad', h5, h6⟩
    · exact List.eq_nil_of_length_eq_zero h4
    · rw [ha] at h5; cases h5
/-- unsafe.SliceData of a row: where there is a byte, the row's own place. -/
def DatA (a : Option Addr) (n : Nat) (q : Option Addr) : Prop := n = 0 ∨ q = a
theorem uSD (hg : Good P T) (i : Nat) (hs : St c I L w) {a : Option Addr} {n cc t rt e : Nat} {cs : List Value} {ts : Array TypeId} {K : Value → World → Prop} (hi : L[i]? = some (.row (.slice a n cc) t 1 n cs)) (hrt : (tat T rt).d = .ptr e)
    (k : ∀ (q : Option Addr) w', St c I L w' → DatA a n q → K (.pointer q) w') : semW P (Builtin.unsafeSliceData_ ts rt ⟨[.slice a n cc]⟩) K w := by
  have hown : w.ownsRow 0 t 1 (.slice a n cc) n cs := hs.own _ (List.mem_of_getElem? hi)
  rcases hown.2 with ⟨h, hn⟩ | ⟨g, cap, cur, h, _, hh, hnc, _⟩
  · injection h with h1 h2 h3
    subst h1
    exact semW_mk (Lib.run_unsafeSliceData_nil w ts rt n cc) (k none w hs (.inr rfl))
  · injection h with h1 h2 h3
    subst h1; subst h3
    by_cases hc : cc = 0
    · subst hc
      have hsh : w.shape? g = some (t, cur.size) := by simp [World.shape?, hh]
      exact semW_mk (Lib.run_unsafeSliceData_zero w ts rt e (hg.ptr hrt) ⟨g, 0, none⟩ n _ hsh) (k _ _ (hs.quiet (Ch.alloc w _)) (.inl (by omega)))
    · exact semW_mk (Lib.run_unsafeSliceData_row w ts rt ⟨g, 0, none⟩ n cc hc) (k _ w hs (.inr rfl))
theorem Ch.freeze (w : World) (g n : Nat) : Ch (fun j => j = g) w (w.freeze ⟨g, 0, none⟩ n) := by
  unfold World.freeze
  split
  · exact Ch.refl _ _
  · refine ⟨rfl, rfl, rfl, by simp, fun j hj hne => ?_⟩
    show (w.heap.modify g _)[j]? = w.heap[j]?
    rw [Array.getElem?_modify, if_neg (Ne.symm hne)]
theorem uStr (hg : Good P T) (i : Nat) (hs : St c I L w) {a q : Option Addr} {n cc rt pt it e : Nat} {cs : List Value} {xs : List UInt8} {K : Value → World → Prop} (hi : L[i]? = some (.row (.slice a n cc) e 1 n cs)) (hC : RdC 1 RdU cs xs) (hn : n = xs.length) (hq : DatA a n q)
    (hpt : (tat T pt).d = .ptr e) (hce : P.cellsOf e = 1) (hnm : xs.length ≤ 100000000000)
    (k : ∀ w', St c I (L.eraseIdx i) w' → K (.string (bs xs)) w') : semW P (Builtin.unsafeString_ #[pt, it] rt ⟨[.pointer q, .int .i64 ((n : Nat) : Int)]⟩) K w := by
  have hown : w.ownsRow 0 e 1 (.slice a n cc) n cs := hs.own _ (List.mem_of_getElem? hi)
  subst hn
  by_cases h0 : xs = []
  · subst h0
    exact semW_mk (Lib.run_unsafeString_none w pt it rt q) (k w (hs.drop i))
  · have hpos := List.length_pos_iff.2 h0
    obtain rfl : q = a := by
      rcases hq with h | h
      · omega
      · exact h
    obtain ⟨g, cap, cur, he, hh, hle, hsz, ht⟩ := row_addr hown hpos
    injection he with e1 e2 e3
    subst e1
    have hsh : w.shape? g = some (e, cur.size) := by simp [World.shape?, hh]
    have hcell : ∀ j x, xs[j]? = some x → w.cell? ((⟨g, 0, none⟩ : Addr).add j) = some (.int .u8 ((x.toNat : Nat) : Int)) := by
      intro j x hj
      refine hown.cells (g := g) rfl j _ ?_
      rw [hC.bytesEq]; simp [bC, hj]
    have hr := Lib.run_unsafeString_row (P := P) w pt it rt e (hg.ptr hpt) hce g cur.size hsh xs h0 (by simpa using hsz) (by omega) hcell
    refine semW_mk hr (k _ ?_)
    have hfr : Ch (Ent.foot (.row (.slice (some ⟨g, 0, none⟩) xs.length cc) e 1 xs.length cs)) w (w.freeze ⟨g, 0, none⟩ xs.length) := (Ch.freeze w g xs.length).mono fun j _ hj => by show some j = some g; rw [hj]
    have hup := hs.upd hi (x' := .row (.slice none 0 0) 0 0 0 []) hfr ⟨rfl, .inl ⟨rfl, rfl⟩⟩ (fun b hb => by simp [Ent.foot, Value.ownBlock] at hb)
    have h2 := hup.drop i
    rwa [List.eraseIdx_set_eq] at h2
/-- '==' of two addresses that are the same one. -/
theorem eqPs (hg : Good P T) {op : BinOp} {t e : Nat} {x y : Operand} {ad : Addr} {K : Value → World → Prop} (hop : op = .eql ∨ op = .neq) (ht : (tat T t).d = .ptr e) (hsz : (match sizeOf? T e with | some n => !Nat.beq n 0 | none => false) = true) (k : K (.bool (match op with | .eql => true | _ => false)) w) :
    semW P (do eqGuard op t x y (.pointer (some ad)) (.pointer (some ad)); binOp op t (.pointer (some ad)) (.pointer (some ad))) K w := by
  split at hsz
  · rename_i n hn
    have hs := run_sizeOf (w := w) hg hn
    have hne : n ≠ 0 := by rintro rfl; simp at hsz
    have heq : (Op.equal t (.pointer (some ad)) (.pointer (some ad))).run P w = .ok true w := by
      suffices hh : ∀ n, (Op.equalIn (n + 1) t (.pointer (some ad)) (.pointer (some ad))).run P w = .ok true w from hh 9999
      intro n
      simp only [Op.equalIn, Sem.run_bind, run_underlying (hg.ptr ht), Result.andThen_ok, hs]
      rw [if_pos hne]
      exact run_sameAddr_same w ad
    rcases hop with rfl | rfl
    · refine semW_mk ?_ k
      simp [eqGuard, binOp, heq]
    · refine semW_mk ?_ k
      simp [eqGuard, binOp, heq]
  · cases hsz
end
end B
end Go.Proofs.YtdbihpobfcbmeaaDoor
