/- Further rules of this seat: rows that are made, cells by their number; and the library's contracts in the rules' form. -/
import Derived.Test.YtdbihpobfcbmeaaDoorBC
import Derived.Deep.OwnRows
import Derived.IntWalk
set_option linter.unusedVariables false
set_option linter.unusedSimpArgs false
namespace Go.Proofs.YtdbihpobfcbmeaaDoor
namespace B
open Go Go.RowKit

theorem w64 {n : Int} (h0 : -9223372036854775808 ≤ n) (h1 : n ≤ 9223372036854775807) : IntKind.i64.wrap n = n := by
  rw [IntKind.wrap_i64]; omega
theorem wAdd {a b : Nat} (h : a + b ≤ 9223372036854775807) : IntKind.i64.wrap ((a : Int) + (b : Int)) = ((a + b : Nat) : Int) := by rw [w64 (by omega) (by omega)]; omega
theorem wSub {a b : Nat} (h : b ≤ a) (h' : a ≤ 9223372036854775807) : IntKind.i64.wrap ((a : Int) - (b : Int)) = ((a - b : Nat) : Int) := by rw [w64 (by omega) (by omega)]; omega
theorem vI {k : IntKind} {m n : Int} (h : m = n) : Value.int k m = .int k n := by rw [h]
theorem vS {m n : List UInt8} (h : m = n) : Value.string (bs m) = .string (bs n) := by rw [h]
theorem vB {m n : Bool} (h : m = n) : Value.bool m = .bool n := by rw [h]
theorem ce {α : Type} {a b : α} {l m : List α} (h : a = b) (h' : l = m) : a :: l = b :: m := by rw [h, h']
theorem drop_cons {α : Type} (l : List α) (i : Nat) (d : α) (h : i < l.length) : l.drop i = l.getD i d :: l.drop (i + 1) := by
  rw [List.getD_eq_getElem?_getD, List.getElem?_eq_getElem h, Option.getD_some, List.drop_eq_getElem_cons h]
theorem bs_inj {a b : List UInt8} : bs a = bs b ↔ a = b := ⟨fun h => by have := congrArg tl h; simpa [tl_bs] using this, fun h => by rw [h]⟩
theorem bs_data (b : ByteArray) : b = bs b.data.toList := by cases b with | mk d => cases d; rfl

def isV : Fa → Bool | .v _ => true | .s _ => false
def onlyS : Nat → List Fa → Bool
  | _, [] => true
  | 0, _ :: r => r.all isV
  | m + 1, x :: r => isV x && onlyS m r
theorem allV {f : Value → World → Prop} : ∀ {F : List Fa} {j : Nat}, F.all isV = true → F[j]? = some (.s f) → False
  | [], j, _, h => by simp at h
  | x :: r, 0, h, hf => by simp at hf; subst hf; simp [isV] at h
  | x :: r, j + 1, h, hf => by simp at hf; exact allV (by rw [List.all_cons, Bool.and_eq_true] at h; exact h.2) hf
theorem lastS {f : Value → World → Prop} : ∀ {m : Nat} {F : List Fa} {j : Nat}, onlyS m F = true → F[j]? = some (.s f) → j = m
  | _, [], j, _, h => by simp at h
  | 0, x :: r, 0, h, hf => rfl
  | 0, x :: r, j + 1, h, hf => by simp at hf; exact (allV h hf).elim
  | m + 1, x :: r, 0, h, hf => by simp at hf; subst hf; simp [onlyS, isV] at h
  | m + 1, x :: r, j + 1, h, hf => by simp at hf; rw [lastS (by simp only [onlyS, Bool.and_eq_true] at h; exact h.2) hf]
section
variable {P : Program} {T : TT} {c : Cx} {I J : Im} {L : List Ent} {w w' : World}
theorem cell_at {b off i : Nat} {cs : List Value} {t : Nat} {fr : Nat × Nat} {v : Value} (hb : w.heap[b]? = some (.cells ⟨cs⟩ t fr)) (hv : cs[off + i]? = some v) : w.cell? ((⟨b, off, none⟩ : Addr).add i) = some v := by
  rw [add_at]; simp [World.cell?, hb, hv]
theorem ldi (j : Nat) (hs : St c I L w) {b off i x : Nat} {cs : List Value} {t : Nat} {fr : Nat × Nat} {v : Value} {K : List Value → World → Prop} (hi : L[j]? = some (.blk b (.cells ⟨cs⟩ t fr)))
    (hx : x = i) (hv : cs[off + i]? = some v) (k : K [v] w) : loadW ((⟨b, off, none⟩ : Addr).add x) 1 K w := by
  subst hx
  exact ldc1 (cell_at (hs.own _ (List.mem_of_getElem? hi)) hv) k
theorem stoi (j : Nat) (hs : St c I L w) {b off i x : Nat} {cs : List Value} {t : Nat} {v : Value} {K : World → Prop} (hi : L[j]? = some (.blk b (.cells ⟨cs⟩ t (0, 0))))
    (hx : x = i) (h1 : Value.oneCell' v = true) (h2 : off + i < cs.length) (k : ∀ w', St c I (L.set j (.blk b (.cells ⟨cs.set (off + i) v⟩ t (0, 0)))) w' → K w') : storeW ((⟨b, off, none⟩ : Addr).add x) [v] K w := by
  subst hx
  rw [add_at]
  exact sto j hs hi (by simp [h1]) (by simp; omega) k
theorem st_at {b off i x : Nat} {cs : List Value} {t : Nat} {v : Value} {K : World → Prop} (hb : w.heap[b]? = some (.cells ⟨cs⟩ t (0, 0))) (hx : x = i) (h1 : Value.oneCell' v = true) (h2 : off + i < cs.length)
    (k : ∀ w', Ch (fun j => j = b) w w' → w'.heap[b]? = some (.cells ⟨cs.set (off + i) v⟩ t (0, 0)) → K w') : storeW ((⟨b, off, none⟩ : Addr).add x) [v] K w := by
  subst hx
  obtain ⟨h3, h4⟩ := setCells_at b (off + x) t (0, 0) [v] 0 cs w hb
  rw [add_at]
  unfold storeW
  refine ⟨fun u hu => by simp at hu; rw [hu]; exact h1, fun j hj => ?_, k _ h4 h3⟩
  have : j = 0 := by simpa using hj
  subst this
  rw [add_at]
  refine ⟨⟨cs[off + x], ?_⟩, by simp [World.frozen?, hb]⟩
  simp [World.cell?, hb, List.getElem?_eq_getElem h2]
theorem mks (hg : Good P T) (hs : St c I L w) {t e : Nat} {z : Value} {kl kc : IntKind} {x y : Int} {n : Nat} {K : Value → World → Prop} (ht : (tat T t).d = .slice e) (hz : zeroOf T e = [z]) (hsz : sizeOf? T e = some 1)
    (hby : Nat.ble (tat T e).bytes 1024 = true) (hx : x = n) (hy : y = n) (hn : n ≤ 100000000000)
    (k : ∀ b w', St c I (.blk b (.cells ⟨List.replicate n z⟩ e) :: L) w' → K (.slice (some ⟨b, 0, none⟩) n n) w') : semW P (Instr.makeSlice t (.int kl x) (.int kc y)) K w := by
  obtain ⟨f, hf, hfs, hfb⟩ := sizeOf?_out hg hsz
  obtain ⟨z', hzv, hzc, _⟩ := zeroOf_out (w := w) hg (t := e) (by rw [hz]; simp)
  have hfz : f.zero = some z' := by
    simp only [zeroValue, typeInfo, Sem.run_bind, run_program, Result.andThen_ok, hf, Sem.run_pure] at hzv
    cases hh : f.zero with
    | none => rw [hh] at hzv; simp at hzv
    | some z' => rw [hh] at hzv; simp at hzv; rw [hzv]
  subst hx; subst hy
  have hzs : z'.cells = #[z] := by rw [hz] at hzc; cases hcc : z'.cells; simp_all
  have hr := run_make (P := P) w t e f z' (hg.slice ht) hf hfz kl kc n n (by omega) (Int.le_refl _) (by
    rw [hfb]
    have h1 := Nat.le_of_ble_eq_true hby
    have h2 : (tat T e).bytes * n ≤ 1024 * n := Nat.mul_le_mul_right _ h1
    have h3 : (((tat T e).bytes * n : Nat) : Int) ≤ 281474976710656 := by omega
    rwa [Int.natCast_mul] at h3) (by omega)
  simp only [Int.toNat_natCast, hfs, Nat.mul_one, hzs] at hr
  refine semW_mk hr (k _ _ (hs.push (Ch.alloc w _) (x' := .blk w.heap.size (.cells ⟨List.replicate n z⟩ e)) ?_ (by rintro b rfl; exact Nat.le_refl _)))
  have : madeCells #[z] n = ⟨List.replicate n z⟩ := by
    apply Array.ext
    · simp [madeCells]
    · intro i h1 h2; simp [madeCells, Nat.mod_one]
  simp only [Ent.holds]
  rw [← this]
  exact heap_alloc_new w _
end

section
variable {α : Type} {I : Im} {sz : Nat} {R : List Value → α → Prop} {v : Value} {xs : List α} {w : World}
/-- A part of a slice. -/
theorem RdL.cut {a : Option Addr} {n c : Nat} (h : RdL I sz R (.slice a n c) xs) {l u m : Nat} (h1 : l ≤ u) (h2 : u ≤ n) (h3 : u ≤ m) (h4 : m ≤ c) :
    RdL I sz R (.slice (cutA a l m sz) (u - l) (m - l)) ((xs.take u).drop l) := by
  obtain ⟨cs, ⟨hl, a', c', he, hc, h5⟩, hC⟩ := h
  injection he with e1 e2 e3
  subst e1; subst e2; subst e3
  have hm : u * sz ≤ xs.length * sz := Nat.mul_le_mul_right _ h2
  have hm2 : l * sz ≤ u * sz := Nat.mul_le_mul_right _ h1
  have hlen : ((xs.take u).drop l).length = u - l := by simp; omega
  have hcl : ((cs.take (u * sz)).drop (l * sz)).length = (u - l) * sz := by rw [List.length_drop, List.length_take, hl, Nat.sub_mul]; omega
  refine ⟨(cs.take (u * sz)).drop (l * sz), ?_, ?_⟩
  · refine ⟨by rw [hcl, hlen], _, m - l, by rw [hlen], by rw [hlen]; omega, ?_⟩
    rcases h5 with h5 | ⟨ad, rfl, hcell⟩
    · left; omega
    · by_cases h0 : u - l = 0
      · left; rw [hlen]; exact h0
      · right
        refine ⟨ad.add (l * sz), by simp only [cutA, if_neg (show ¬ m = l by omega), Option.map_some], fun w hw i y hi => ?_⟩
        rw [Addr.add_add]
        refine hcell w hw _ y ?_
        rw [List.getElem?_drop, List.getElem?_take] at hi
        split at hi
        · exact hi
        · cases hi
  · refine ⟨by rw [hcl, hlen], fun j x hj => ?_⟩
    rw [List.getElem?_drop, List.getElem?_take] at hj
    split at hj
    · rename_i hlt
      have hc2 := hC.2 _ _ hj
      have h6 : (l + j + 1) * sz ≤ u * sz := Nat.mul_le_mul_right _ hlt
      rw [Nat.add_mul, Nat.add_mul, Nat.one_mul] at h6
      rw [List.drop_take, List.drop_take, List.take_take, List.drop_drop, Nat.min_eq_left (by omega), ← Nat.add_mul]
      exact hc2
    · cases hj
/-- An element's place. -/
theorem idr {a : Option Addr} {n c : Nat} {i : Int} {K : Value → Prop} (h : RdL I sz R (.slice a n c) xs) (hI : Imm I w) (h0 : 0 ≤ i) (h1 : i < n)
    (k : ∀ (ad : Addr) x r, xs[i.toNat]? = some x → R r x → r.length = sz → (∀ j u, r[j]? = some u → w.cell? ((ad.add (i.toNat * sz) : Addr).add j) = some u) → K (.pointer (some (ad.add (i.toNat * sz))))) : idxW a n i sz K := by
  obtain ⟨ad, x, r, ha, hx, hr, hl, hc⟩ := h.at hI i h0 h1
  exact idx ha h0 h1 (k ad x r hx hr hl hc)
end
end B
end Go.Proofs.YtdbihpobfcbmeaaDoor
