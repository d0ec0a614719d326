/- The reading of a law's arguments, by their types: whatever is told of a value of a type, its cells read as a plain value whose measure the row's bulk bounds and whose numbers lie in their kinds. -/
import Derived.Test.YtdbihpobfcbmeaaDoorG1
import Derived.Test.YtdbihpobfcbmeaaDoorBH
set_option linter.unusedVariables false
set_option linter.unusedSimpArgs false
namespace Go.Proofs.YtdbihpobfcbmeaaDoor
namespace B
open Go Go.RowKit Go.ChangeShapes Go.WideShapes
section
variable {H : Type} {enc : TypeId × Value → H} {P : Program} {W : World} {sp : Nat → Bool} {held : Bool} {α : Type}
/-- Cells that are told as a value of type 't' read as a plain 'x'. -/
def RdT (enc : TypeId × Value → H) (P : Program) (W : World) (sp : Nat → Bool) (held : Bool) (t : TypeId) (R : List Value → α → Prop) (μ : α → Nat) (ok : α → Prop) : Prop :=
  ∀ (fuel : Nat) (cs : List Value) (y : DataW H × List MemPlace), DataW.trod enc P W 0 sp held fuel t cs = some y → ∃ x, R cs x ∧ μ x ≤ Rows.uptoBulk y.1 ∧ ok x
def okI (k : IntKind) (n : Int) : Prop := (Lit.int k n).wf = true
def mS (s : List UInt8) : Nat := s.length + 1
def okS (s : List UInt8) : Prop := s.length ≤ maxLen
def mL (μ : α → Nat) (xs : List α) : Nat := (xs.map μ).sum
def okL (ok : α → Prop) (xs : List α) : Prop := ∀ x ∈ xs, ok x
theorem okI64 {n : Int} (h : okI .i64 n) : -9223372036854775808 ≤ n ∧ n ≤ 9223372036854775807 := by
  simp only [okI, Lit.wf, Bool.and_eq_true, decide_eq_true_eq] at h; exact h
theorem okU64 {n : Int} (h : okI .u64 n) : 0 ≤ n ∧ n ≤ 18446744073709551615 := by
  simp only [okI, Lit.wf, Bool.and_eq_true, decide_eq_true_eq] at h; exact h
theorem okU32 {n : Int} (h : okI .u32 n) : 0 ≤ n ∧ n ≤ 4294967295 := by
  simp only [okI, Lit.wf, Bool.and_eq_true, decide_eq_true_eq] at h; exact h
theorem okU16 {n : Int} (h : okI .u16 n) : 0 ≤ n ∧ n ≤ 65535 := by
  simp only [okI, Lit.wf, Bool.and_eq_true, decide_eq_true_eq] at h; exact h
theorem okU8 {n : Int} (h : okI .u8 n) : 0 ≤ n ∧ n ≤ 255 := by
  simp only [okI, Lit.wf, Bool.and_eq_true, decide_eq_true_eq] at h; exact h
theorem okI32 {n : Int} (h : okI .i32 n) : -2147483648 ≤ n ∧ n ≤ 2147483647 := by
  simp only [okI, Lit.wf, Bool.and_eq_true, decide_eq_true_eq] at h; exact h
theorem rdT_int {t : TypeId} {k : IntKind} (ht : P.underlying t = some (.int k)) : RdT enc P W sp held t (RdZ k) (fun _ => 0) (okI k) := by
  intro fuel cs y h
  obtain ⟨n, rfl, hw⟩ := rd_int ht h
  exact ⟨n, rfl, Nat.zero_le _, hw⟩
theorem rdT_u8 {t : TypeId} (ht : P.underlying t = some (.int .u8)) : RdT enc P W sp held t RdU (fun _ => 0) (fun _ => True) := by
  intro fuel cs y h
  obtain ⟨n, rfl, hw⟩ := rd_int ht h
  have hb := okU8 hw
  refine ⟨UInt8.ofNat n.toNat, ?_, Nat.zero_le _, trivial⟩
  show [Value.int .u8 n] = [.int .u8 (((UInt8.ofNat n.toNat).toNat : Nat) : Int)]
  have : ((UInt8.ofNat n.toNat).toNat : Int) = n := by
    rw [UInt8.toNat_ofNat']; omega
  rw [this]
theorem rdT_bool {t : TypeId} (ht : P.underlying t = some .bool) : RdT enc P W sp held t RdB (fun _ => 0) (fun _ => True) := by
  intro fuel cs y h
  obtain ⟨b, rfl, _⟩ := DataW.trod_bool ht h
  exact ⟨b, rfl, Nat.zero_le _, trivial⟩
theorem rdT_str {t : TypeId} (ht : P.underlying t = some .string) : RdT enc P W sp held t RdS mS okS := by
  intro fuel cs y h
  obtain ⟨s, rfl, rfl, hs⟩ := DataW.trod_string ht h
  exact ⟨s.data.toList, by rw [RdS, ← bs_data], by simp [Rows.uptoBulk, mS], by simpa [okS] using hs⟩
theorem rdC_split {sz : Nat} {R : List Value → α → Prop} {ok : α → Prop} {I : Im} {v : Value} {xs : List α} (h : RdL I sz (fun cs x => R cs x ∧ ok x) v xs) : RdL I sz R v xs ∧ okL ok xs := by
  obtain ⟨cs, h1, h2⟩ := h
  refine ⟨⟨cs, h1, h2.mono fun r x _ h => h.1⟩, ?_⟩
  intro x hx
  obtain ⟨i, hi, rfl⟩ := List.getElem_of_mem hx
  exact (h2.2 i _ (List.getElem?_eq_getElem hi)).2
theorem rdT_slice {t e sz : Nat} {R : List Value → α → Prop} {μ : α → Nat} {ok : α → Prop} (ht : P.underlying t = some (.slice e)) (hc : P.cellsOf e = sz) (hR : RdT enc P W sp held e R μ ok) :
    RdT enc P W sp held t (RdV (ofW W) sz R) (mL μ) (okL ok) := by
  intro fuel cs y h
  obtain ⟨v, xs, rfl, hr, hb⟩ := rd_slice (R := fun cs x => R cs x ∧ ok x) (μ := μ) ht hc (fun n _ cs y hy _ => by obtain ⟨x, h1, h2, h3⟩ := hR n cs y hy; exact ⟨x, ⟨h1, h3⟩, h2⟩) h
  obtain ⟨h1, h2⟩ := rdC_split hr
  exact ⟨xs, ⟨v, rfl, h1⟩, hb, h2⟩
/-- A struct's fields, each with its place, its size and its type. -/
theorem rd_fields {t n : Nat} {fs : Array Field} {L : List (Nat × Nat × TypeId)} {fuel : Nat} {cs : List Value} {y : DataW H × List MemPlace} (hu : P.underlying t = some (.struct fs)) (hfs : fs.toList.map (fun f => (f.offset, f.type)) = L.map (fun x => (x.1, x.2.2)))
    (hL : L.all (fun x => P.cellsOf x.2.2 == x.2.1) = true) (hc : P.cellsOf t = n) (h : DataW.trod enc P W 0 sp held fuel t cs = some y) :
    ∃ (m : Nat) (ys : List (DataW H × List MemPlace)), m < fuel ∧ y.1 = .agg (ys.map Prod.fst) ∧ ys.length = L.length ∧ cs.length = n ∧ ∀ (i : Nat) (x : Nat × Nat × TypeId), L[i]? = some x → ∃ yi, ys[i]? = some yi ∧ DataW.trod enc P W 0 sp held m x.2.2 ((cs.drop x.1).take x.2.1) = some yi := by
  obtain ⟨xs, m, rfl, rfl, hl, hlen, hf⟩ := DataW.trod_struct hu h
  rw [hc] at hl
  have hll : fs.size = L.length := by have := congrArg List.length hfs; simpa using this
  refine ⟨m, xs, by omega, rfl, by rw [hlen]; omega, hl, ?_⟩
  intro i x hx
  have hi : i < L.length := by rw [List.getElem?_eq_some_iff] at hx; exact hx.1
  have h2 := congrArg (fun l => l[i]?) hfs
  simp only [List.getElem?_map, hx, Option.map_some] at h2
  cases hfi : fs.toList[i]? with
  | none => rw [hfi] at h2; cases h2
  | some f =>
    rw [hfi] at h2
    simp only [Option.map_some, Option.some.injEq, Prod.mk.injEq] at h2
    have g := hf i f (by rw [← Array.getElem?_toList]; exact hfi)
    have hs : P.cellsOf x.2.2 = x.2.1 := by
      have := List.all_eq_true.1 hL x (List.mem_of_getElem? hx)
      simpa using this
    rw [h2.1, h2.2, hs] at g
    have hxi : i < xs.length := by rw [hlen]; omega
    exact ⟨xs[i], List.getElem?_eq_getElem hxi, by rw [g, List.getElem?_eq_getElem hxi]⟩
theorem cons_of {α : Type} {l : List α} {n : Nat} (h : l.length = n + 1) : ∃ x r, l = x :: r ∧ r.length = n := by
  cases l with
  | nil => cases h
  | cons x r => exact ⟨x, r, rfl, Nat.succ.inj h⟩
theorem RdV.out {I : Im} {sz : Nat} {R : List Value → α → Prop} {cs : List Value} {xs : List α} (h : RdV I sz R cs xs) : ∃ a c, cs = [.slice a xs.length c] ∧ RdL I sz R (.slice a xs.length c) xs := by
  obtain ⟨v, rfl, h⟩ := h
  obtain ⟨a, c, rfl, _⟩ := h.len
  exact ⟨a, c, rfl, h⟩
theorem bulk_agg' (ys : List (DataW H × List MemPlace)) : Rows.uptoBulk (.agg (ys.map Prod.fst) : DataW H) = Rows.uptoBulkAll (ys.map Prod.fst) + 1 := rfl
theorem bulk_cons (d : DataW H) (l : List (DataW H)) : Rows.uptoBulkAll (d :: l) = Rows.uptoBulk d + Rows.uptoBulkAll l := rfl
end
/-- A node's numbers lie in their kinds; so do those of its parts. -/
inductive OkN : Nd → Prop
  | mk {x : Nd} : okI .i64 x.kind → okI .i64 x.n → okS x.s → okL okS x.k → (∀ y ∈ x.l, OkN y) → OkN x
theorem OkN.out {x : Nd} (h : OkN x) : okI .i64 x.kind ∧ okI .i64 x.n ∧ okS x.s ∧ okL okS x.k ∧ okL OkN x.l := by
  cases h with
  | mk a b c d e => exact ⟨a, b, c, d, e⟩
theorem rdT_node {H : Type} {enc : TypeId × Value → H} {W : World} {sp : Nat → Bool} {held : Bool} : RdT enc Tryd.prog W sp held 30 (RdN (ofW W)) nb OkN := by
  intro fuel
  induction fuel using Nat.strongRecOn with
  | _ fuel ih =>
    intro cs y h
    obtain ⟨fs, hu, hfs, _⟩ := good.struct (t := 30) rfl
    have hc5 : Tryd.prog.cellsOf 30 = 5 := by kernel_rfl
    obtain ⟨n, v0, v1, v2, v3, v4, y0, y1, y2, y3, y4, hn, rfl, hy, g0, g1, g2, g3, g4⟩ := rd_struct5 hu hfs hc5 (by kernel_rfl) (by kernel_rfl) (by kernel_rfl) (by kernel_rfl) (by kernel_rfl) h
    obtain ⟨n0, e0, _, k0⟩ := rdT_int (good.int (t := 3) rfl) _ _ _ g0
    obtain ⟨n1, e1, _, k1⟩ := rdT_int (good.int (t := 2) rfl) _ _ _ g1
    obtain ⟨s2, e2, b2, k2⟩ := rdT_str (good.str (t := 9) rfl) _ _ _ g2
    obtain ⟨k3, ⟨w3, e3, r3⟩, b3, k3'⟩ := rdT_slice (good.slice (t := 24) rfl) (by kernel_rfl) (rdT_str (good.str (t := 9) rfl)) _ _ _ g3
    obtain ⟨w4, l4, e4, r4, b4⟩ := rd_slice (R := fun cs x => RdN (ofW W) cs x ∧ OkN x) (μ := nb) (good.slice (t := 27) rfl) hc5 (fun m hm cs y hy _ => by obtain ⟨x, h1, h2, h3⟩ := ih m (by omega) cs y hy; exact ⟨x, ⟨h1, h3⟩, h2⟩) g4
    obtain ⟨r4, k4⟩ := rdC_split r4
    simp only [RdZ, RdS, List.cons.injEq, and_true] at e0 e1 e2 e3 e4
    subst e0; subst e1; subst e2; subst e3; subst e4
    refine ⟨.mk n0 n1 s2 k3 l4, RdN.in r3 r4, ?_, .mk k0 k1 k2 k3' k4⟩
    rw [hy, bulk_agg]
    simp only [nb_eq, Nd.s, Nd.k, Nd.l, ksum_sum, nbs_sum]
    have b3 : (k3.map fun x => x.length + 1).sum ≤ Rows.uptoBulk y3.1 := b3
    simp only [mS] at b2
    have hu0 : ∀ d : DataW H, 1 ≤ Rows.uptoBulk d := fun d => by cases d <;> (try rename_i l; cases l) <;> simp [Rows.uptoBulk]
    have := hu0 y0.1
    omega
end B
end Go.Proofs.YtdbihpobfcbmeaaDoor
