/- Trees in memory, and how an argument's reading gives what its cells read as. -/
import Derived.Test.YtdbihpobfcbmeaaDoorBE
import Derived.Test.YtdbihpobfcbmeaaDoorRows
set_option linter.unusedVariables false
set_option linter.unusedSimpArgs false
namespace Go.Proofs.YtdbihpobfcbmeaaDoor
namespace B
open Go Go.RowKit

/-! ### A node -/
inductive Nd where | mk (kind n : Int) (s : List UInt8) (k : List (List UInt8)) (l : List Nd)
def Nd.kind : Nd → Int | .mk a _ _ _ _ => a
def Nd.n : Nd → Int | .mk _ a _ _ _ => a
def Nd.s : Nd → List UInt8 | .mk _ _ a _ _ => a
def Nd.k : Nd → List (List UInt8) | .mk _ _ _ a _ => a
def Nd.l : Nd → List Nd | .mk _ _ _ _ a => a
inductive RdN (I : Im) : List Value → Nd → Prop
  | mk {kind n : Int} {s : List UInt8} {vk vl : Value} {k : List (List UInt8)} {l : List Nd} (cs : List Value) (hk : RdL I 1 RdS vk k) (hr : RowI I 5 l.length vl cs) (hc : cs.length = l.length * 5)
      (h : ∀ (j : Nat) (x : Nd), l[j]? = some x → RdN I ((cs.drop (j * 5)).take 5) x) : RdN I [.int .i64 kind, .int .i64 n, .string (bs s), vk, vl] (.mk kind n s k l)
theorem RdN.out {I : Im} {cs : List Value} {x : Nd} (h : RdN I cs x) : ∃ vk vl, cs = [.int .i64 x.kind, .int .i64 x.n, .string (bs x.s), vk, vl] ∧ RdL I 1 RdS vk x.k ∧ RdL I 5 (RdN I) vl x.l := by
  cases h with
  | mk cs hk hr hc h => exact ⟨_, _, rfl, hk, cs, hr, hc, h⟩
theorem RdN.in {I : Im} {kind n : Int} {s : List UInt8} {vk vl : Value} {k : List (List UInt8)} {l : List Nd} (hk : RdL I 1 RdS vk k) (hl : RdL I 5 (RdN I) vl l) : RdN I [.int .i64 kind, .int .i64 n, .string (bs s), vk, vl] (.mk kind n s k l) := by
  obtain ⟨cs, h1, h2, h3⟩ := hl
  exact .mk cs hk h1 h2 h3
theorem RdN.up {I J : Im} (hl : Le I J) {cs : List Value} {x : Nd} (h : RdN I cs x) : RdN J cs x := by
  induction h with
  | mk cs hk hr hc _ ih => exact .mk cs (hk.up hl) (hr.mono hl) hc ih
theorem RdN.len {I : Im} {cs : List Value} {x : Nd} (h : RdN I cs x) : cs.length = 5 := by cases h; rfl
theorem Nd.eta (x : Nd) : Nd.mk x.kind x.n x.s x.k x.l = x := by cases x; rfl
mutual
def nb : Nd → Nat
  | .mk _ _ s k l => 1 + s.length + ksum k + nbs l
def nbs : List Nd → Nat
  | [] => 0
  | x :: r => nb x + nbs r
def ksum : List (List UInt8) → Nat
  | [] => 0
  | x :: r => x.length + 1 + ksum r
end
theorem nb_eq (x : Nd) : nb x = 1 + x.s.length + ksum x.k + nbs x.l := by cases x; simp [nb, Nd.s, Nd.k, Nd.l]
theorem nbs_sum (l : List Nd) : nbs l = (l.map nb).sum := by
  induction l with
  | nil => simp [nbs]
  | cons x r ih => simp [nbs, ih]
theorem ksum_sum (l : List (List UInt8)) : ksum l = (l.map fun x => x.length + 1).sum := by
  induction l with
  | nil => simp [ksum]
  | cons x r ih => simp [ksum, ih]
theorem nb_pos (x : Nd) : 0 < nb x := by rw [nb_eq]; omega
theorem sum_len {α : Type} {f : α → Nat} (hf : ∀ x, 0 < f x) : ∀ l : List α, l.length ≤ (l.map f).sum
  | [] => by simp
  | x :: r => by have := sum_len hf r; have := hf x; simp only [List.map_cons, List.sum_cons, List.length_cons]; omega
theorem sum_mem {α : Type} {f : α → Nat} : ∀ {l : List α} {x : α}, x ∈ l → f x ≤ (l.map f).sum
  | [], x, h => by simp at h
  | y :: r, x, h => by
    simp only [List.map_cons, List.sum_cons]
    rcases List.mem_cons.1 h with rfl | h
    · omega
    · have := sum_mem (f := f) h; omega
theorem nb_mem {x y : Nd} (h : y ∈ x.l) : nb y < nb x := by
  have := sum_mem (f := nb) h
  rw [nb_eq x, nbs_sum]; omega

/-! ### Readings -/
section
variable {H : Type} {enc : TypeId × Value → H} {P : Program} {W : World} {sp : Nat → Bool} {held : Bool}
theorem rd_row {α : Type} {sz : Nat} {R : List Value → α → Prop} {μ : α → Nat} {ad : Addr} {f : List Value → Option (DataW H × List MemPlace)} (els : List (DataW H × List MemPlace))
    (hR : ∀ cs y, f cs = some y → cs.length = sz → ∃ x, R cs x ∧ μ x ≤ Rows.uptoBulk y.1) : ∀ n : Nat, n ≤ els.length → (∀ i, i < n → (W.cells? 0 (ad.add (i * sz)) sz).bind f = els[i]?) →
    ∃ cs xs, xs.length = n ∧ RdC sz R cs xs ∧ (∀ i u, cs[i]? = some u → W.cell? (ad.add i) = some u) ∧ (xs.map μ).sum ≤ Rows.uptoBulkAll ((els.take n).map (·.1))
  | 0, _, _ => ⟨[], [], rfl, RdC.nil, fun i u h => by simp at h, by simp⟩
  | n + 1, hn, h => by
    obtain ⟨cs, xs, h1, h2, h3, h4⟩ := rd_row els hR n (by omega) (fun i hi => h i (by omega))
    have hlt : n < els.length := by omega
    have := h n (by omega)
    rw [List.getElem?_eq_getElem hlt, Option.bind_eq_some_iff] at this
    obtain ⟨d, hd, hf⟩ := this
    obtain ⟨_, hdl, hdc⟩ := World.cells?_some hd
    obtain ⟨x, hx, hm⟩ := hR d _ hf hdl
    refine ⟨cs ++ d, xs ++ [x], by simp [h1], h2.snoc hdl hx, fun i u hi => ?_, ?_⟩
    · have hcl := h2.1
      rw [h1] at hcl
      by_cases hlt2 : i < cs.length
      · rw [List.getElem?_append_left hlt2] at hi
        exact h3 i u hi
      · rw [List.getElem?_append_right (by omega)] at hi
        have h5 := (List.getElem?_eq_some_iff.1 hi).1
        have := hdc (i - cs.length) (by omega)
        rw [Addr.add_add, hcl, show n * sz + (i - n * sz) = i by omega] at this
        rw [this, ← hcl]; exact hi
    · rw [List.map_append, List.sum_append, List.take_succ_eq_append_getElem hlt, List.map_append]
      have : ∀ a b : List (DataW H), Rows.uptoBulkAll (a ++ b) = Rows.uptoBulkAll a + Rows.uptoBulkAll b := by
        intro a b
        induction a with
        | nil => simp [Rows.uptoBulkAll]
        | cons x r ih => simp [Rows.uptoBulkAll, ih]; omega
      rw [this]
      simp only [List.map_cons, List.map_nil, Rows.uptoBulkAll, List.sum_cons, List.sum_nil]
      omega
theorem rd_slice {α : Type} {t e sz : Nat} {R : List Value → α → Prop} {μ : α → Nat} {fuel : Nat} {cs : List Value} {y : DataW H × List MemPlace} (ht : P.underlying t = some (.slice e)) (hc : P.cellsOf e = sz)
    (hR : ∀ n, n < fuel → ∀ cs y, DataW.trod enc P W 0 sp held n e cs = some y → cs.length = sz → ∃ x, R cs x ∧ μ x ≤ Rows.uptoBulk y.1) (h : DataW.trod enc P W 0 sp held fuel t cs = some y) :
    ∃ v xs, cs = [v] ∧ RdL (ofW W) sz R v xs ∧ (xs.map μ).sum ≤ Rows.uptoBulk y.1 := by
  rcases DataW.trod_slice ht h with ⟨rfl, rfl⟩ | ⟨a, len, cap, elems, rest, n, hfu, rfl, rfl, hb, hl, hm, hlen, hel, hsp, hns⟩
  · exact ⟨_, [], rfl, RdL.nil 0 none, by simp⟩
  · rw [hc] at hel
    obtain ⟨ds, xs, h1, h2, h3, h4⟩ := rd_row (W := W) (ad := a) (μ := μ) (f := DataW.trod enc P W 0 sp held n e) elems (hR n (by omega)) len (by omega) hel
    refine ⟨_, xs, rfl, ⟨ds, ⟨h2.1, _, cap, by rw [h1], by omega, ?_⟩, h2⟩, ?_⟩
    · by_cases h0 : xs.length = 0
      · exact .inl h0
      · refine .inr ⟨a, rfl, fun w hw i u hi => ?_⟩
        have := h3 i u hi
        have hh : w.heap[a.block]? = W.heap[a.block]? := by
          cases ho : W.heap[a.block]? with
          | none =>
            have h0' := h3 i u hi
            have : (a.add i).block = a.block := by unfold Addr.add; split <;> rfl
            rw [World.cell?.eq_1, this, ho] at h0'
            simp at h0'
          | some o => exact hw _ _ ho
        rw [← this]
        refine World.cell?_of_block (w := W) ?_
        have : (a.add i).block = a.block := by unfold Addr.add; split <;> rfl
        rw [this]; exact hh
    · have : (elems.take len) = elems := List.take_of_length_le (by omega)
      rw [this] at h4
      simp only [Rows.uptoBulk]
      omega
theorem rd_str {t : Nat} {fuel : Nat} {cs : List Value} {y : DataW H × List MemPlace} (ht : P.underlying t = some .string) (h : DataW.trod enc P W 0 sp held fuel t cs = some y) : ∃ s, cs = [.string (bs s)] ∧ s.length + 1 ≤ Rows.uptoBulk y.1 := by
  obtain ⟨s, rfl, rfl, _⟩ := DataW.trod_string ht h
  exact ⟨s.data.toList, by rw [← bs_data], by simp [Rows.uptoBulk]⟩
theorem rd_int {t : Nat} {k : IntKind} {fuel : Nat} {cs : List Value} {y : DataW H × List MemPlace} (ht : P.underlying t = some (.int k)) (h : DataW.trod enc P W 0 sp held fuel t cs = some y) : ∃ n, cs = [.int k n] ∧ (Lit.int k n).wf = true := by
  obtain ⟨n, rfl, rfl, hw⟩ := DataW.trod_int ht h
  exact ⟨n, rfl, hw⟩
theorem rd_strs {t e : Nat} {fuel : Nat} {cs : List Value} {y : DataW H × List MemPlace} (ht : P.underlying t = some (.slice e)) (he : P.underlying e = some .string) (hc : P.cellsOf e = 1)
    (h : DataW.trod enc P W 0 sp held fuel t cs = some y) : ∃ v xs, cs = [v] ∧ RdL (ofW W) 1 RdS v xs ∧ (xs.map fun x => x.length + 1).sum ≤ Rows.uptoBulk y.1 :=
  rd_slice ht hc (fun n _ cs y hy _ => by obtain ⟨s, h1, h2⟩ := rd_str he hy; exact ⟨s, h1, h2⟩) h
theorem rd_struct5 {t t0 t1 t2 t3 t4 : Nat} {fs : Array Field} {fuel : Nat} {cs : List Value} {y : DataW H × List MemPlace} (hu : P.underlying t = some (.struct fs)) (hfs : fs.toList.map (fun f => (f.offset, f.type)) = [(0, t0), (1, t1), (2, t2), (3, t3), (4, t4)]) (hc : P.cellsOf t = 5)
    (c0 : P.cellsOf t0 = 1) (c1 : P.cellsOf t1 = 1) (c2 : P.cellsOf t2 = 1) (c3 : P.cellsOf t3 = 1) (c4 : P.cellsOf t4 = 1) (h : DataW.trod enc P W 0 sp held fuel t cs = some y) :
    ∃ n v0 v1 v2 v3 v4 y0 y1 y2 y3 y4, n < fuel ∧ cs = [v0, v1, v2, v3, v4] ∧ y.1 = .agg [Prod.fst y0, Prod.fst y1, Prod.fst y2, Prod.fst y3, Prod.fst y4] ∧ DataW.trod enc P W 0 sp held n t0 [v0] = some y0 ∧ DataW.trod enc P W 0 sp held n t1 [v1] = some y1 ∧ DataW.trod enc P W 0 sp held n t2 [v2] = some y2 ∧ DataW.trod enc P W 0 sp held n t3 [v3] = some y3 ∧ DataW.trod enc P W 0 sp held n t4 [v4] = some y4 := by
  obtain ⟨xs, n, rfl, rfl, hl, hlen, hf⟩ := DataW.trod_struct hu h
  rw [hc] at hl
  obtain ⟨fs⟩ := fs
  have hfl : fs.length = 5 := by have := congrArg List.length hfs; simpa using this
  match fs, hfl, xs, hlen, cs, hl with
  | [f0, f1, f2, f3, f4], _, [y0, y1, y2, y3, y4], _, [v0, v1, v2, v3, v4], _ =>
    simp only [List.map_cons, List.map_nil, List.cons.injEq, Prod.mk.injEq, and_true] at hfs
    obtain ⟨⟨o0, e0⟩, ⟨o1, e1⟩, ⟨o2, e2⟩, ⟨o3, e3⟩, ⟨o4, e4⟩⟩ := hfs
    have g0 := hf 0 f0 rfl
    rw [o0, e0, c0] at g0
    have g1 := hf 1 f1 rfl
    rw [o1, e1, c1] at g1
    have g2 := hf 2 f2 rfl
    rw [o2, e2, c2] at g2
    have g3 := hf 3 f3 rfl
    rw [o3, e3, c3] at g3
    have g4 := hf 4 f4 rfl
    rw [o4, e4, c4] at g4
    exact ⟨n, v0, v1, v2, v3, v4, y0, y1, y2, y3, y4, by omega, rfl, rfl, g0, g1, g2, g3, g4⟩
theorem rd_struct6 {t t0 t1 t2 t3 t4 t5 : Nat} {fs : Array Field} {fuel : Nat} {cs : List Value} {y : DataW H × List MemPlace} (hu : P.underlying t = some (.struct fs)) (hfs : fs.toList.map (fun f => (f.offset, f.type)) = [(0, t0), (1, t1), (2, t2), (3, t3), (4, t4), (5, t5)]) (hc : P.cellsOf t = 6)
    (c0 : P.cellsOf t0 = 1) (c1 : P.cellsOf t1 = 1) (c2 : P.cellsOf t2 = 1) (c3 : P.cellsOf t3 = 1) (c4 : P.cellsOf t4 = 1) (c5 : P.cellsOf t5 = 1) (h : DataW.trod enc P W 0 sp held fuel t cs = some y) :
    ∃ n v0 v1 v2 v3 v4 v5 y0 y1 y2 y3 y4 y5, n < fuel ∧ cs = [v0, v1, v2, v3, v4, v5] ∧ y.1 = .agg [Prod.fst y0, Prod.fst y1, Prod.fst y2, Prod.fst y3, Prod.fst y4, Prod.fst y5] ∧ DataW.trod enc P W 0 sp held n t0 [v0] = some y0 ∧ DataW.trod enc P W 0 sp held n t1 [v1] = some y1 ∧ DataW.trod enc P W 0 sp held n t2 [v2] = some y2 ∧ DataW.trod enc P W 0 sp held n t3 [v3] = some y3 ∧ DataW.trod enc P W 0 sp held n t4 [v4] = some y4 ∧ DataW.trod enc P W 0 sp held n t5 [v5] = some y5 := by
  obtain ⟨xs, n, rfl, rfl, hl, hlen, hf⟩ := DataW.trod_struct hu h
  rw [hc] at hl
  obtain ⟨fs⟩ := fs
  have hfl : fs.length = 6 := by have := congrArg List.length hfs; simpa using this
  match fs, hfl, xs, hlen, cs, hl with
  | [f0, f1, f2, f3, f4, f5], _, [y0, y1, y2, y3, y4, y5], _, [v0, v1, v2, v3, v4, v5], _ =>
    simp only [List.map_cons, List.map_nil, List.cons.injEq, Prod.mk.injEq, and_true] at hfs
    obtain ⟨⟨o0, e0⟩, ⟨o1, e1⟩, ⟨o2, e2⟩, ⟨o3, e3⟩, ⟨o4, e4⟩, ⟨o5, e5⟩⟩ := hfs
    have g0 := hf 0 f0 rfl
    rw [o0, e0, c0] at g0
    have g1 := hf 1 f1 rfl
    rw [o1, e1, c1] at g1
    have g2 := hf 2 f2 rfl
    rw [o2, e2, c2] at g2
    have g3 := hf 3 f3 rfl
    rw [o3, e3, c3] at g3
    have g4 := hf 4 f4 rfl
    rw [o4, e4, c4] at g4
    have g5 := hf 5 f5 rfl
    rw [o5, e5, c5] at g5
    exact ⟨n, v0, v1, v2, v3, v4, v5, y0, y1, y2, y3, y4, y5, by omega, rfl, rfl, g0, g1, g2, g3, g4, g5⟩
end
theorem bulk_agg {H : Type} (a b c d e : DataW H) : Rows.uptoBulk (.agg [a, b, c, d, e]) = Rows.uptoBulk a + (Rows.uptoBulk b + (Rows.uptoBulk c + (Rows.uptoBulk d + (Rows.uptoBulk e + 0)))) + 1 := rfl
theorem rd_node {H : Type} {enc : TypeId × Value → H} {W : World} {sp : Nat → Bool} {held : Bool} : ∀ (fuel : Nat) (cs : List Value) (y : DataW H × List MemPlace),
    DataW.trod enc Tryd.prog W 0 sp held fuel 30 cs = some y → ∃ x, RdN (ofW W) cs x ∧ nb x ≤ Rows.uptoBulk y.1 := by
  intro fuel
  induction fuel using Nat.strongRecOn with
  | _ fuel ih =>
    intro cs y h
    obtain ⟨fs, hu, hfs, _⟩ := good.struct (t := 30) rfl
    have hc5 : Tryd.prog.cellsOf 30 = 5 := by kernel_rfl
    obtain ⟨n, v0, v1, v2, v3, v4, y0, y1, y2, y3, y4, hn, rfl, hy, g0, g1, g2, g3, g4⟩ := rd_struct5 hu hfs hc5 (by kernel_rfl) (by kernel_rfl) (by kernel_rfl) (by kernel_rfl) (by kernel_rfl) h
    obtain ⟨n0, e0, _⟩ := rd_int (good.int (t := 3) rfl) g0
    obtain ⟨n1, e1, _⟩ := rd_int (good.int (t := 2) rfl) g1
    obtain ⟨s2, e2, b2⟩ := rd_str (good.str (t := 9) rfl) g2
    obtain ⟨w3, k3, e3, r3, b3⟩ := rd_strs (good.slice (t := 24) rfl) (good.str (t := 9) rfl) (by kernel_rfl) g3
    obtain ⟨w4, l4, e4, r4, b4⟩ := rd_slice (μ := nb) (good.slice (t := 27) rfl) hc5 (fun m hm cs y hy _ => ih m (by omega) cs y hy) g4
    simp only [List.cons.injEq, and_true] at e0 e1 e2 e3 e4
    subst e0; subst e1; subst e2; subst e3; subst e4
    refine ⟨.mk n0 n1 s2 k3 l4, RdN.in r3 r4, ?_⟩
    rw [hy, bulk_agg]
    simp only [nb_eq, Nd.s, Nd.k, Nd.l, ksum_sum, nbs_sum]
    have hu0 : ∀ d : DataW H, 1 ≤ Rows.uptoBulk d := fun d => by cases d <;> (try rename_i l; cases l) <;> simp [Rows.uptoBulk]
    have := hu0 y0.1
    omega
end B
end Go.Proofs.YtdbihpobfcbmeaaDoor
