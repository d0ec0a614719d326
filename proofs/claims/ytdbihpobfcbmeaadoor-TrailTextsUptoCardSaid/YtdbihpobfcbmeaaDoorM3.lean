/- Contracts of the library's functions: the builder's copyCheck, strings.Join, slices.Clone. -/
import Derived.Test.YtdbihpobfcbmeaaDoorG1
set_option linter.unusedVariables false
set_option linter.unusedSimpArgs false
namespace Go.Proofs.YtdbihpobfcbmeaaDoor
namespace B
open Go Go.RowKit

section
variable {c : Cx} {I : Im} {L : List Ent} {w : World} {K : Value → World → Prop}
theorem w_copyCheck (i : Nat) (hs : St c I L w) {b : Nat} {p v2 : Value} (hp : p = .pointer none ∨ p = .pointer (some ⟨b, 0, none⟩)) (hi : L[i]? = some (.blk b (.cells ⟨[p, v2]⟩ 115)))
    (k : ∀ w', St c I (L.set i (.blk b (.cells ⟨[.pointer (some ⟨b, 0, none⟩), v2]⟩ 115))) w' → K (.tuple ⟨[]⟩) w') :
    callW Tryd.prog 137 [.pointer (some ⟨b, 0, none⟩)] K w := by
  have hb : w.heap[b]? = some (.cells ⟨[p, v2]⟩ 115 (0, 0)) := hs.own _ (List.mem_of_getElem? hi)
  have hsh : w.shape? b = some (115, 2) := by simp [World.shape?, hb]
  obtain ⟨f, hf, hfs, _⟩ := sizeOf?_out (P := Tryd.prog) (t := 115) (n := 2) good rfl
  refine fn_of good Tryd.func137 rfl rfl rfl ?_
  refine sqs ?_
  refine ld i hs hi rfl rfl ?_
  rcases hp with rfl | rfl
  · refine bar ?_
    refine semW_mk (Lib.run_to_unsafe w ⟨b, 0, none⟩ (good.ptr rfl) Tryd.underlying183 hf (by omega) hsh (Nat.zero_lt_succ 1)) ?_
    refine callW_ext (w' := w) (v := .pointer (some ⟨b, 0, none⟩)) (by rw [run_callFunc_extern Tryd.func170 (by kernel_rfl) (by kernel_rfl) (by kernel_rfl) (e := Extern.AbiNoEscape.same) (by kernel_rfl)]; rfl) ?_
    refine semW_mk (Lib.run_from_unsafe w ⟨b, 0, none⟩ Tryd.underlying183 (good.ptr rfl) hf hsh (by kernel_rfl)) ?_
    refine sto i hs hi rfl rfl ?_
    intro w2 hs2
    exact k w2 hs2
  · refine bar ?_
    refine sqs ?_
    refine ld i hs hi rfl rfl ?_
    refine eqPs good (.inr rfl) rfl rfl ?_
    refine bar ?_
    refine k w ?_
    rw [list_set_self hi]; exact hs
theorem RdL.dropCells {α : Type} {sz n cc : Nat} {R : List Value → α → Prop} {a : Option Addr} {xs : List α} (h : RdL I sz R (.slice a n cc) xs) (hI : Imm I w) : n = xs.length ∧ xs.length ≤ cc ∧ ∃ cs, cs.length = n * sz ∧ RdC sz R cs xs ∧ (n = 0 ∨ ∃ ad, a = some ad ∧ ∀ q u, cs[q]? = some u → w.cell? (ad.add q) = some u) := by
  obtain ⟨cs, ⟨hl, a', c', he, hc, h4⟩, hC⟩ := h
  injection he with e1 e2 e3
  subst e1; subst e2; subst e3
  refine ⟨rfl, hc, cs, hl, hC, ?_⟩
  rcases h4 with h4 | ⟨ad, h5, h6⟩
  · exact .inl h4
  · exact .inr ⟨ad, h5, h6 w hI⟩
theorem RdC.strs {cs : List Value} {xs : List (List UInt8)} (h : RdC 1 RdS cs xs) : cs = xs.map fun x => .string (bs x) := by
  have hl := h.1
  rw [Nat.mul_one] at hl
  apply List.ext_getElem?
  intro j
  cases hj : xs[j]? with
  | none =>
    have := List.getElem?_eq_none_iff.1 hj
    rw [List.getElem?_eq_none (by omega), List.getElem?_eq_none (by simp; exact this)]
  | some x =>
    have h2 := h.2 j x hj
    rw [Nat.mul_one] at h2
    have h3 : ((cs.drop j).take 1)[0]? = some (.string (bs x)) := by rw [show (cs.drop j).take 1 = _ from h2]; rfl
    rw [List.getElem?_take, if_pos (by omega), List.getElem?_drop, Nat.add_zero] at h3
    rw [h3]; simp [hj]
/-- strings.Join -/
def p_strings_Join (xs : List (List UInt8)) (sep : List UInt8) : Option (List UInt8) :=
  if xs.length ≤ 140737488355328 ∧ (Lib.join xs sep).length ≤ 140737488355328 then some (Lib.join xs sep) else none
theorem w_strings_Join (x0 : List (List UInt8)) (x1 : List UInt8) (r : List UInt8) (hf : p_strings_Join x0 x1 = some r) (hg : Glo I) (hX : ∀ b, ¬ c.X b) (hs : St c I L w) {pa0 : Option Addr} {pn0 pc0 : Nat} (ph0 : RdL I 1 RdS (.slice pa0 pn0 pc0) x0)
    (k : ∀ (J : Im) (w' : World), Le I J → St c J L w' → K (.string (bs r)) w') :
    callW Tryd.prog 82 [.slice pa0 pn0 pc0, .string (bs x1)] K w := by
  unfold p_strings_Join at hf
  obtain ⟨⟨h1, h2⟩, hf⟩ := okO hf
  obtain rfl := Option.some.inj hf
  obtain ⟨rfl, hcap, cs, hl, hC, h4⟩ := ph0.dropCells hs.im
  by_cases h0 : x0.length = 0
  · obtain rfl := List.eq_nil_of_length_eq_zero h0
    refine callW_mk (by kernel_rfl) ((Tryd.strings_Join_none pa0 pc0 (bs x1) w).mono ?_)
    rintro e w' ⟨rfl, rfl⟩
    exact ⟨_, rfl, k I _ (Le.refl _) hs⟩
  · obtain ⟨ad, rfl, hcells⟩ := h4.resolve_left h0
    have hcs := RdC.strs hC
    obtain ⟨y0, hy0⟩ : ∃ y, x0[0]? = some y := ⟨_, List.getElem?_eq_getElem (show 0 < x0.length by omega)⟩
    have hsp : ad.spot = none := by
      have h5 := hcells 0 (.string (bs y0)) (by rw [hcs, List.getElem?_map, hy0]; rfl)
      rw [show ad.add 0 = ad by simp [Addr.add]] at h5
      cases hsp : ad.spot with
      | none => rfl
      | some s => exact absurd h5 (by unfold World.cell?; cases w.heap[ad.block]? with | none => simp | some o => cases o <;> simp [hsp])
    obtain ⟨bk, o, sp⟩ := ad
    simp only at hsp
    subst hsp
    have hcell : ∀ (j : Nat) x, (x0.map bs)[j]? = some x → w.cell? ⟨bk, o + j, none⟩ = some (.string x) := by
      intro j x hj
      rw [List.getElem?_map] at hj
      obtain ⟨y, hy, rfl⟩ := Option.map_eq_some_iff.1 hj
      have := hcells j (.string (bs y)) (by rw [hcs]; simp [hy])
      rwa [add_at] at this
    have hbk : bk < w.heap.size := by
      have h5 := hcell 0 (bs y0) (by rw [List.getElem?_map, hy0]; rfl)
      unfold World.cell? at h5
      cases ho : w.heap[bk]? with
      | none => simp [ho] at h5
      | some o => exact (Array.getElem?_eq_some_iff.1 ho).1
    have hm : ((x0.map bs).map (fun x : ByteArray => x.data.toList)) = x0 := by
      rw [List.map_map]; exact (List.map_congr_left (fun x _ => rfl)).trans (List.map_id _)
    have hJ := Tryd.strings_Join bk o pc0 (x0.map bs) (bs x1) w hcell hbk (by simpa using h1) (by simpa using hcap) (by rw [hm]; exact h2)
    rw [hm, List.length_map] at hJ
    refine callW_mk (by kernel_rfl) (hJ.mono ?_)
    rintro e w' ⟨rfl, hbel⟩
    exact ⟨_, rfl, k I _ (Le.refl _) (hs.quiet (Ch.of_below hbel))⟩
end
end B
end Go.Proofs.YtdbihpobfcbmeaaDoor
