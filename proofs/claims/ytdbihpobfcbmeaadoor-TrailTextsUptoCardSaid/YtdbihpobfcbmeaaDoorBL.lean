/- The library's contracts that the first proofs of this seat use, in the form of the rules. -/
import Derived.Test.YtdbihpobfcbmeaaDoorBD
import Derived.Test.YtdbihpobfcbmeaaDoorBT
import Derived.Test.YtdbihpobfcbmeaaDoorL52
import Derived.Test.YtdbihpobfcbmeaaDoorShelf
set_option linter.unusedVariables false
set_option linter.unusedSimpArgs false
namespace Go.Proofs.YtdbihpobfcbmeaaDoor
namespace B
open Go Go.RowKit

/-- The program's own number internal/bytealg.MaxLen lies where it lies. -/
def Glo (I : Im) : Prop := ∃ o m, I 0 = some o ∧ ∀ w : World, w.heap[0]? = some o → w.cell? ⟨0, 0, none⟩ = some (.int .i64 m)
theorem Glo.le {I J : Im} (h : Glo I) (hl : Le I J) : Glo J := by obtain ⟨o, m, h, k⟩ := h; exact ⟨o, m, hl _ _ h, k⟩
theorem Glo.cell {I : Im} {w : World} (h : Glo I) (hI : Imm I w) : ∃ m, w.cell? ⟨0, 0, none⟩ = some (.int .i64 m) := by
  obtain ⟨o, m, h, k⟩ := h
  exact ⟨m, k w (hI _ _ h)⟩
section
variable {c : Cx} {I J : Im} {L : List Ent} {w w' : World}
theorem index_ok (s sub : List UInt8) {K : Value → World → Prop} (hg : Glo I) (hs : St c I L w) (hl : s.length < 4294967281) (k : K (.int .i64 (Lib.index s sub)) w) :
    callW Tryd.prog 63 [.string (bs s), .string (bs sub)] K w := by
  obtain ⟨m, hm⟩ := hg.cell hs.im
  refine callW_mk (by kernel_rfl) ((Tryd.strings_Index (bs s) (bs sub) m w hl hm).mono ?_)
  rintro e w' ⟨rfl, rfl⟩
  exact ⟨_, rfl, k⟩
theorem split_ok (s : List UInt8) (b : UInt8) {K : Value → World → Prop} (hg : Glo I) (hs : St c I L w) (hX : ∀ b, ¬ c.X b) (hl : s.length < 4294967281)
    (k : ∀ v J w', Le I J → St c J L w' → RdL J 1 RdS v (sp b s) → K v w') : callW Tryd.prog 61 [.string (bs s), .string (bs [b])] K w := by
  obtain ⟨m, hm⟩ := hg.cell hs.im
  refine callW_mk (by kernel_rfl) ((Tryd.strings_Split (bs s) (bs [b]) m w hl hm (Nat.le_refl 1)).mono ?_)
  rintro e w' ⟨rfl, rfl⟩
  refine ⟨_, rfl, ?_⟩
  have h2 := hs.push (Ch.alloc w (.cells ((Lib.splitB (bs [b]) 0 (Lib.countB (bs s) (bs [b])) (bs s)).map Value.string).toArray 9)) (x' := .blk w.heap.size _) (heap_alloc_new w _) (by rintro b rfl; exact Nat.le_refl _)
  obtain ⟨J, h3, h4, h5⟩ := h2.fixBlk (i := 0) rfl hX
  have hc : Lib.countB (bs s) (bs [b]) = s.count b := Lib.count_one b s
  have hd : (Lib.splitB (bs [b]) 0 (Lib.countB (bs s) (bs [b])) (bs s)).map (·.data.toList) = sp b s := by rw [Lib.splitB_data, hc]; exact sp_split b s
  have hlen : Lib.countB (bs s) (bs [b]) + 1 = (sp b s).length := by rw [sp_len, hc]
  rw [hlen]
  refine k _ J _ h3 h4 (RdL.lit h5 ?_ _ (Nat.le_refl _))
  have e : (Lib.splitB (bs [b]) 0 (Lib.countB (bs s) (bs [b])) (bs s)) = (sp b s).map bs := by
    rw [← hd, List.map_map]
    refine (List.map_id'' ?_ _).symm
    intro x; exact (bs_data x).symm
  rw [e, List.map_map]
  refine ⟨by simp, fun j x hj => ?_⟩
  simp only [Nat.mul_one, RdS]
  have hlt := (List.getElem?_eq_some_iff.1 hj).1
  rw [List.drop_eq_getElem_cons (by simpa using hlt)]
  have := (List.getElem?_eq_some_iff.1 hj).2
  simp [this]
end
end B
end Go.Proofs.YtdbihpobfcbmeaaDoor
