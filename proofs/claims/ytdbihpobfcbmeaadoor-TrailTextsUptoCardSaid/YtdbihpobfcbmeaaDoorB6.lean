/- That what an operation asks suffices for the machine's step: the seventh part of the interpreter. -/
import Derived.Test.YtdbihpobfcbmeaaDoorB5
set_option linter.unusedVariables false
set_option linter.unusedSimpArgs false
namespace Go.Proofs.YtdbihpobfcbmeaaDoor
namespace B
open Go
section
variable {P : Program} {T : TT} {w : World} {K : Value → World → Prop}
theorem loW_out {lo : Option Value} {K : Int → Prop} (h : loW lo K) : ∃ l, ((lo = none ∧ l = 0) ∨ ∃ k, lo = some (.int k l)) ∧ K l := by
  unfold loW at h; split at h
  · exact ⟨_, .inl ⟨rfl, rfl⟩, h⟩
  · exact ⟨_, .inr ⟨_, rfl⟩, h⟩
  · exact h.elim
theorem hiW_out {hi : Option Value} {d : Nat} {K : Int → Prop} (h : hiW hi d K) : ∃ l : Int, ((hi = none ∧ l = d) ∨ ∃ k, hi = some (.int k l)) ∧ K l := by
  unfold hiW at h; split at h
  · exact ⟨_, .inl ⟨rfl, rfl⟩, h⟩
  · exact ⟨_, .inr ⟨_, rfl⟩, h⟩
  · exact h.elim
theorem run_bound (k : IntKind) (i : Int) (y : Nat) (c : BoundsCode) (h0 : 0 ≤ i) (h1 : i ≤ y) : (Instr.sliceBound (.int k i) y c).run P w = .ok i.toNat w := by
  simp [Instr.sliceBound, asIntOf, h0, h1]
theorem run_bounds (b : Bool) (len cap : Nat) {lo hi mx : Option Value} {l h m : Int}
    (hl : (lo = none ∧ l = 0) ∨ ∃ k, lo = some (.int k l)) (hh : (hi = none ∧ h = len) ∨ ∃ k, hi = some (.int k h)) (hm : (mx = none ∧ m = cap) ∨ ∃ k, mx = some (.int k m))
    (h0 : 0 ≤ l) (h1 : l ≤ h) (h2 : h ≤ m) (h3 : m ≤ cap) (h4 : mx.isSome = true → hi.isSome = true) : (Instr.sliceBounds b len cap lo hi mx).run P w = .ok (l.toNat, h.toNat, m.toNat) w := by
  have e1 : ∀ x : Nat, (x : Int).toNat = x := fun x => by omega
  rcases hm with ⟨rfl, rfl⟩ | ⟨km, rfl⟩
  · rcases hh with ⟨rfl, rfl⟩ | ⟨kh, rfl⟩
    · rcases hl with ⟨rfl, rfl⟩ | ⟨k, rfl⟩
      · simp [Instr.sliceBounds]
      · have := run_bound (P := P) (w := w) k l len .sliceB h0 (by omega)
        simp [Instr.sliceBounds, this]
    · have hb := run_bound (P := P) (w := w) kh h cap (if b then .sliceAcap else .sliceAlen) (by omega) h2
      rcases hl with ⟨rfl, rfl⟩ | ⟨k, rfl⟩
      · simp [Instr.sliceBounds, hb]
      · have := run_bound (P := P) (w := w) k l h.toNat .sliceB h0 (by omega)
        simp [Instr.sliceBounds, this, hb]
  · rcases hh with ⟨rfl, rfl⟩ | ⟨kh, rfl⟩
    · simp at h4
    · have hb := run_bound (P := P) (w := w) km m cap (if b then .slice3Acap else .slice3Alen) (by omega) h3
      have hb2 := run_bound (P := P) (w := w) kh h m.toNat .slice3B (by omega) (by omega)
      rcases hl with ⟨rfl, rfl⟩ | ⟨k, rfl⟩
      · simp [Instr.sliceBounds, hb, hb2]
      · have := run_bound (P := P) (w := w) k l h.toNat .slice3C h0 (by omega)
        simp [Instr.sliceBounds, this, hb, hb2]
theorem sliceW_run (hg : Good P T) (t : Nat) (x : Value) (lo hi mx : Option Value) (K : Value → Prop) (h : sliceW T t x lo hi mx K) :
    ∃ v, (Instr.sliceAt t x lo hi mx).run P w = .ok v w ∧ K v := by
  unfold sliceW at h
  split at h
  · rename_i s hd
    split at h
    · exact h.elim
    · have hu := run_underlying (P := P) (w := w) (hg.str hd)
      obtain ⟨l, hl, h⟩ := loW_out h
      obtain ⟨hh, h5, h⟩ := hiW_out h
      obtain ⟨hr, hK⟩ := req_out h
      refine ⟨_, ?_, hK⟩
      have hb := run_bounds (P := P) (w := w) false (tl s).length (tl s).length hl h5 (.inl ⟨rfl, rfl⟩) hr.1 hr.2.1 hr.2.2 (Int.le_refl _) (by simp)
      rw [tl_length] at hb
      have e : s.extract l.toNat hh.toNat = bs (((tl s).take hh.toNat).drop l.toNat) := by
        apply ByteArray.ext; apply Array.ext'
        show _ = ((tl s).take hh.toNat).drop l.toNat
        rw [List.drop_take]
        simp [tl]
      simp [Instr.sliceAt, hu, Instr.slice, hb, e]
  · rename_i e a n c hd
    split at h
    · exact h.elim
    · rename_i sz hsz
      have hu := run_underlying (P := P) (w := w) (hg.slice hd)
      have hs := run_sizeOf (w := w) hg hsz
      obtain ⟨l, hl, h⟩ := loW_out h
      obtain ⟨m, hm, h⟩ := hiW_out h
      obtain ⟨hh, h5, h⟩ := hiW_out h
      obtain ⟨hr, hK⟩ := req_out h
      refine ⟨_, ?_, hK⟩
      have hb := run_bounds (P := P) (w := w) true n c hl h5 hm hr.1 hr.2.1 hr.2.2.1 hr.2.2.2.1 hr.2.2.2.2
      simp only [Instr.sliceAt, Sem.run_bind, hu, Result.andThen_ok, Instr.slice, hb, hs, Sem.run_pure]
      congr 2
      rcases hl with ⟨rfl, rfl⟩ | ⟨k, rfl⟩
      · simp only [Int.toNat_zero, Nat.zero_mul]
        split
        · rfl
        · cases a <;> simp [Addr.add]
      · rfl
  · exact h.elim
end
end B
end Go.Proofs.YtdbihpobfcbmeaaDoor
