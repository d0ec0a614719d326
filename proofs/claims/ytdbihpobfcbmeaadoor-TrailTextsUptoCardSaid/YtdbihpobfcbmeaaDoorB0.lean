/- The interpreter of weakest preconditions on which this seat's proofs stand: what a function's code asks, as a Lean proposition that is unfolded by reduction, and the proof that it suffices for the machine's call. -/
import Derived.WalkKit
import Derived.OrdersIn
import Derived.TacticsIn
import Derived.RangeFuncLeaves
import Derived.RangeFuncRecord
set_option linter.unusedVariables false
set_option linter.unusedSimpArgs false
namespace Go.Proofs.YtdbihpobfcbmeaaDoor
namespace B
open Go

/-! ### Frames -/
abbrev Env := Nat → Value
def upd (e : Env) (d : Nat) (v : Value) : Env := fun i => match Nat.beq i d with | true => v | false => e i
def updO (e : Env) : Option Nat → Value → Env | some d, v => upd e d v | none, _ => e
/-- A frame: how many places it has; of which round it is; whether it bears the marks of ranges over functions. -/
structure Fm where
  n : Nat
  r : Option Nat
  m : Bool
def ghost : Nat := 1000000
def marksL : List Value → List Nat | .pointer (some a) :: r => a.block :: marksL r | _ => []
def marksV : Value → List Nat | .tuple ⟨l⟩ => marksL l | _ => []
def Fm.marks (n : Fm) (e : Env) : List Nat := match n.m with | true => marksV (e ghost) | false => []
def Fm.okD (n : Fm) (d : Option Nat) : Bool := match n.m, d with | true, some d => !Nat.beq d ghost | _, _ => true
def Fm.F (n : Fm) : Fence := { Fence.wide with round := n.r }
def mkD (l : List Nat) : List Deferred := l.map fun D => { target := .collected D, args := #[] }
def mkA (n : Fm) (e : Env) : Act := ⟨Array.ofFn (n := n.n) fun i => e i.1, mkD (n.marks e)⟩
def ev (n : Fm) (e : Env) : Operand → Value
  | .tmp t => match Nat.blt t n.n with | true => e t | false => undef
  | .const v => v
  | .global g => .pointer (some ⟨g, 0, none⟩)
  | .func f => .func (.func f) #[] #[]
theorem blt_true {t n : Nat} (h : t < n) : Nat.blt t n = true := by
  simp only [Nat.blt]; exact Nat.ble_eq.mpr h
theorem blt_false {t n : Nat} (h : ¬ t < n) : Nat.blt t n = false := by
  simp only [Nat.blt]; exact Bool.eq_false_iff.mpr (fun hh => h (Nat.ble_eq.mp hh))
theorem mkA_get (n : Fm) (e : Env) (t : Nat) : (mkA n e).tmps.getD t undef = match Nat.blt t n.n with | true => e t | false => undef := by
  by_cases h : t < n.n
  · rw [blt_true h]; simp [mkA, Array.getD_eq_getD_getElem?, h]
  · rw [blt_false h]; simp [mkA, Array.getD_eq_getD_getElem?, h]
theorem mkA_eval (n : Fm) (e : Env) : (mkA n e).eval = ev n e := by
  funext x
  cases x with
  | tmp t => exact mkA_get n e t
  | const v => rfl
  | global g => rfl
  | func f => rfl
theorem upd_same (e : Env) (d : Nat) (v : Value) : upd e d v d = v := by simp [upd]
theorem upd_other (e : Env) (d i : Nat) (v : Value) (h : i ≠ d) : upd e d v i = e i := by
  have : Nat.beq i d = false := by
    cases hb : Nat.beq i d
    · rfl
    · exact absurd (Nat.eq_of_beq_eq_true hb) h
  simp [upd, this]
theorem marks_updO (n : Fm) (e : Env) (d : Option Nat) (v : Value) (h : n.okD d = true) : n.marks (updO e d v) = n.marks e := by
  cases d with
  | none => rfl
  | some d =>
    unfold Fm.marks
    unfold Fm.okD at h
    split
    · rename_i hm
      rw [hm] at h
      simp only [Bool.not_eq_true'] at h
      show marksV (upd e d v ghost) = _
      rw [upd_other _ _ _ _ (fun hd => by rw [← hd] at h; simp at h)]
    · rfl
theorem mkA_put (n : Fm) (e : Env) (d : Option Nat) (v : Value) (h : n.okD d = true) : (mkA n e).put d v = mkA n (updO e d v) := by
  cases d with
  | none => rfl
  | some d =>
    have hm := marks_updO n e (some d) v h
    simp only [Act.put, mkA, hm]
    simp only [updO]
    congr 1
    apply Array.ext_getElem?
    intro i
    rw [Array.getElem?_setIfInBounds, Array.getElem?_ofFn, Array.getElem?_ofFn, Array.size_ofFn]
    by_cases hi : i = d
    · subst hi; by_cases hn : i < n.n <;> simp [hn, upd_same]
    · rw [if_neg (Ne.symm hi)]; by_cases hn : i < n.n <;> simp [hn, upd_other _ _ _ _ hi]

/-! ### Types -/
inductive Z where | int (k : IntKind) | bool | str | ptr | slice | map | func | iface
def Z.val : Z → Value
  | .int k => .int k 0 | .bool => .bool false | .str => .string ⟨#[]⟩ | .ptr => .pointer none | .slice => .slice none 0 0
  | .map => .map none | .func => .nilFunc | .iface => .nilIface
def Z.is : Value → Z → Bool
  | .int k n, .int k' => k == k' && n == 0
  | .bool b, .bool => !b
  | .string s, .str => s.data.toList.isEmpty
  | .pointer none, .ptr => true
  | .slice none 0 0, .slice => true
  | .map none, .map => true
  | .nilFunc, .func => true
  | .nilIface, .iface => true
  | _, _ => false
theorem Z.is_eq {v : Value} {z : Z} (h : Z.is v z = true) : v = z.val := by
  unfold Z.is at h
  split at h <;> simp_all [Z.val]
  rename_i s
  obtain ⟨d⟩ := s
  simp at h
  simp [h]
inductive TD where
  | int (k : IntKind) | bool | str | ptr (e : Nat) | slice (e : Nat) | arr (n e : Nat) | struct (fs : List (Nat × Nat)) | map (k e : Nat) | func | iface | other
structure TI where
  d : TD
  size : Nat
  bytes : Nat
  zero : List Z
abbrev TT := List TI
def tat (T : TT) (t : Nat) : TI := match T[t]? with | some i => i | none => ⟨.other, 0, 0, []⟩
def tdOK (P : Program) (t : Nat) : TD → Bool
  | .int k => match P.underlying t with | some (.int k') => k == k' | _ => false
  | .bool => match P.underlying t with | some .bool => true | _ => false
  | .str => match P.underlying t with | some .string => true | _ => false
  | .ptr e => match P.underlying t with | some (.pointer e') => e == e' | _ => false
  | .slice e => match P.underlying t with | some (.slice e') => e == e' | _ => false
  | .arr n e => match P.underlying t with | some (.array n' e') => n == n' && e == e' | _ => false
  | .struct fs => match P.underlying t with | some (.struct gs) => (gs.toList.map fun f => (f.offset, f.type)) == fs && gs.toList.all (fun f => match P.info? f.type with | some i => i.size != 0 | none => false) | _ => false
  | .map k e => match P.underlying t with | some (.map k' e') => k == k' && e == e' | _ => false
  | .func => match P.underlying t with | some (.func _ _ _) => true | _ => false
  | .iface => match P.underlying t with | some (.interface _) => true | _ => false
  | .other => true
def zerosOK : List Value → List Z → Bool
  | [], [] => true
  | v :: vs, z :: zs => Z.is v z && zerosOK vs zs
  | _, _ => false
theorem zerosOK_eq : ∀ (vs : List Value) (zs : List Z), zerosOK vs zs = true → vs = zs.map Z.val
  | [], [], _ => rfl
  | v :: vs, z :: zs, h => by
    simp only [zerosOK, Bool.and_eq_true] at h
    rw [List.map_cons, Z.is_eq h.1, zerosOK_eq vs zs h.2]
  | [], _ :: _, h => by simp [zerosOK] at h
  | _ :: _, [], h => by simp [zerosOK] at h
def isAggD : TD → Bool | .struct _ | .arr _ _ => true | _ => false
def infoOK (P : Program) (t : Nat) (i : TI) (d : TD) : Bool :=
  match P.info? t with
  | some f => f.size == i.size && f.bytes == i.bytes && (match f.zero with | some (.agg cs) => isAggD d && zerosOK cs.toList i.zero | some v => !isAggD d && zerosOK [v] i.zero | none => i.zero.isEmpty)
  | none => false
def tiOK (P : Program) (t : Nat) (i : TI) : Bool :=
  match i.d with
  | .other => true
  | d => tdOK P t d && infoOK P t i d
def ttOK (P : Program) : Nat → TT → Bool
  | _, [] => true
  | t, i :: r => tiOK P t i && ttOK P (t + 1) r
theorem ttOK_at {P : Program} : ∀ (k : Nat) (T : TT), ttOK P k T = true → ∀ j i, T[j]? = some i → tiOK P (k + j) i = true
  | k, [], _, j, i, hj => by simp at hj
  | k, x :: r, h, j, i, hj => by
    simp only [ttOK, Bool.and_eq_true] at h
    cases j with
    | zero => simp at hj; subst hj; simpa using h.1
    | succ j =>
      have := ttOK_at (k + 1) r h.2 j i (by simpa using hj)
      rwa [show k + 1 + j = k + (j + 1) by omega] at this
def Good (P : Program) (T : TT) : Prop := ttOK P 0 T = true ∧ P.follows .mixedOrders = true
theorem Good.ti {P : Program} {T : TT} (h : Good P T) (t : Nat) : tiOK P t (tat T t) = true := by
  unfold tat
  cases ht : T[t]? with
  | none => rfl
  | some i => simpa using ttOK_at 0 T h.1 t i ht
end B
end Go.Proofs.YtdbihpobfcbmeaaDoor
