/- What each operation asks, and that it suffices: the second part of the interpreter. -/
import Derived.Test.YtdbihpobfcbmeaaDoorB0
set_option linter.unusedVariables false
set_option linter.unusedSimpArgs false
namespace Go.Proofs.YtdbihpobfcbmeaaDoor
namespace B
open Go

def cellsL : Value → List Value | .agg cs => cs.toList | v => [v]
theorem cellsL_eq (v : Value) : v.cells.toList = cellsL v := by cases v <;> rfl
def tl (s : ByteArray) : List UInt8 := s.data.toList
def bs (l : List UInt8) : ByteArray := ⟨⟨l⟩⟩
theorem tl_bs (l : List UInt8) : tl (bs l) = l := rfl
theorem bs_tl (s : ByteArray) : bs (tl s) = s := rfl
theorem tl_length (s : ByteArray) : (tl s).length = s.size := rfl
theorem tl_toList (s : ByteArray) : s.toList = tl s := ByteArray.toList_eq s
def ikN : IntKind → Nat | .i8 => 0 | .i16 => 1 | .i32 => 2 | .i64 => 3 | .u8 => 4 | .u16 => 5 | .u32 => 6 | .u64 => 7
theorem ikN_inj {a b : IntKind} (h : Nat.beq (ikN a) (ikN b) = true) : a = b := by
  have := Nat.eq_of_beq_eq_true h
  cases a <;> cases b <;> simp [ikN] at this <;> rfl

/-! #### What stays closed to reduction -/
@[irreducible] def reqW (p X : Prop) : Prop := p ∧ X
theorem req {p X : Prop} (hp : p) (hx : X) : reqW p X := by unfold reqW; exact ⟨hp, hx⟩
theorem req_out {p X : Prop} (h : reqW p X) : p ∧ X := by unfold reqW at h; exact h
@[irreducible] def newW (o : Obj) (K : Nat → World → Prop) (w : World) : Prop := K w.heap.size (w.alloc o)
@[irreducible] def loadW (a : Addr) (n : Nat) (K : List Value → World → Prop) (w : World) : Prop :=
  ∃ vs : List Value, vs.length = n ∧ (∀ i v, vs[i]? = some v → w.cell? (a.add i) = some v) ∧ K vs w
def setCells (w : World) (a : Addr) : List Value → Nat → World
  | [], _ => w
  | v :: vs, i => setCells (w.setCell (a.add i) v) a vs (i + 1)
@[irreducible] def storeW (a : Addr) (vs : List Value) (K : World → Prop) (w : World) : Prop :=
  (∀ v, v ∈ vs → v.oneCell' = true) ∧ (∀ i, i < vs.length → (∃ u, w.cell? (a.add i) = some u) ∧ w.frozen? (a.add i) = false) ∧ K (setCells w a vs 0)
def hasBody (P : Program) (g : Nat) : Bool := match P.funcs[g]? with | some fn => fn.body.isSome && fn.name != "runtime.NumGoroutine" | none => false
@[irreducible] def callW (P : Program) (g : Nat) (args : List Value) (K : Value → World → Prop) (w : World) : Prop :=
  (hasBody P g = true ∧ Calls P g ⟨args⟩ w fun e w' => ∃ v, e = .returned v ∧ K v w') ∨ ∃ v w', (callFunc g ⟨args⟩).run P w = .ok (.value v) w' ∧ K v w'
theorem callW_mk {P : Program} {g : Nat} {args : List Value} {K : Value → World → Prop} {w : World} (hb : hasBody P g = true)
    (h : Calls P g ⟨args⟩ w fun e w' => ∃ v, e = .returned v ∧ K v w') : callW P g args K w := by unfold callW; exact .inl ⟨hb, h⟩
/-- A function that has no body in the program: by its own run. -/
theorem callW_ext {P : Program} {g : Nat} {args : List Value} {K : Value → World → Prop} {w w' : World} {v : Value} (h : (callFunc g ⟨args⟩).run P w = .ok (.value v) w') (k : K v w') : callW P g args K w := by unfold callW; exact .inr ⟨v, w', h, k⟩
theorem callW_cases {P : Program} {g : Nat} {args : List Value} {K : Value → World → Prop} {w : World} (h : callW P g args K w) :
    (hasBody P g = true ∧ Calls P g ⟨args⟩ w fun e w' => ∃ v, e = .returned v ∧ K v w') ∨ ∃ v w', (callFunc g ⟨args⟩).run P w = .ok (.value v) w' ∧ K v w' := by unfold callW at h; exact h
theorem callW_mono {P : Program} {g : Nat} {args : List Value} {K K' : Value → World → Prop} {w : World} (h : callW P g args K w) (hk : ∀ v w', K v w' → K' v w') : callW P g args K' w := by
  rcases callW_cases h with h | ⟨v, w', h1, h2⟩
  · exact callW_mk h.1 (h.2.mono fun e w' ⟨v, hv, hK⟩ => ⟨v, hv, hk _ _ hK⟩)
  · exact callW_ext h1 (hk _ _ h2)
/-- A call of yield: the round that the machine runs for it. -/
@[irreducible] def yldW (P : Program) (l : Nat) (args : List Value) (K : Value → World → Prop) (w : World) : Prop :=
  ∃ fn tmps assign body, (Instr.yield l ⟨args⟩).run P w = .ok (.round l fn tmps assign body) w ∧ RoundIn Fence.wide 0 P l fn tmps assign body w fun e w' => ∃ v, e = .returned v ∧ K v w'
theorem yldW_out {P : Program} {l : Nat} {args : List Value} {K : Value → World → Prop} {w : World} (h : yldW P l args K w) :
    ∃ fn tmps assign body, (Instr.yield l ⟨args⟩).run P w = .ok (.round l fn tmps assign body) w ∧ RoundIn Fence.wide 0 P l fn tmps assign body w fun e w' => ∃ v, e = .returned v ∧ K v w' := by unfold yldW at h; exact h
/-- A call of a function value. -/
def appV (P : Program) (f : Value) (args : List Value) (K : Value → World → Prop) (w : World) : Prop :=
  match f with
  | .func (.func g) first cap => callW P g (first.toList ++ args ++ cap.toList) K w
  | .func (.yield l) first _ => yldW P l (first.toList ++ args) K w
  | _ => False
/-- A builtin or another operation that the rules of this text do not open: by its own run. -/
@[irreducible] def semW (P : Program) (s : Sem Value) (K : Value → World → Prop) (w : World) : Prop := ∃ v w', s.run P w = .ok v w' ∧ K v w'
theorem semW_mk {P : Program} {s : Sem Value} {K : Value → World → Prop} {w w' : World} {v : Value} (h : s.run P w = .ok v w') (hk : K v w') : semW P s K w := by unfold semW; exact ⟨v, w', h, hk⟩
theorem semW_out {P : Program} {s : Sem Value} {K : Value → World → Prop} {w : World} (h : semW P s K w) : ∃ v w', s.run P w = .ok v w' ∧ K v w' := by unfold semW at h; exact h
@[irreducible] def semU (P : Program) (s : Sem Unit) (K : World → Prop) (w : World) : Prop := ∃ w', s.run P w = .ok () w' ∧ K w'
theorem semU_mk {P : Program} {s : Sem Unit} {K : World → Prop} {w w' : World} (h : s.run P w = .ok () w') (hk : K w') : semU P s K w := by unfold semU; exact ⟨w', h, hk⟩
theorem semU_out {P : Program} {s : Sem Unit} {K : World → Prop} {w : World} (h : semU P s K w) : ∃ w', s.run P w = .ok () w' ∧ K w' := by unfold semU at h; exact h
@[irreducible] def idxW (a : Option Addr) (n : Nat) (i : Int) (sz : Nat) (K : Value → Prop) : Prop := ∃ ad, a = some ad ∧ 0 ≤ i ∧ i < n ∧ K (.pointer (some (ad.add (i.toNat * sz))))
theorem idx {a : Option Addr} {n : Nat} {i : Int} {sz : Nat} {K : Value → Prop} {ad : Addr} (h : a = some ad) (h0 : 0 ≤ i) (h1 : i < n) (k : K (.pointer (some (ad.add (i.toNat * sz))))) : idxW a n i sz K := by
  unfold idxW; exact ⟨ad, h, h0, h1, k⟩
theorem idx_out {a : Option Addr} {n : Nat} {i : Int} {sz : Nat} {K : Value → Prop} (h : idxW a n i sz K) : ∃ ad, a = some ad ∧ 0 ≤ i ∧ i < n ∧ K (.pointer (some (ad.add (i.toNat * sz)))) := by unfold idxW at h; exact h

/-! #### Values -/
def shlI (k : IntKind) (a b : Int) : Int := k.wrap (a * 2 ^ (min b.toNat k.bits))
def shrI (k : IntKind) (a b : Int) : Int := a.fdiv (2 ^ (min b.toNat k.bits))
def andI (k : IntKind) (a b : Int) : Int := k.wrap (BitVec.ofInt k.bits a &&& BitVec.ofInt k.bits b).toNat
def orI (k : IntKind) (a b : Int) : Int := k.wrap (BitVec.ofInt k.bits a ||| BitVec.ofInt k.bits b).toNat
def xorI (k : IntKind) (a b : Int) : Int := k.wrap (BitVec.ofInt k.bits a ^^^ BitVec.ofInt k.bits b).toNat
def andNotI (k : IntKind) (a b : Int) : Int := k.wrap (BitVec.ofInt k.bits a &&& ~~~BitVec.ofInt k.bits b).toNat
def geW (b : Int) (X : Prop) : Prop := match b with | .ofNat _ => X | .negSucc _ => False
def nzW (b : Int) (X : Prop) : Prop := match b with | .ofNat (_ + 1) => X | .ofNat 0 => False | .negSucc _ => X
def sameK (j k : IntKind) (X : Prop) : Prop := match Nat.beq (ikN j) (ikN k) with | true => X | false => False

def binInt (op : BinOp) (j : IntKind) (a : Int) (k : IntKind) (b : Int) (K : Value → Prop) : Prop :=
  match op with
  | .shl => reqW (0 ≤ b) (K (.int j (shlI j a b)))
  | .shr => reqW (0 ≤ b) (K (.int j (shrI j a b)))
  | .add => sameK j k (K (.int j (j.wrap (a + b))))
  | .sub => sameK j k (K (.int j (j.wrap (a - b))))
  | .mul => sameK j k (K (.int j (j.wrap (a * b))))
  | .quo => sameK j k (reqW (b ≠ 0) (K (.int j (j.wrap (a.tdiv b)))))
  | .rem => sameK j k (reqW (b ≠ 0) (K (.int j (a.tmod b))))
  | .and => sameK j k (K (.int j (andI j a b)))
  | .or => sameK j k (K (.int j (orI j a b)))
  | .xor => sameK j k (K (.int j (xorI j a b)))
  | .andNot => sameK j k (K (.int j (andNotI j a b)))
  | .eql => sameK j k (K (.bool (decide (a = b))))
  | .neq => sameK j k (K (.bool (!decide (a = b))))
  | .lss => sameK j k (K (.bool (decide (a < b))))
  | .leq => sameK j k (K (.bool (decide (a ≤ b))))
  | .gtr => sameK j k (K (.bool (decide (b < a))))
  | .geq => sameK j k (K (.bool (decide (b ≤ a))))
def strLt (a b : List UInt8) : Bool := Op.bytesLess a b
def binStr (op : BinOp) (s t : ByteArray) (K : Value → Prop) : Prop :=
  match op with
  | .add => reqW ((tl s).length + (tl t).length ≤ 9223372036854775807) (K (.string (bs (tl s ++ tl t))))
  | .eql => K (.bool (decide (tl s = tl t)))
  | .neq => K (.bool (!decide (tl s = tl t)))
  | .lss => K (.bool (strLt (tl s) (tl t)))
  | .leq => K (.bool (strLt (tl s) (tl t) || decide (tl s = tl t)))
  | .gtr => K (.bool (!(strLt (tl s) (tl t) || decide (tl s = tl t))))
  | .geq => K (.bool (!strLt (tl s) (tl t)))
  | _ => False
/-- '==' beside numbers and strings. -/
def eqV (d : TD) (x y : Value) (K : Bool → Prop) : Prop :=
  match d, x, y with
  | .bool, .bool a, .bool b => K (a == b)
  | .slice _, .slice none _ _, .slice b _ _ => K b.isNone
  | .slice _, .slice a _ _, .slice none _ _ => K a.isNone
  | .ptr _, .pointer none, .pointer b => K b.isNone
  | .ptr _, .pointer a, .pointer none => K a.isNone
  | .map _ _, .map none, .map b => K b.isNone
  | .map _ _, .map a, .map none => K a.isNone
  | .func, .nilFunc, .nilFunc => K true
  | .func, .func _ _ _, .nilFunc => K false
  | .func, .nilFunc, .func _ _ _ => K false
  | _, _, _ => False
def binV (T : TT) (op : BinOp) (t : Nat) (x y : Value) (K : Value → Prop) : Prop :=
  match x, y with
  | .int j a, .int k b => binInt op j a k b K
  | .string s, .string r => binStr op s r K
  | .bool a, .bool b => (match op with | .eql => eqV (tat T t).d (.bool a) (.bool b) fun r => K (.bool r) | .neq => eqV (tat T t).d (.bool a) (.bool b) fun r => K (.bool !r) | _ => False)
  | .slice a n c, .slice a' n' c' => (match op with | .eql => eqV (tat T t).d (.slice a n c) (.slice a' n' c') fun r => K (.bool r) | .neq => eqV (tat T t).d (.slice a n c) (.slice a' n' c') fun r => K (.bool !r) | _ => False)
  | .map a, .map b => (match op with | .eql => eqV (tat T t).d (.map a) (.map b) fun r => K (.bool r) | .neq => eqV (tat T t).d (.map a) (.map b) fun r => K (.bool !r) | _ => False)
  | .pointer a, .pointer b => (match op with | .eql => eqV (tat T t).d (.pointer a) (.pointer b) fun r => K (.bool r) | .neq => eqV (tat T t).d (.pointer a) (.pointer b) fun r => K (.bool !r) | _ => False)
  | .func f a c, .nilFunc => (match op with | .eql => eqV (tat T t).d (.func f a c) .nilFunc fun r => K (.bool r) | .neq => eqV (tat T t).d (.func f a c) .nilFunc fun r => K (.bool !r) | _ => False)
  | .nilFunc, .func f a c => (match op with | .eql => eqV (tat T t).d .nilFunc (.func f a c) fun r => K (.bool r) | .neq => eqV (tat T t).d .nilFunc (.func f a c) fun r => K (.bool !r) | _ => False)
  | .nilFunc, .nilFunc => (match op with | .eql => eqV (tat T t).d .nilFunc .nilFunc fun r => K (.bool r) | .neq => eqV (tat T t).d .nilFunc .nilFunc fun r => K (.bool !r) | _ => False)
  | _, _ => False

theorem sameK_out {j k : IntKind} {X : Prop} (h : sameK j k X) : j = k ∧ X := by
  unfold sameK at h
  split at h
  · rename_i hb; exact ⟨ikN_inj hb, h⟩
  · exact h.elim
section
variable {P : Program} {T : TT} {w : World}
theorem binInt_run (op : BinOp) (t : Nat) (j : IntKind) (a : Int) (k : IntKind) (b : Int) (K : Value → Prop) (h : binInt op j a k b K) :
    ∃ v, (binOp op t (.int j a) (.int k b)).run P w = .ok v w ∧ K v := by
  have ge : ∀ x y : Int, decide (x > y) = decide (y < x) := fun x y => rfl
  have gq : ∀ x y : Int, decide (x ≥ y) = decide (y ≤ x) := fun x y => rfl
  cases op <;> simp only [binInt] at h
  case shl => obtain ⟨h0, hK⟩ := req_out h; exact ⟨_, by simp only [binOp, Op.shift]; rw [if_neg (by omega)]; rfl, hK⟩
  case shr => obtain ⟨h0, hK⟩ := req_out h; exact ⟨_, by simp only [binOp, Op.shift]; rw [if_neg (by omega)]; rfl, hK⟩
  case quo => obtain ⟨e, h2⟩ := sameK_out h; subst e; obtain ⟨h0, hK⟩ := req_out h2; exact ⟨_, by simp only [binOp, ne_eq, not_true, if_false, Op.intDiv]; rw [if_neg h0]; rfl, hK⟩
  case rem => obtain ⟨e, h2⟩ := sameK_out h; subst e; obtain ⟨h0, hK⟩ := req_out h2; exact ⟨_, by simp only [binOp, ne_eq, not_true, if_false, Op.intDiv]; rw [if_neg h0]; rfl, hK⟩
  case eql => obtain ⟨e, h2⟩ := sameK_out h; subst e; exact ⟨_, by simp only [binOp, ne_eq, not_true, if_false, Op.intCmp]; rfl, by rw [Bool.beq_eq_decide_eq]; exact h2⟩
  case neq => obtain ⟨e, h2⟩ := sameK_out h; subst e; exact ⟨_, by simp only [binOp, ne_eq, not_true, if_false, Op.intCmp]; rfl, by rw [bne, Bool.beq_eq_decide_eq]; exact h2⟩
  all_goals (obtain ⟨e, h2⟩ := sameK_out h; subst e; exact ⟨_, by simp only [binOp, ne_eq, not_true, if_false, Op.intArith, Op.intBits, Op.intCmp]; rfl, h2⟩)
end
end B
end Go.Proofs.YtdbihpobfcbmeaaDoor
