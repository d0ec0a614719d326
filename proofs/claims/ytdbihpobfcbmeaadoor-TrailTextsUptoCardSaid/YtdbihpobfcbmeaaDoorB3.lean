/- What each operation asks, and that it suffices: the fourth part of the interpreter: the operations themselves. -/
import Derived.Test.YtdbihpobfcbmeaaDoorB2
set_option linter.unusedVariables false
set_option linter.unusedSimpArgs false
namespace Go.Proofs.YtdbihpobfcbmeaaDoor
namespace B
open Go

def pickV (c : Bool) (a b : Value) : Value := match c with | true => a | false => b
theorem pickV_eq (c : Bool) (a b : Value) : pickV c a b = if c then a else b := by
  cases c <;> rfl
def zeroOf (T : TT) (t : Nat) : List Value := match (tat T t).d with | .other => [] | _ => (tat T t).zero.map Z.val
def sizeOf? (T : TT) (t : Nat) : Option Nat := match (tat T t).d with | .other => none | _ => some (tat T t).size
def setR : List Value → Nat → List Value → List Value
  | l, _, [] => l
  | l, off, v :: r => setR (l.set off v) (off + 1) r
def fillL (place : Nat → Option (Nat × Nat)) : List Value → List (Nat × Value) → Option (List Value)
  | cells, [] => some cells
  | cells, (i, v) :: rest => match place i with
    | none => none
    | some (off, size) => match Nat.beq (cellsL v).length size, Nat.ble (off + (cellsL v).length) cells.length with
      | true, true => fillL place (setR cells off (cellsL v)) rest
      | _, _ => none
def repL : Nat → List Value → List Value
  | 0, _ => []
  | n + 1, z => z ++ repL n z
def placeS (T : TT) (fs : List (Nat × Nat)) (i : Nat) : Option (Nat × Nat) := match fs[i]? with | some (off, t) => (match sizeOf? T t with | some s => some (off, s) | none => none) | none => none
def addA (a : Addr) (n : Nat) : Addr := a.add n
def cutA (a : Option Addr) (l m sz : Nat) : Option Addr := if m = l then a else a.map (·.add (l * sz))
def loW (lo : Option Value) (K : Int → Prop) : Prop := match lo with | none => K 0 | some (.int _ i) => K i | _ => False
def hiW (hi : Option Value) (d : Nat) (K : Int → Prop) : Prop := match hi with | none => K d | some (.int _ i) => K i | _ => False
def sliceW (T : TT) (t : Nat) (x : Value) (lo hi mx : Option Value) (K : Value → Prop) : Prop :=
  match (tat T t).d, x with
  | .str, .string s => (match mx with | some _ => False | none => loW lo fun l => hiW hi (tl s).length fun h => reqW (0 ≤ l ∧ l ≤ h ∧ h ≤ ((tl s).length : Int)) (K (.string (bs (((tl s).take h.toNat).drop l.toNat)))))
  | .slice e, .slice a n c => (match sizeOf? T e with
    | none => False
    | some sz => loW lo fun l => hiW mx c fun m => hiW hi n fun h => reqW (0 ≤ l ∧ l ≤ h ∧ h ≤ m ∧ m ≤ (c : Int) ∧ (mx.isSome = true → hi.isSome = true)) (K (.slice (match lo with | none => a | some _ => cutA a l.toNat m.toNat sz) (h.toNat - l.toNat) (m.toNat - l.toNat))))
  | _, _ => False
/-- '==' of structs, and of two addresses: by its own run. -/
def bigEq : Value → Value → Bool | .agg _, _ => true | .pointer (some _), .pointer (some _) => true | _, _ => false
def argsV (ρ : Operand → Value) (l : List Operand) : List Value := l.map ρ
/-- A builtin, beside what is opened here: by its own run. -/
def builtinW (P : Program) (T : TT) (b : Builtin) (ts : Array TypeId) (rt : Nat) (args : List Value) (K : Value → World → Prop) (w : World) : Prop :=
  match b, args with
  | .len, [.string s] => (match ts[0]? with | some t => (match (tat T t).d with | .str => K (.int .i64 (tl s).length) w | _ => False) | none => False)
  | .len, [.slice _ n _] => (match ts[0]? with | some t => (match (tat T t).d with | .slice _ => K (.int .i64 n) w | _ => False) | none => False)
  | .cap, [.slice _ _ c] => (match ts[0]? with | some t => (match (tat T t).d with | .slice _ => K (.int .i64 c) w | _ => False) | none => False)
  | .min, [.int k x, .int _ y] => K (.int k (if y < x then y else x)) w
  | .max, [.int k x, .int _ y] => K (.int k (if x < y then y else x)) w
  | .len, a => semW P (Builtin.len_ ts rt ⟨a⟩) K w
  | .append, a => semW P (Builtin.append_ ts rt ⟨a⟩) K w
  | .copy, a => semW P (Builtin.copy_ ts rt ⟨a⟩) K w
  | .delete, a => semW P (Builtin.delete_ ts rt ⟨a⟩) K w
  | .clear, a => semW P (Builtin.clear_ ts rt ⟨a⟩) K w
  | .min, a => semW P (Builtin.min_ ts rt ⟨a⟩) K w
  | .max, a => semW P (Builtin.max_ ts rt ⟨a⟩) K w
  | .unsafeSliceData, a => semW P (Builtin.unsafeSliceData_ ts rt ⟨a⟩) K w
  | .unsafeString, a => semW P (Builtin.unsafeString_ ts rt ⟨a⟩) K w
  | _, _ => False
def opW (P : Program) (T : TT) (o : Op) (rt : Nat) (ρ : Operand → Value) (K : Value → World → Prop) (w : World) : Prop :=
  match o with
  | .move x | .assign x => K (ρ x) w
  | .pick c a b => (match ρ c with | .bool c => K (pickV c (ρ a) (ρ b)) w | _ => False)
  | .alloc t => (match zeroOf T t with | [] => False | z :: zs => newW (.cells ⟨z :: zs⟩ t) (fun b w => K (.pointer (some ⟨b, 0, none⟩)) w) w)
  | .box t x => newW (.cells ⟨cellsL (ρ x)⟩ t) (fun b w => K (.pointer (some ⟨b, 0, none⟩)) w) w
  | .build t parts => (match (tat T t).d, zeroOf T t with
    | .struct fs, z :: zs => (match fillL (placeS T fs) (z :: zs) (parts.toList.map fun p => (p.1, ρ p.2)) with | some cs => K (.agg ⟨cs⟩) w | none => False)
    | _, _ => semW P (Instr.build t ⟨parts.toList.map fun p => (p.1, ρ p.2)⟩) K w)
  | .buildSlice t len parts => (match (tat T t).d with
    | .slice e => (match zeroOf T e, sizeOf? T e with
      | z :: zs, some sz => (match Nat.beq sz (zs.length + 1), Nat.ble (len * sz) (2 ^ 24), fillL (fun i => some (i * sz, sz)) (repL len (z :: zs)) (parts.toList.map fun p => (p.1, ρ p.2)) with
        | true, true, some cs => newW (.cells ⟨cs⟩ e) (fun b w => K (.slice (some ⟨b, 0, none⟩) len len) w) w
        | _, _, _ => False)
      | _, _ => False)
    | _ => False)
  | .load t x => (match ρ x, sizeOf? T t with
    | .pointer (some a), some n => (match isAggD (tat T t).d with | true => loadW a n (fun vs w => K (.agg ⟨vs⟩) w) w | false => loadW a 1 (fun vs w => K (vs.headD undef) w) w)
    | _, _ => False)
  | .store t x y => (match ρ x, sizeOf? T t with
    | .pointer (some a), some n => (match Nat.beq (cellsL (ρ y)).length n with | true => storeW a (cellsL (ρ y)) (K undef) w | false => False)
    | _, _ => False)
  | .nilCheck x => (match ρ x with | .pointer (some a) => K (.pointer (some a)) w | .func (.func g) a b => K (.func (.func g) a b) w | .slice a n c => K (.slice a n c) w | .map r => K (.map r) w | _ => False)
  | .binOp op t x y _ => (match bigEq (ρ x) (ρ y) with | true => semW P (do eqGuard op t x y (ρ x) (ρ y); binOp op t (ρ x) (ρ y)) K w | false => binV T op t (ρ x) (ρ y) fun v => K v w)
  | .unOp op _ x => (match op, ρ x with | .not, .bool b => K (.bool !b) w | .neg, .int k n => K (.int k (k.wrap (0 - n))) w | op, x => semW P (Op.unary op x) K w)
  | .convert s d x => (match (tat T s).d, (tat T d).d, ρ x with
    | .other, _, _ => semW P (convert s d (ρ x)) K w
    | _, .int k, .int _ n => K (.int k (k.wrap n)) w
    | _, .str, .string t => K (.string t) w
    | _, _, _ => semW P (convert s d (ρ x)) K w)
  | .makeInterface t x => (match (tat T t).d with | .other => False | .iface => False | _ => K (.iface t (ρ x)) w)
  | .makeFunc fn a c => K (.func fn ⟨argsV ρ a.toList⟩ ⟨argsV ρ c.toList⟩) w
  | .makeMap t r => semW P (Instr.makeMap t (r.map ρ)) K w
  | .makeSlice t l c => semW P (Instr.makeSlice t (ρ l) (ρ c)) K w
  | .slice t x lo hi mx => (match (tat T t).d with | .str | .slice _ => sliceW T t (ρ x) (lo.map ρ) (hi.map ρ) (mx.map ρ) fun v => K v w | _ => semW P (Instr.sliceAt t (ρ x) (lo.map ρ) (hi.map ρ) (mx.map ρ)) K w)
  | .fieldAddr t x f => (match (tat T t).d, ρ x with
    | .struct fs, .pointer (some a) => (match fs[f]? with | some (off, _) => K (.pointer (some (addA a off))) w | none => False)
    | _, _ => False)
  | .field t x f => (match (tat T t).d, ρ x with
    | .struct fs, .agg cs => (match fs[f]? with
      | some (off, ft) => (match sizeOf? T ft, isAggD (tat T ft).d with
        | some n, true => K (.agg ⟨(cs.toList.drop off).take n⟩) w
        | some n, false => (match cs.toList[off]? with | some v => K v w | none => False)
        | none, _ => False)
      | none => False)
    | _, _ => False)
  | .indexAddr t x ix => (match (tat T t).d, ρ x, ρ ix with
    | .slice e, .slice a n _, .int _ i => (match sizeOf? T e with | some sz => idxW a n i sz fun v => K v w | none => False)
    | .arr n e, .pointer (some a), .int _ i => (match sizeOf? T e with | some sz => idxW (some a) n i sz fun v => K v w | none => False)
    | _, _, _ => False)
  | .index t x ix => (match (tat T t).d, ρ x, ρ ix with
    | .str, .string s, .int _ i => reqW (0 ≤ i ∧ i < ((tl s).length : Int)) (K (.int .u8 ((tl s).getD i.toNat 0).toNat) w)
    | _, _, _ => semW P (Instr.index t (ρ x) (ρ ix)) K w)
  | .lookup t x ix ok => semW P (Instr.lookup t (ρ x) (ρ ix) ok) K w
  | .mapUpdate t m k x | .insert t m k x => semU P (Instr.mapUpdate t (ρ m) (ρ k) (ρ x)) (K undef) w
  | .mapEntry t m k => semW P (Instr.mapEntry t (ρ m) (ρ k)) K w
  | .entryStore t m s x => semU P (Instr.entryStore t (ρ m) (ρ s) (ρ x)) (K undef) w
  | .range t x => semW P (Instr.range t (ρ x)) K w
  | .next it isString => semW P (Instr.next (ρ it) isString rt) K w
  | .entry it => semW P (Instr.entry (ρ it)) K w
  | .typeAssert x t a ok => semW P (Instr.typeAssert (ρ x) t a ok) K w
  | .extract t i => (match ρ t with | .tuple vs => (match vs.toList[i]? with | some v => K v w | none => False) | _ => False)
  | .call c => (match c.callee with
    | .value f => appV P (ρ f) (argsV ρ c.args.toList) K w
    | .builtin b => builtinW P T b c.argTypes rt (argsV ρ c.args.toList) K w
    | .invoke _ _ => False)
  | _ => False
end B
end Go.Proofs.YtdbihpobfcbmeaaDoor
