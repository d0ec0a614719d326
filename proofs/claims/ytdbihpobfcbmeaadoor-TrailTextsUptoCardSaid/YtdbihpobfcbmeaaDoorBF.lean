/- Worlds for the witnesses: the settled one, each table that a row lists holding what the row lists. -/
import Derived.Test.YtdbihpobfcbmeaaDoorBE
import Derived.Test.YtdbihpobfcbmeaaDoorCards
import Derived.Test.YtdbihpobfcbmeaaDoorTie
import Derived.WalkKit
import Derived.OpenShut
import Derived.Deep.DeepHandedRow
import Derived.Lib.LaidTab
set_option linter.unusedVariables false
set_option linter.unusedSimpArgs false
namespace Go.Proofs.YtdbihpobfcbmeaaDoor
namespace B
open Go Go.RowKit Go.ChangeShapes Go.WideShapes Go.ChangeAt

mutual
def cellsD : DataW Unit → List Value
  | .lit (.int k n) => [.int k n]
  | .agg ds => cellsDs ds
  | _ => []
def cellsDs : List (DataW Unit) → List Value
  | [] => []
  | d :: r => cellsD d ++ cellsDs r
end
noncomputable def layTab (h : Array Obj) (x : String × DataW Unit) : Array Obj := match Tryd.prog.globalNamed x.1 with
  | none => h
  | some g => h.modify g fun
    | .cells _ t fr => .cells (cellsD x.2).toArray t fr
    | o => o
noncomputable def layW (os : Os) (l : List (String × DataW Unit)) : World := { World.holding Tryd.prog os ⟨#[], #[], []⟩ with heap := l.foldl layTab (World.holding Tryd.prog os ⟨#[], #[], []⟩).heap }
theorem own : ownKnob Tryd.prog.godebug = none := by kernel_rfl
theorem laidOut : laidOutB Tryd.prog = true := by kernel_rfl
end B
end Go.Proofs.YtdbihpobfcbmeaaDoor
