/- The heaps on the way of OperatorTaxes. -/
import Derived.Test.YtgiebkbbnjnplaaGreatDoorAbTab
namespace Go.Proofs
open Go.Ab Go

/-- The cells of the listed variables. -/
def cellsW : List AVal := [15, 50, 5, 49, 34, 81, 76, 27, 90, 9, 30, 3].map fun n => AVal.int .i64 n
def cellsM : List AVal := [0, 31, 28, 31, 30, 31, 30, 31, 31, 30, 31, 30, 31].map fun n => AVal.int .i64 n
def cellsD : List AVal := [[109, 111, 110], [116, 117, 101], [119, 101, 100], [116, 104, 117], [102, 114, 105], [115, 97, 116], [115, 117, 110]].map AVal.str
/-- The listed variables, laid. -/
noncomputable def sig0 : Heap :=
  Heap.mk 4 (T.set (T.set (T.set .leaf 0 (some (.cells cellsW))) 2 (some (.cells cellsM)))
    3 (some (.cells cellsD)))
/-- The brackets. -/
def slc : AVal := .slice (some (4, 0)) 3 3 true 2
noncomputable def sig1 : Heap := sig0.new (.cells ([0, 0, 100000, 1000, 1000000, 2000].map fun n => AVal.int .i64 n))
noncomputable def outHeap (o : Out) : Heap :=
  match o with
  | .val _ σ => σ
  | _ => sig0
/-- Behind the check of the brackets. -/
noncomputable def sig2 : Heap := outHeap (evCall fnTab 100000 198 10 [slc] sig1)

/-- Does a block hold these cells? -/
noncomputable def cellsIs (σ : Heap) (b : Nat) (cs : List AVal) : Bool :=
  match σ.get b with
  | some (.cells c) => AVal.beqs c cs
  | _ => false
/-- True, and the listed variables are as they were. -/
noncomputable def chkAll (o : Out) : Bool :=
  match o with
  | .val u σ => AVal.beq u (.bool true) && (Nat.ble 4 σ.next && (cellsIs σ 0 cellsW && (cellsIs σ 2 cellsM && cellsIs σ 3 cellsD)))
  | _ => false

end Go.Proofs
