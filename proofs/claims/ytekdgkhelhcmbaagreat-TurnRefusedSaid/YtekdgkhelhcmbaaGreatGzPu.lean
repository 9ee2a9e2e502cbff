/- Contracts of functions that only compute, as data: what is asked, what is answered. What the codes mean stands in G1. -/
import Derived.Test.YtekdgkhelhcmbaaGreatGzG
namespace Go.Gz
open Go Go.Gx Go.RowKit

/-! Entries. The leaves of a plan are 0, 1, 2. -/
abbrev cTx (i : Nat) : Ap := ⟨80008, [.l i]⟩
abbrev cRight : Ap := ⟨65560, [.l 0, .l 1, .l 2]⟩
abbrev rC (op : Nat) (ix : List Ix) : R2 := .l (.ap ⟨op, ix⟩)
abbrev rK (n : Int) : R2 := .l (.ix (.k (.int .i64 n)))
noncomputable def pFew (f : FuncId) : Pu := ⟨f, [.st [3, 3, 11]], .req (cTx 2) true (.ans (.one (rC 65544 [.l 2])))⟩
noncomputable def pRight (f : FuncId) : Pu := ⟨f, [.st [3, 3, 11]], .req (cTx 2) true (.req ⟨65544, [.l 2]⟩ true (.ans (.one (rC 65560 [.l 0, .l 1, .l 2]))))⟩
noncomputable def pCheck (f : FuncId) : Pu := ⟨f, [.st [3, 3, 11]], .req (cTx 2) true (.ask cRight (.ans (.one (rK 0))) (.ans (.one (rK 2))))⟩
noncomputable def pList (f : FuncId) : Pu := ⟨f, [.st [3, 3, 11], .lf 3], .req (cTx 2) true (.ask cRight
  (.ask ⟨200, [.l 3, .k (.int .i64 0)]⟩ (.ans (.tu [rK 0, rK 4])) (.ask ⟨248, [.l 3, .l 0]⟩ (.ans (.tu [rK 0, rK 4])) (.ans (.tu [rC 65571 [.l 0, .l 3], rK 0])))) (.ans (.tu [rK 0, rK 2])))⟩
noncomputable def pRList (f : FuncId) : Pu := ⟨f, [.st [3, 3, 11], .lf 3], .req cRight true (.req ⟨200, [.l 3, .k (.int .i64 0)]⟩ false (.req ⟨248, [.l 3, .l 0]⟩ false (.ans (.one (rC 65571 [.l 0, .l 3])))))⟩
noncomputable def pFit (f : FuncId) : Pu := ⟨f, [.st [3, 3, 11], .lf 7], .req (cTx 2) true (.ans (.one (rC 65592 [.l 0, .l 1, .l 2, .l 3])))⟩
noncomputable def pRFit (f : FuncId) : Pu := ⟨f, [.st [3, 3, 11], .lf 7], .req (cTx 2) true (.req cRight true (.ans (.one (rC 65592 [.l 0, .l 1, .l 2, .l 3]))))⟩
noncomputable def pInside (f : FuncId) : Pu := ⟨f, [.st [3, 3, 11], .lf 3], .req (cTx 2) true (.ans (.one (rC 65640 [.l 0, .l 1, .l 2, .l 3])))⟩
noncomputable def pRInside (f : FuncId) : Pu := ⟨f, [.st [3, 3, 11], .lf 3], .req (cTx 2) true (.req cRight true (.ans (.one (rC 65640 [.l 0, .l 1, .l 2, .l 3]))))⟩
noncomputable def pAddr (f : FuncId) : Pu := ⟨f, [.lf 7], .ans (.tu [rC 65603 [.l 0], rC 65624 [.l 0]])⟩
noncomputable def pRAddr (f : FuncId) : Pu := ⟨f, [.lf 7], .ans (.one (rC 65603 [.l 0]))⟩
noncomputable def pOf (f : FuncId) : Pu := ⟨f, [.lf 7], .ans (.one (.st [.ap ⟨65651, [.l 0]⟩, .ap ⟨65672, [.l 0]⟩, .ap ⟨65683, [.l 0]⟩]))⟩

/-- May a table of shapes be? -/
noncomputable def pShapes (f : FuncId) : Pu := ⟨f, [.lf 11], .req (cTx 0) true (.ask ⟨80024, [.l 0]⟩ (.ans (.one (rK 0))) (.ans (.one (rK 2))))⟩
noncomputable def pRShapes (f : FuncId) : Pu := ⟨f, [.lf 11], .req (cTx 0) true (.req ⟨65544, [.l 0]⟩ true (.ans (.one (rC 80024 [.l 0]))))⟩
end Go.Gz
