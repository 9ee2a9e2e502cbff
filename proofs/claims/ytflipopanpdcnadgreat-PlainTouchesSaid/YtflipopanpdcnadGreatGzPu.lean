/- Contracts of functions that only compute, as data: what is asked, what is answered. What the codes mean stands in G1. -/
import Derived.Test.YtflipopanpdcnadGreatGzG
namespace Go.Gz
open Go Go.Gx Go.RowKit
abbrev cTx (i : Nat) : Ap := ⟨80008, [.l i]⟩
abbrev cRight : Ap := ⟨65560, [.l 0, .l 1, .l 2]⟩
abbrev rC (op : Nat) (ix : List Ix) : R2 := .l (.ap ⟨op, ix⟩)
abbrev rK (n : Int) : R2 := .l (.ix (.k (.int .i64 n)))
noncomputable def pFew (f : FuncId) : Pu := ⟨f, [.st [3, 3, 11]], .req (cTx 2) true (.ans (.one (rC 65544 [.l 2])))⟩
noncomputable def pRight (f : FuncId) : Pu := ⟨f, [.st [3, 3, 11]], .req (cTx 2) true (.req ⟨65544, [.l 2]⟩ true (.ans (.one (rC 65560 [.l 0, .l 1, .l 2]))))⟩
noncomputable def pCheck (f : FuncId) : Pu := ⟨f, [.st [3, 3, 11]], .req (cTx 2) true (.ask cRight (.ans (.one (rK 0))) (.ans (.one (rK 2))))⟩
noncomputable def pFit (f : FuncId) : Pu := ⟨f, [.st [3, 3, 11], .lf 7], .req (cTx 2) true (.ans (.one (rC 65592 [.l 0, .l 1, .l 2, .l 3])))⟩
noncomputable def pRFit (f : FuncId) : Pu := ⟨f, [.st [3, 3, 11], .lf 7], .req (cTx 2) true (.req cRight true (.ans (.one (rC 65592 [.l 0, .l 1, .l 2, .l 3]))))⟩
noncomputable def pAddr (f : FuncId) : Pu := ⟨f, [.lf 7], .ans (.tu [rC 65603 [.l 0], rC 65624 [.l 0]])⟩
noncomputable def pRAddr (f : FuncId) : Pu := ⟨f, [.lf 7], .ans (.one (rC 65603 [.l 0]))⟩
noncomputable def pOf (f : FuncId) : Pu := ⟨f, [.lf 7], .ans (.one (.st [.ap ⟨65651, [.l 0]⟩, .ap ⟨65672, [.l 0]⟩, .ap ⟨65683, [.l 0]⟩]))⟩
noncomputable def pShapes (f : FuncId) : Pu := ⟨f, [.lf 11], .req (cTx 0) true (.ask ⟨80024, [.l 0]⟩ (.ans (.one (rK 0))) (.ans (.one (rK 2))))⟩
noncomputable def pHOf (f : FuncId) : Pu := ⟨f, [.lf 7], .ask ⟨65720, [.l 0]⟩ (.ans (.tu [.st [.ap ⟨65731, [.l 0]⟩, .ap ⟨65747, [.l 0]⟩], .l (.ix (.k (.bool true)))])) (.ans (.tu [.st [.ix (.k (.int .i64 0)), .ix (.k (.int .i64 0))], .l (.ix (.k (.bool false)))]))⟩
noncomputable def pShSize (f : FuncId) : Pu := ⟨f, [.lf 11, .lf 3], .req (cTx 0) true (.req ⟨80024, [.l 0]⟩ true (.ask ⟨65832, [.l 0, .l 1]⟩ (.ans (.tu [rC 65795 [.l 0, .l 1], rK 0])) (.ans (.tu [rK 0, rK 130]))))⟩
noncomputable def pField (f : FuncId) : Pu := ⟨f, [.st [3, 3, 3, 3, 3, 3, 3, 3]], .ask ⟨65864, [.l 0]⟩ (.ans (.tu [rC 65843 [.l 0], .l (.ix (.k (.bool true)))])) (.ans (.tu [rK 0, .l (.ix (.k (.bool false)))]))⟩
noncomputable def pRField (f : FuncId) : Pu := ⟨f, [.st [3, 3, 3, 3, 3, 3, 3, 3]], .ask ⟨65864, [.l 0]⟩ (.ans (.one (rC 65843 [.l 0]))) (.ans (.one (rK (-1))))⟩
noncomputable def pPart (f : FuncId) : Pu := ⟨f, [.st [3, 3, 11], .lf 3], .req (cTx 2) true (.req ⟨65640, [.l 0, .l 1, .l 2, .l 3]⟩ true (.ans (.tu [.st [.ix (.k (.int .i64 6)), .ap ⟨65763, [.l 0, .l 1, .l 3]⟩, .ap ⟨65779, [.l 0, .l 1, .l 3]⟩], rK 0])))⟩
noncomputable def pRSpace (f : FuncId) : Pu := ⟨f, [.st [3, 3, 11], .lf 3], .req ⟨65640, [.l 0, .l 1, .l 2, .l 3]⟩ true (.ans (.one (rC 65763 [.l 0, .l 1, .l 3])))⟩
end Go.Gz
