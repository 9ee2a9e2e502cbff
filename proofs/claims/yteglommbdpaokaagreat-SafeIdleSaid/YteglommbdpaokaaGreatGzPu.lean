/- Contracts of functions that only compute, as data: what is asked, what is answered. What the codes mean stands in G1. -/
import Derived.Test.YteglommbdpaokaaGreatGzG
namespace Go.Gz
open Go Go.Gx Go.RowKit
abbrev cTx (i : Nat) : Ap := ⟨80008, [.l i]⟩
abbrev cRight : Ap := ⟨65560, [.l 0, .l 1, .l 2]⟩
abbrev rC (op : Nat) (ix : List Ix) : R2 := .l (.ap ⟨op, ix⟩)
abbrev rK (n : Int) : R2 := .l (.ix (.k (.int .i64 n)))
noncomputable def pFew (f : FuncId) : Pu := ⟨f, [.st [3, 3, 11]], .req (cTx 2) true (.ans (.one (rC 65544 [.l 2])))⟩
noncomputable def pRight (f : FuncId) : Pu := ⟨f, [.st [3, 3, 11]], .req (cTx 2) true (.req ⟨65544, [.l 2]⟩ true (.ans (.one (rC 65560 [.l 0, .l 1, .l 2]))))⟩
noncomputable def pCheck (f : FuncId) : Pu := ⟨f, [.st [3, 3, 11]], .req (cTx 2) true (.ask cRight (.ans (.one (rK 0))) (.ans (.one (rK 2))))⟩
noncomputable def pFit (f : FuncId) : Pu := ⟨f, [.st [3, 3, 11], .lf 7], .req (cTx 2) true (.ans (.one (rC 65592 [.l 0, .l 1, .l 2, .l 3])))⟩
noncomputable def pRFit (f : FuncId) : Pu := ⟨f, [.st [3, 3, 11], .lf 7], .req (cTx 2) true (.req cRight true (.ans (.one (rC 65592 [.l 0, .l 1, .l 2, .l 3]))))⟩
end Go.Gz
