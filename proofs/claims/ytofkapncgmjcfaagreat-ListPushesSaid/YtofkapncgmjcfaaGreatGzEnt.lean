import Derived.Test.YtofkapncgmjcfaaGreatGzDec
namespace Go.Gz
open Go Go.RowKit
noncomputable def tPlan : Value := .agg ⟨[sy (opc 64 3) [], sy (opc 65 3) [], sy (opc 66 11) []]⟩
noncomputable def tThr : Value := sy (opc 192 3) []
noncomputable def tFew : Value := sy (opc 4096 8) []
noncomputable def tRight : Value := sy (opc 4097 8) []
noncomputable def tList : Value := sy (opc 4098 3) []
noncomputable def tNeg : Value := sy (opc 12 8) [tThr, .int .i64 0]
noncomputable def tMany : Value := sy (opc 15 8) [tThr, sy (opc 64 3) []]
noncomputable def isWord (w : Value) : Bool := match sortOf w with
  | some s => Nat.beq s 7
  | none => false
noncomputable def known (hp : Hp) (c : Value) (b : Bool) : Bool := match decH hp c with
  | some b' => cnd b b' (!b')
  | none => false
noncomputable def askd (hp : Hp) (c : Value) (y n : EntR) : EntR := match decH hp c with
  | some b => cnd b y n
  | none => .ask c
noncomputable def rFew : List Value → Hp → EntR
  | [p], _ => cnd (veq 1000 p tPlan) (.ans tFew) .no
  | _, _ => .no
noncomputable def rRight : List Value → Hp → EntR
  | [p], hp => cnd (veq 1000 p tPlan && known hp tFew true) (.ans tRight) .no
  | _, _ => .no
noncomputable def two (a b : Value) : Value := .tuple ⟨[a, b]⟩
noncomputable def rList : List Value → Hp → EntR
  | [p, t], hp => cnd (veq 1000 p tPlan && veq 1000 t tThr)
    (askd hp tRight (askd hp tNeg (.ans (two (.int .i64 0) (.int .i64 4))) (askd hp tMany (.ans (two (.int .i64 0) (.int .i64 4))) (.ans (two tList (.int .i64 0))))) (.ans (two (.int .i64 0) (.int .i64 2)))) .no
  | _, _ => .no
noncomputable def rRList : List Value → Hp → EntR
  | [p, t], hp => cnd (veq 1000 p tPlan && (veq 1000 t tThr && (known hp tRight true && (known hp tNeg false && known hp tMany false)))) (.ans tList) .no
  | _, _ => .no
noncomputable def rFit : List Value → Hp → EntR
  | [p, w], _ => cnd (veq 1000 p tPlan && isWord w) (.ans (sy (opc 4099 8) [w])) .no
  | _, _ => .no
noncomputable def rRFit : List Value → Hp → EntR
  | [p, w], hp => cnd (veq 1000 p tPlan && (isWord w && known hp tRight true)) (.ans (sy (opc 4099 8) [w])) .no
  | _, _ => .no
noncomputable def rAddr : List Value → Hp → EntR
  | [w], _ => cnd (isWord w) (.ans (two (sy (opc 4100 3) [w]) (sy (opc 4101 8) [w]))) .no
  | _, _ => .no
noncomputable def rRAddr : List Value → Hp → EntR
  | [w], _ => cnd (isWord w) (.ans (sy (opc 4100 3) [w])) .no
  | _, _ => .no
noncomputable def tAt : Value := sy (opc 320 3) []
noncomputable def tIn : Value := sy (opc 4102 8) []
noncomputable def rInside : List Value → Hp → EntR
  | [p, a], _ => cnd (veq 1000 p tPlan && veq 1000 a tAt) (.ans tIn) .no
  | _, _ => .no
noncomputable def rRInside : List Value → Hp → EntR
  | [p, a], hp => cnd (veq 1000 p tPlan && (veq 1000 a tAt && known hp tRight true)) (.ans tIn) .no
  | _, _ => .no
/-- The word of a pointer, as the document makes it. -/
noncomputable def tPtr : Value := sy (opc 3 7) [.int .u64 8, sy (opc 20 7) [tAt]]
noncomputable def rPointer : List Value → Hp → EntR
  | [a], hp => cnd (veq 1000 a tAt && known hp tIn true) (.ans (two tPtr (.int .i64 0))) .no
  | _, _ => .no
end Go.Gz
