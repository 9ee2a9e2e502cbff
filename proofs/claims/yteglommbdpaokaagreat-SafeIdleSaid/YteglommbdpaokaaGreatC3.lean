/- Words of arenas and requests where a thread's state is known. -/
import Derived.Test.YteglommbdpaokaaGreatTr
import Derived.Test.YteglommbdpaokaaGreatA4
import Derived.Test.YteglommbdpaokaaGreatC2
set_option linter.unusedSimpArgs false
set_option linter.unusedVariables false
namespace Go.Proofs.YteglommbdpaokaaGreat
open Go Go.Gz Go.RowKit
set_option maxRecDepth 100000
noncomputable def exF (d : Value → Option Bool) : List Value → Facts
 | [] => []
 | c :: l => match d c with
   | some b => (c, b) :: exF d l
   | none => exF d l
noncomputable def exM (cand : Facts → List Value) (d1 d2 : Facts → Value → Option Bool) (Γ : Facts) (c : Value) : Option Bool := d2 (exF (d1 Γ) (cand Γ) ++ Γ) c
theorem exF_ok {m : Mu} {d : Value → Option Bool} (hd : ∀ c b, d c = some b → den m c = some (.bool b)) : ∀ l, Holds m (exF d l)
 | [], c, b, h => by cases h
 | x :: l, c, b, h => by
   have ih := exF_ok hd l
   replace h : (c, b) ∈ (match d x with
    | some b => (x, b) :: exF d l
    | none => exF d l) := h
   split at h
   ·rename_i b0 hb
    rcases List.mem_cons.1 h with he | h
    ·cases he; exact hd _ _ hb
    ·exact ih c b h
   ·exact ih c b h
theorem exM_ok {m : Mu} {cand : Facts → List Value} {d1 d2 : Facts → Value → Option Bool} (h1 : MkOk m d1) (h2 : MkOk m d2) : MkOk m (exM cand d1 d2) := by
 intro Γ hΓ c b h
 refine h2 _ (fun c b hc => ?_) c b h
 rcases List.mem_append.1 hc with hc | hc
 ·exact exF_ok (h1 Γ hΓ) _ c b hc
 ·exact hΓ c b hc
noncomputable def base0 : Facts → Value → Option Bool := orM (tellM tabT) anyM
theorem base0_ok {m : Mu} (h : GA m) : MkOk m base0 := orM_ok (tabT_tells h) (anyM_ok h.g.tx)
noncomputable def candP : List (Value × Value × Value) → List Value
 | [] => []
 | x :: l => match x with
   | ⟨T, S, L⟩ => sy 65560 [T, S, L] :: candP l
noncomputable def anyLT : Facts → Value → Option Bool := orM (linM rgS2) base0
noncomputable def anyGT : Facts → Value → Option Bool := orM anyLT (ruleM (dec1 anyLT) (catR [rulesG, ruleV]))
theorem anyLT_ok {m : Mu} (h : GA m) : MkOk m anyLT := orM_ok (linM_ok (rgS2_ok h.g)) (base0_ok h)
theorem rulesGV_ok {m : Mu} (hm : Glob m) : RulOk m (catR [rulesG, ruleV]) := catR_ok fun r hr => by
 simp only [List.mem_cons, List.not_mem_nil, or_false] at hr
 rcases hr with rfl | rfl
 ·exact rulesG_ok hm
 ·exact ruleV_ok
theorem anyGT_ok {m : Mu} (h : GA m) : MkOk m anyGT := orM_ok (anyLT_ok h) (ruleM_ok (dec1_ok (anyLT_ok h)) (rulesGV_ok h.g))
noncomputable def mkBT : Facts → Value → Option Bool := orM anyGT (ruleM (dec1 anyGT) rulesS)
theorem mkBT_ok {m : Mu} (h : GA m) : MkOk m mkBT := orM_ok (anyGT_ok h) (ruleM_ok (dec1_ok (anyGT_ok h)) (rulesS_ok h.g))
noncomputable def candN : Facts → List Value
 | [] => []
 | x :: l => match x with
   | ⟨c, _⟩ => match c with
     | .func (.methodOf op _) ⟨[c]⟩ _ => cnd (Nat.beq op 296) (c :: candN l) (candN l)
     | _ => candN l
noncomputable def onePl (l : List (Value × Value × Value)) : List (Value × Value × Value) :=
 match l with
 | [] => []
 | x :: _ => [x]
noncomputable def cand0 (Γ : Facts) : List Value := candP (onePl (plansOf Γ))
noncomputable def reqW (E P : Value) : Value := sy 23 [sy 55 [.int .u64 8, sy 327 [E]], sy 327 [P]]
noncomputable def reqS (E P : Value) : Subs := [(sy 323 [sy 183 [reqW E P, .int .u64 3]], E), (sy 323 [sy 103 [reqW E P, .int .u64 7]], P)]
noncomputable def reqB (E P : Value) : Facts := [(sy 200 [E, .int .i64 0], false), (sy 232 [E, .int .i64 1099511627775], false), (sy 200 [P, .int .i64 0], false), (sy 232 [P, .int .i64 6], false)]
noncomputable def req1 (Γ : Facts) (c : Value) : Subs :=
 match c with
 | .func (.methodOf op _) ⟨_ :: _ :: _ :: _ :: P :: E :: _⟩ _ => cnd (Nat.beq op 96008 || Nat.beq op 96024) (cnd (knowsL (dec1 base0) Γ (reqB E P)) (reqS E P) []) []
 | _ => []
noncomputable def reqIn (Γ : Facts) : Facts → Subs
 | [] => []
 | x :: l => match x with
   | ⟨c, b⟩ => cnd b (req1 Γ c ++ reqIn Γ l) (reqIn Γ l)
noncomputable def reqF (Γ : Facts) : Subs := reqIn Γ Γ
theorem conv_u {m : Mu} {E : Value} {e : Int} (hE : den m E = some (.int .i64 e)) (h : 0 ≤ e ∧ e ≤ 1099511627775) : den m (sy 327 [E]) = some (.int .u64 e) := by
 rw [show sy 327 [E] = .func (.methodOf 327 "") ⟨[E]⟩ #[] from rfl, den_1 (by decide) hE]
 show (match some (Value.int .u64 (IntKind.u64.wrap e)) with | some v => if srtA 7 v = true then some v else none | none => none) = _
 rw [Gx.wrap_u _ (by omega)]
 exact if_pos (zaq (u64S (by omega)))
theorem conv_i {m : Mu} {X : Value} {e : Int} (hX : den m X = some (.int .u64 e)) (h : 0 ≤ e ∧ e ≤ 1099511627775) : den m (sy 323 [X]) = some (.int .i64 e) := by
 rw [show sy 323 [X] = .func (.methodOf 323 "") ⟨[X]⟩ #[] from rfl, den_1 (by decide) hX]
 show (match some (Value.int .i64 (IntKind.i64.wrap e)) with | some v => if srtA 3 v = true then some v else none | none => none) = _
 rw [Gx.wrap_i _ (by omega)]
 exact if_pos (zaq (i64S (by omega)))
theorem and7 (e p : Int) (he : 0 ≤ e ∧ e ≤ 1099511627775) (hp : 0 ≤ p ∧ p ≤ 6) : IntKind.u64.wrap (Gx.bitsN .and .u64 (8 * e + p) 7) = p := by
 obtain ⟨k, hk⟩ : ∃ k : Nat, 8 * e + p = (k : Int) := ⟨(8 * e + p).toNat, by omega⟩
 rw [hk]
 have h1 : (BitVec.ofInt IntKind.u64.bits (k : Int)).toNat = k := by
  simp only [BitVec.ofInt_natCast, BitVec.toNat_ofNat]
  exact Nat.mod_eq_of_lt (by show k < 2 ^ 64; omega)
 have h2 : (BitVec.ofInt IntKind.u64.bits 7).toNat = 7 := by decide
 have h3 : k &&& 7 = k % 8 := Nat.and_two_pow_sub_one_eq_mod k 3
 have : Gx.bitsN .and .u64 (k : Int) 7 = k % 8 := by
  simp only [Gx.bitsN]
  rw [BitVec.toNat_and, h1, h2, h3]
 rw [this, Gx.wrap_u _ (by omega)]
 omega
theorem reqS_ok {m : Mu} {E P : Value} (hG : Holds m (reqB E P)) : SubsOk m (reqS E P) := by
 obtain ⟨k1, e, n1, d1, d2, d3⟩ := lss_inv (hG (sy 200 [E, .int .i64 0]) false (by simp [reqB]))
 obtain ⟨k2, p, n2, e1, e2, e3⟩ := lss_inv (hG (sy 200 [P, .int .i64 0]) false (by simp [reqB]))
 rw [den] at d2 e2
 cases d2
 cases e2
 have z1 := of_decide_eq_false d3.symm
 have z2 := of_decide_eq_false e3.symm
 have f1 := hG (sy 232 [E, .int .i64 1099511627775]) false (by simp [reqB])
 have f2 := hG (sy 232 [P, .int .i64 6]) false (by simp [reqB])
 rw [show sy 232 [E, .int .i64 1099511627775] = .func (.methodOf 232 "") ⟨[E, .int .i64 1099511627775]⟩ #[] from rfl, zau (by decide) d1 (show den m (.int .i64 1099511627775) = some (.int .i64 1099511627775) by rw [den]), itp_cmp (o := .gtr) (.inr (.inl ⟨rfl, rfl⟩)) rfl] at f1
 rw [show sy 232 [P, .int .i64 6] = .func (.methodOf 232 "") ⟨[P, .int .i64 6]⟩ #[] from rfl, zau (by decide) e1 (show den m (.int .i64 6) = some (.int .i64 6) by rw [den]), itp_cmp (o := .gtr) (.inr (.inl ⟨rfl, rfl⟩)) rfl] at f2
 have f1 : ¬ e > 1099511627775 := by simpa using f1
 have f2 : ¬ p > 6 := by simpa using f2
 have a1 := conv_u d1 (by omega)
 have a2 := conv_u e1 (by omega)
 have a3 : den m (sy 55 [.int .u64 8, sy 327 [E]]) = some (.int .u64 (8 * e)) := by
  rw [show sy 55 [.int .u64 8, sy 327 [E]] = .func (.methodOf 55 "") ⟨[.int .u64 8, sy 327 [E]]⟩ #[] from rfl, zau (by decide) (show den m (.int .u64 8) = some (.int .u64 8) by rw [den]) a1]
  show (match zag .mul (.int .u64 8) (.int .u64 e) with | some v => if srtA 7 v = true then some v else none | none => none) = _
  rw [zap _ _ _ rfl]
  simp only [zao]
  rw [Gx.wrap_u _ (by omega)]
  exact if_pos (zaq (u64S (by omega)))
 have a4 : den m (reqW E P) = some (.int .u64 (8 * e + p)) := by
  rw [show reqW E P = .func (.methodOf 23 "") ⟨[sy 55 [.int .u64 8, sy 327 [E]], sy 327 [P]]⟩ #[] from rfl, zau (by decide) a3 a2]
  show (match zag .add (.int .u64 (8 * e)) (.int .u64 p) with | some v => if srtA 7 v = true then some v else none | none => none) = _
  rw [zap _ _ _ rfl]
  simp only [zao]
  rw [Gx.wrap_u _ (by omega)]
  exact if_pos (zaq (u64S (by omega)))
 have a5 : den m (sy 183 [reqW E P, .int .u64 3]) = some (.int .u64 e) := by
  rw [show sy 183 [reqW E P, .int .u64 3] = .func (.methodOf 183 "") ⟨[reqW E P, .int .u64 3]⟩ #[] from rfl, zau (by decide) a4 (show den m (.int .u64 3) = some (.int .u64 3) by rw [den])]
  show (match zag .shr (.int .u64 (8 * e + p)) (.int .u64 3) with | some v => if srtA 7 v = true then some v else none | none => none) = _
  have : zag .shr (.int .u64 (8 * e + p)) (.int .u64 3) = some (.int .u64 e) := by
   show (if (3 : Int) < 0 then none else some (Value.int .u64 ((8 * e + p).fdiv (2 ^ (min (3 : Int).toNat IntKind.u64.bits))))) = _
   rw [if_neg (by decide)]
   have h8 : ((2 : Int) ^ (min (3 : Int).toNat IntKind.u64.bits)) = 8 := by decide
   rw [h8, Int.fdiv_eq_ediv_of_nonneg _ (by decide), show (8 * e + p) / 8 = e by omega]
  rw [this]
  exact if_pos (zaq (u64S (by omega)))
 have a6 : den m (sy 103 [reqW E P, .int .u64 7]) = some (.int .u64 p) := by
  rw [show sy 103 [reqW E P, .int .u64 7] = .func (.methodOf 103 "") ⟨[reqW E P, .int .u64 7]⟩ #[] from rfl, zau (by decide) a4 (show den m (.int .u64 7) = some (.int .u64 7) by rw [den])]
  show (match zag .and (.int .u64 (8 * e + p)) (.int .u64 7) with | some v => if srtA 7 v = true then some v else none | none => none) = _
  rw [zap _ _ _ rfl]
  simp only [zao]
  rw [and7 e p (by omega) (by omega)]
  exact if_pos (zaq (u64S (by omega)))
 intro x hx
 simp only [reqS, List.mem_cons, List.not_mem_nil, or_false] at hx
 rcases hx with rfl | rfl
 ·show den m E = den m (sy 323 [sy 183 [reqW E P, .int .u64 3]])
  rw [d1, conv_i a5 (by omega)]
 ·show den m P = den m (sy 323 [sy 103 [reqW E P, .int .u64 7]])
  rw [e1, conv_i a6 (by omega)]
theorem req1_ok {m : Mu} (h : GA m) {Γ : Facts} (hΓ : Holds m Γ) (c : Value) : SubsOk m (req1 Γ c) := by
 unfold req1
 split
 ·rw [zaa]
  split
  ·rw [zaa]
   split
   ·rename_i hk
    exact reqS_ok (knowsL_ok (dec1_ok (base0_ok h)) hΓ hk)
   ·exact fun x hx => by cases hx
  ·exact fun x hx => by cases hx
 ·exact fun x hx => by cases hx
theorem reqIn_ok {m : Mu} (h : GA m) {Γ : Facts} (hΓ : Holds m Γ) : ∀ l, SubsOk m (reqIn Γ l)
 | [] => fun x hx => by cases hx
 | (c, b) :: l => fun x hx => by
   have hx : x ∈ cnd b (req1 Γ c ++ reqIn Γ l) (reqIn Γ l) := hx
   rw [zaa] at hx
   split at hx
   ·rcases List.mem_append.1 hx with hx | hx
    ·exact req1_ok h hΓ c x hx
    ·exact reqIn_ok h hΓ l x hx
   ·exact reqIn_ok h hΓ l x hx
noncomputable def mkC : Facts → Value → Option Bool := orM mkBT (putM reqF (dec1 mkBT))
theorem mkC_ok {m : Mu} (h : GA m) : MkOk m mkC := orM_ok (mkBT_ok h) (putM_ok (fun Γ hΓ => reqIn_ok h hΓ Γ) (dec1_ok (mkBT_ok h)))
noncomputable def mkSI : Facts → Value → Option Bool := exM candN (dec1 anyM) (dec1 (exM cand0 (dec1 base0) (dec1 mkC)))
theorem mkSI_ok {m : Mu} (h : GA m) : MkOk m mkSI := exM_ok (dec1_ok (anyM_ok h.g.tx)) (dec1_ok (exM_ok (dec1_ok (base0_ok h)) (dec1_ok (mkC_ok h))))
end Go.Proofs.YteglommbdpaokaaGreat
