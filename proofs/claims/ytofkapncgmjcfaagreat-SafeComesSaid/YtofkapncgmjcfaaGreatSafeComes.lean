/- lapidary/lapidarylaw24.SafeComes: for every input the law returns true, and each argument reads afterwards as it read before; no condition. The run is gone through by the evaluator of the Gz texts, in the kernel. -/
import Derived.Test.YtofkapncgmjcfaaGreatRows
import Derived.Test.YtofkapncgmjcfaaGreatSafeComesFa
import Derived.Test.YtofkapncgmjcfaaGreatSafeComesFb
import Derived.Test.YtofkapncgmjcfaaGreatSafeComesFc
import Derived.Test.YtofkapncgmjcfaaGreatSafeComesYes
import Derived.Test.YtofkapncgmjcfaaGreatGzDec
namespace Go.Proofs.YtofkapncgmjcfaaGreat.safeComes
open Go Go.Gz Go.ChangeShapes Go.WideShapes Go.ChangeAt Go.RowKit

theorem own : ownKnob Tryz.prog.godebug = none := by kernel_rfl
theorem types : Tryz.f5.params.toList = [3, 3] := by rw [Tryz.params5]
theorem kinds : ([3, 3].all fun t => (zl Tryz.prog 20 t).isSome && (Tryz.prog.readableRec t && decide (t < Tryz.prog.types.size))) = true := by kernel_rfl

set_option maxRecDepth 100000 in
theorem lifted (os : Os) (started : os.Started) (H : Type) (enc : TypeId × Value → H) :
    ReturnsInHanded {} Tryz.checked os 5 .any (Rows.safeComesSpec.pre6 enc Tryz.prog Tryz.f5 Rows.safeComesRow.domain false) (Rows.safeComesSpec.post enc Tryz.prog Tryz.f5 false true false false) := by
  refine returnsInHanded_of_change (C := Tryz.checked) own started (by kernel_rfl) Tryz.func5
    (ChangeSpec.witness6 (enc := enc) (C := Tryz.checked) false ⟨#[], #[.int .i64 0, .int .i64 0], []⟩ 8 (by kernel_rfl) (by kernel_rfl) (by kernel_rfl) (by kernel_rfl)) ?_
  intro W base args ds gs before hval0 hW hcnd _
  have hval : ∀ (j : Nat) t v, Tryz.f5.params[j]? = some t → args[j]? = some v → Value.okWide Tryz.prog W .any base t v := hval0
  have hW' := hW
  obtain ⟨p, q, hA0, hV, hpq, hfz, hnd⟩ := hW
  have hA : DataW.TrodAll enc Tryz.prog W 0 (fun _ => true) true Tryz.f5.params.toList args.toList ds p := hA0
  obtain ⟨rfl, _⟩ := trodVars_none hV
  have hk := List.all_eq_true.1 kinds
  obtain ⟨av, hav⟩ := opened_of small (b0 := base) Tryz.f5.params.toList args.toList ds p (fun t ht => by rw [types] at ht; exact (Bool.and_eq_true_iff.1 (hk t ht)).1) hA
    fun j t v h1 h2 => hval j t v (by simpa using h1) (by simpa using h2)
  rw [types] at hav hA
  obtain ⟨_, _, d0, ds0, _, _, _, rfl, _, _, r0⟩ := trodAll_cons hA
  obtain ⟨_, _, d1, ds1, _, _, _, rfl, _, _, r1⟩ := trodAll_cons r0
  obtain ⟨_, rfl, _⟩ := trodAll_nil r1
  have hc := walk hav W
  rw [Array.toArray_toList] at hc
  refine hc.mono fun e W' ⟨he, hg⟩ => ?_
  subst he
  exact ⟨_, rfl, law_post k1 (fun t ht => by
    rw [types] at ht
    have := (Bool.and_eq_true_iff.1 (hk t ht)).2
    rw [Bool.and_eq_true, decide_eq_true_eq] at this
    exact this) rfl rfl rfl rfl rfl Tryz.underlying4 hW' hg⟩

set_option maxRecDepth 100000 in
theorem closed : joinedFacts Tryz.prog 5 Tryz.f5 Rows.safeComesSpec Rows.safeComesRow = true := by
  unfold joinedFacts
  simp only [Bool.and_eq_true]
  exact ⟨⟨⟨⟨⟨⟨⟨⟨⟨⟨⟨⟨⟨⟨⟨⟨⟨⟨⟨⟨⟨⟨⟨⟨⟨⟨⟨⟨⟨⟨⟨k0, k1⟩, k2⟩, k3⟩, k4⟩, k5⟩, k6⟩, k7⟩, k8⟩, k9⟩, k10⟩, k11⟩, k12⟩, k13⟩, k14⟩, k15⟩, k16⟩, k17⟩, k18⟩, k19⟩, k20⟩, k21⟩, k22⟩, k23⟩, k24⟩, k25⟩, k26⟩, k27⟩, k28⟩, k29⟩, k30⟩, k31⟩

theorem over : Rows.safeComesRow.holds Tryz.pinned (OpenSpec.ofChange Rows.safeComesSpec) :=
  OpenClaim.holds_of_wide 5 Tryz.f5 rfl rfl rfl rfl rfl rfl rfl ⟨rfl, rfl, rfl, rfl, rfl⟩ rfl rfl rfl rfl rfl (by kernel_rfl) Tryz.func5 closed
    (of_decide_eq_true (by kernel_rfl)) (by unfold Func.isWrapper; first | (rw [if_pos (by decide +kernel)]; kernel_rfl) | (rw [if_neg (by decide +kernel)]; exact ⟨rfl, rfl⟩))
    (fun os started H enc _ => lifted os started H enc)

theorem proved : Rows.SafeComesSaid :=
  over
end Go.Proofs.YtofkapncgmjcfaaGreat.safeComes
