/- lapidary/lapidarylaw17.ListNil: for every input the law returns true, and each argument reads afterwards as it read before; no condition. The run is gone through by the evaluator of the Gz texts, in the kernel. -/
import Derived.Test.YtofkapncgmjcfaaRows
import Derived.Test.YtofkapncgmjcfaaGzSm
namespace Go.Proofs.Ytofkapncgmjcfaa.listNil
open Go Go.Gz Go.ChangeShapes Go.WideShapes Go.ChangeAt Go.RowKit

theorem small : Small Try.prog := small_of (by kernel_rfl)
theorem works : allYes (routes Try.prog noSm (facts noMore) 1000000 1000 7 [] []) = true := by kernel_rfl
theorem ents (m : Mu) : ∀ x ∈ ([⟨7, yesRes⟩] : List Ent), EntOk Try.prog m x := fun x hx => by
  rw [List.mem_singleton.1 hx]; exact yesEnt_ok small m (by kernel_rfl) works
theorem hall : (match absArgs Try.prog 0 [34, 34] with
    | some l => allYes (routes Try.prog (smOf [⟨7, yesRes⟩]) (facts noMore) 1000000 1000 5 l [])
    | none => false) = true := by kernel_rfl
theorem walk {vs : List Value} {av : List (List Value)} (ho : Opened Try.prog [34, 34] vs av) (w : World) : Calls Try.prog 5 vs.toArray w fun o w' => o = .returned (.bool true) ∧ Below w.heap.size w w' := by
  have h := hall
  split at h
  · rename_i l hl
    exact auto_walkE small ents hl (by decide) h ho w
  · cases h

theorem own : ownKnob Try.prog.godebug = none := by kernel_rfl
theorem types : Try.f5.params.toList = [34, 34] := by rw [Try.params5]
theorem kinds : ([34, 34].all fun t => (zl Try.prog 20 t).isSome && (Try.prog.readableRec t && decide (t < Try.prog.types.size))) = true := by kernel_rfl

set_option maxRecDepth 100000 in
theorem lifted (os : Os) (started : os.Started) (H : Type) (enc : TypeId × Value → H) :
    ReturnsInHanded {} Try.checked os 5 .any (Rows.listNilSpec.pre6 enc Try.prog Try.f5 Rows.listNilRow.domain false) (Rows.listNilSpec.post enc Try.prog Try.f5 false true false false) := by
  refine returnsInHanded_of_change (C := Try.checked) own started (by kernel_rfl) Try.func5
    (ChangeSpec.witness6 (enc := enc) (C := Try.checked) false ⟨#[], #[.int .u64 0, .int .u64 0], []⟩ 8 (by kernel_rfl) (by kernel_rfl) (by kernel_rfl) (by kernel_rfl)) ?_
  intro W base args ds gs before hval0 hW hcnd _
  have hval : ∀ (j : Nat) t v, Try.f5.params[j]? = some t → args[j]? = some v → Value.okWide Try.prog W .any base t v := hval0
  have hW' := hW
  obtain ⟨p, q, hA0, hV, hpq, hfz, hnd⟩ := hW
  have hA : DataW.TrodAll enc Try.prog W 0 (fun _ => true) true Try.f5.params.toList args.toList ds p := hA0
  obtain ⟨rfl, _⟩ := trodVars_none hV
  have hk := List.all_eq_true.1 kinds
  obtain ⟨av, hav⟩ := opened_of small (b0 := base) Try.f5.params.toList args.toList ds p (fun t ht => by rw [types] at ht; exact (Bool.and_eq_true_iff.1 (hk t ht)).1) hA
    fun j t v h1 h2 => hval j t v (by simpa using h1) (by simpa using h2)
  rw [types] at hav hA
  obtain ⟨_, _, d0, ds0, _, _, _, rfl, _, _, r0⟩ := trodAll_cons hA
  obtain ⟨_, _, d1, ds1, _, _, _, rfl, _, _, r1⟩ := trodAll_cons r0
  obtain ⟨_, rfl, _⟩ := trodAll_nil r1
  have hc := walk hav W
  rw [Array.toArray_toList] at hc
  refine hc.mono fun e W' ⟨he, hg⟩ => ?_
  subst he
  exact ⟨_, rfl, law_post (by kernel_rfl) (fun t ht => by
    rw [types] at ht
    have := (Bool.and_eq_true_iff.1 (hk t ht)).2
    rw [Bool.and_eq_true, decide_eq_true_eq] at this
    exact this) rfl rfl rfl rfl rfl Try.underlying4 hW' hg⟩

theorem over : Rows.listNilRow.holds Try.pinned (OpenSpec.ofChange Rows.listNilSpec) :=
  OpenClaim.holds_of_wide 5 Try.f5 rfl rfl rfl rfl rfl rfl rfl ⟨rfl, rfl, rfl, rfl, rfl⟩ rfl rfl rfl rfl rfl (by kernel_rfl) Try.func5 (by kernel_rfl)
    (of_decide_eq_true (by kernel_rfl)) (by unfold Func.isWrapper; first | (rw [if_pos (by decide +kernel)]; kernel_rfl) | (rw [if_neg (by decide +kernel)]; exact ⟨rfl, rfl⟩))
    (fun os started H enc _ => lifted os started H enc)

theorem proved : Rows.ListNilSaid :=
  over
end Go.Proofs.Ytofkapncgmjcfaa.listNil
