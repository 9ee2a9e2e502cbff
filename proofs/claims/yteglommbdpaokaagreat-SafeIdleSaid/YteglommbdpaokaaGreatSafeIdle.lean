/- lapidary/lapidarylaw24.SafeIdle: for every input the law returns true, and each argument reads afterwards as it read before; no condition. The contracts stand in G1, the functions' trees in C3. -/
import Derived.Test.YteglommbdpaokaaGreatRows
import Derived.Test.YteglommbdpaokaaGreatC3
namespace Go.Proofs.YteglommbdpaokaaGreat.safeIdle
open Go Go.Gz Go.ChangeShapes Go.WideShapes Go.ChangeAt Go.RowKit


theorem small : Small Tryz.prog := small_of (by kernel_rfl)
theorem works : allYes (routes Tryz.prog noSm (facts noMore) 1000000 1000 6 [] []) = true := by kernel_rfl
noncomputable def ents : List Ent := [⟨6, yesRes⟩, entG (pFew 4), entO o_threadOk_d, entO o_threadOk_p, entG (pCheck 79), entG (pRight 15)]
noncomputable def mk : Facts → Value → Option Bool := dec1 (mkSI)
noncomputable def GS : Facts := [(sy 80008 [sy 1067 []], true)]
theorem entsOk {m : Mu} (h : GA m) : ∀ x ∈ ents, EntOk Tryz.prog m x := by
  intro x hx
  unfold ents at hx
  simp only [List.mem_cons, List.not_mem_nil, or_false] at hx
  rcases hx with rfl | rfl | rfl | rfl | rfl | rfl
  · exact yesEnt_ok small m (by kernel_rfl) works
  · exact gFew h.g
  · exact go_threadOk_d h
  · exact go_threadOk_p h
  · exact gCheck h.g
  · exact gRight h.g
noncomputable def ents2 : List Ent2 := [⟨7, startRes 28⟩, ⟨35, equalRes 28⟩, ⟨10, copyRes 72 28⟩]
theorem ents2Ok {m : Mu} (h : GA m) : ∀ x ∈ ents2, Ent2Ok Tryz.prog m x := by
  intro x hx
  have _h := h
  unfold ents2 at hx
  simp only [List.mem_cons, List.not_mem_nil, or_false] at hx
  rcases hx with rfl | rfl | rfl
  · exact gStart h.g
  · exact gEqual
  · exact gCopy
noncomputable def args : List Value := match absArgs Tryz.prog 0 [24, 31] with
  | some l => l
  | none => []
theorem argsAre : absArgs Tryz.prog 0 [24, 31] = some args := by kernel_rfl
theorem yes : allYes (routes Tryz.prog (smO ents2 (smOf ents)) mk 1000000 400 3 args GS) = true := by kernel_rfl

theorem own : ownKnob Tryz.prog.godebug = none := by kernel_rfl
theorem types : Tryz.f3.params.toList = [24, 31] := by rw [Tryz.params3]
theorem kinds : ([24, 31].all fun t => (zl Tryz.prog 20 t).isSome && (Tryz.prog.readableRec t && decide (t < Tryz.prog.types.size))) = true := by kernel_rfl

set_option maxRecDepth 100000 in
theorem lifted (os : Os) (started : os.Started) (H : Type) (enc : TypeId × Value → H) :
    ReturnsInHanded {} Tryz.checked os 3 .any (Rows.safeIdleSpec.pre6 enc Tryz.prog Tryz.f3 Rows.safeIdleRow.domain false) (Rows.safeIdleSpec.post enc Tryz.prog Tryz.f3 false true false false) := by
  refine returnsInHanded_of_change (C := Tryz.checked) own started (by kernel_rfl) Tryz.func3
    (ChangeSpec.witness6 (enc := enc) (C := Tryz.checked) false ⟨#[], #[.agg #[.int .i64 0, .int .i64 0, .slice none 0 0], .agg #[.int .i64 0, .int .i64 0, .int .i64 0, .int .i64 0, .int .i64 0, .int .i64 0, .int .i64 0, .int .u64 0, .int .u64 0, .int .u64 0, .int .u64 0, .int .u64 0, .int .u64 0]], []⟩ 8 (by kernel_rfl) (by kernel_rfl) (by kernel_rfl) (by kernel_rfl)) ?_
  intro W base args' ds gs before hval0 hW hcnd _
  have hval : ∀ (j : Nat) t v, Tryz.f3.params[j]? = some t → args'[j]? = some v → Value.okWide Tryz.prog W .any base t v := hval0
  have hW' := hW
  obtain ⟨p, q, hA0, hV, hpq, hfz, hnd⟩ := hW
  have hA : DataW.TrodAll enc Tryz.prog W 0 (fun _ => true) true Tryz.f3.params.toList args'.toList ds p := hA0
  obtain ⟨rfl, _⟩ := trodVars_none hV
  have hk := List.all_eq_true.1 kinds
  have hval2 : ∀ (j : Nat) t v, Tryz.f3.params.toList[j]? = some t → args'.toList[j]? = some v → Value.okWide Tryz.prog W .any base t v := fun j t v h1 h2 => hval j t v (by simpa using h1) (by simpa using h2)
  rw [types] at hA hval2
  obtain ⟨d0, d1, hgs⟩ : ∃ d0 d1, ds = [d0, d1] := by
    have r0 := hA
    obtain ⟨v0, _, d0, ds0, _, _, hl0, rfl, _, h0, r1⟩ := trodAll_cons r0
    obtain ⟨v1, _, d1, ds1, _, _, hl1, rfl, _, h1, r2⟩ := trodAll_cons r1
    obtain ⟨_, rfl, _⟩ := trodAll_nil r2
    exact ⟨d0, d1, rfl⟩
  subst hgs
  obtain ⟨av, hop⟩ := opened_of small (b0 := base) _ _ _ _ (fun t ht => (Bool.and_eq_true_iff.1 (hk t ht)).1) hA hval2
  have hn : av.length ≤ 31 := by rw [hop.len]; decide
  have hI := muI_arg av (GO fun r => W.heap[r]?) (fun r => W.heap[r]?) hn
  have hG := ga_mu av (fun r => W.heap[r]?)
  have hGS : Holds ⟨muI av (GO fun r => W.heap[r]?), fun r => W.heap[r]?⟩ GS := fun c b hcb => by
    unfold GS at hcb
    simp only [List.mem_cons, List.not_mem_nil, or_false, Prod.mk.injEq] at hcb
    rcases hcb with ⟨rfl, rfl⟩
    · exact start_texts small hA hop hI rfl hG.g (p := 0) (j := 2) (t := 24) (u := 22) (ss := [3, 3, 11]) (us := [3, 3, 22]) rfl (by kernel_rfl) (by kernel_rfl) rfl rfl (by decide) Tryz.underlying22 Tryz.underlying54 (by kernel_rfl)
  have hc := routes_yes small (smO_ok (smOf_ok (entsOk hG)) (ents2Ok hG)) (mk := mk) (dec1_ok (mkSI_ok hG)) (fuel := 1000000) (d := 400) (f := 3) (args := args) (args' := args'.toList) (Γ := GS) (fun r hr _ => allYes_mem yes r hr) hGS (w := W) (fun r o hr => hr)
    (absArgs_rel 0 _ hop argsAre fun q j s cs v h1 h2 h3 h4 => by
      have := hI q j s cs v h1 h2 h3 h4
      rw [Nat.zero_add]; exact this)
  rw [Array.toArray_toList] at hc
  refine hc.mono fun e W' ⟨he, hg⟩ => ?_
  subst he
  exact ⟨_, rfl, law_post (by kernel_rfl) (fun t ht => by
    rw [types] at ht
    have := (Bool.and_eq_true_iff.1 (hk t ht)).2
    rw [Bool.and_eq_true, decide_eq_true_eq] at this
    exact this) rfl rfl rfl rfl rfl Tryz.underlying4 hW' hg⟩

theorem over : Rows.safeIdleRow.holds Tryz.pinned (OpenSpec.ofChange Rows.safeIdleSpec) :=
  OpenClaim.holds_of_wide 3 Tryz.f3 rfl rfl rfl rfl rfl rfl rfl ⟨rfl, rfl, rfl, rfl, rfl⟩ rfl rfl rfl rfl rfl (by kernel_rfl) Tryz.func3 (by kernel_rfl)
    (of_decide_eq_true (by kernel_rfl)) (by unfold Func.isWrapper; first | (rw [if_pos (by decide +kernel)]; kernel_rfl) | (rw [if_neg (by decide +kernel)]; exact ⟨rfl, rfl⟩))
    (fun os started H enc _ => lifted os started H enc)

theorem proved : Rows.SafeIdleSaid :=
  over
end Go.Proofs.YteglommbdpaokaaGreat.safeIdle
