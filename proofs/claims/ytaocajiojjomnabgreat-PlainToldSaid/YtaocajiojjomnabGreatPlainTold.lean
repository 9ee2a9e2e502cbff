/- lapidary/lapidarylaw20.PlainTold: for every input the law returns true, and each argument reads afterwards as it read before; no condition. The loop's heads stand in PlainToldHd, the contracts in G1. -/
import Derived.Test.YtaocajiojjomnabGreatRows
import Derived.Test.YtaocajiojjomnabGreatTr
import Derived.Test.YtaocajiojjomnabGreatPlainToldHd1
namespace Go.Proofs.YtaocajiojjomnabGreat.plainTold
open Go Go.Gz Go.ChangeShapes Go.WideShapes Go.ChangeAt Go.RowKit

theorem small : Small Tryz.prog := small_of (by kernel_rfl)
theorem works : allYes (routes Tryz.prog noSm (facts noMore) 1000000 1000 5 [] []) = true := by kernel_rfl
theorem entsOk {m : Mu} (h : GA m) : ∀ x ∈ ents, EntOk Tryz.prog m x := by
  intro x hx
  unfold ents at hx
  simp only [List.mem_cons, List.not_mem_nil, or_false] at hx
  rcases hx with rfl | rfl | rfl | rfl | rfl | rfl | rfl | rfl | rfl | rfl | rfl | rfl | rfl | rfl | rfl | rfl | rfl | rfl | rfl | rfl | rfl | rfl | rfl | rfl | rfl | rfl | rfl
  · exact yesEnt_ok small m (by kernel_rfl) works
  · exact gFew h.g
  · exact go_threadOk_d h
  · exact go_threadOk_p h
  · exact go_opErr_d h
  · exact go_opErr_p h
  · exact go_isErr_d h
  · exact go_isErr_p h
  · exact go_scalarW_d h
  · exact go_scalarW_p h
  · exact gFit h.g
  · exact gRFit h.g
  · exact gOf h.g
  · exact gROf h.g
  · exact gAddr h.g
  · exact gRAddr h.g
  · exact gCheck h.g
  · exact gRight h.g
  · exact gHOf h.g
  · exact gRHOf h.g
  · exact gShSize h.g
  · exact gRSize h.g
  · exact gField h.g
  · exact gRField h.g
  · exact gPart h.g
  · exact gRSpace h.g
  · exact gRB h.g
theorem allLeft : ∀ h ∈ heads, left_ h = [] ∧ ∃ n, stopsL (runs h) = List.replicate n (X0, T0) := by
  intro h hh
  unfold heads at hh
  simp only [List.mem_cons, List.not_mem_nil, or_false] at hh
  rcases hh with rfl | rfl | rfl | rfl | rfl | rfl | rfl | rfl | rfl | rfl | rfl | rfl | rfl | rfl | rfl | rfl | rfl | rfl
  · exact ⟨nilB_nil (Prod.mk.inj both0).1, _, (Prod.mk.inj both0).2⟩
  · exact ⟨nilB_nil (Prod.mk.inj both1).1, _, (Prod.mk.inj both1).2⟩
  · exact ⟨nilB_nil (Prod.mk.inj both2).1, _, (Prod.mk.inj both2).2⟩
  · exact ⟨nilB_nil (Prod.mk.inj both3).1, _, (Prod.mk.inj both3).2⟩
  · exact ⟨nilB_nil (Prod.mk.inj both4).1, _, (Prod.mk.inj both4).2⟩
  · exact ⟨nilB_nil (Prod.mk.inj both5).1, _, (Prod.mk.inj both5).2⟩
  · exact ⟨nilB_nil (Prod.mk.inj both6).1, _, (Prod.mk.inj both6).2⟩
  · exact ⟨nilB_nil (Prod.mk.inj both7).1, _, (Prod.mk.inj both7).2⟩
  · exact ⟨nilB_nil (Prod.mk.inj both8).1, _, (Prod.mk.inj both8).2⟩
  · exact ⟨nilB_nil (Prod.mk.inj both9).1, _, (Prod.mk.inj both9).2⟩
  · exact ⟨nilB_nil (Prod.mk.inj both10).1, _, (Prod.mk.inj both10).2⟩
  · exact ⟨nilB_nil (Prod.mk.inj both11).1, _, (Prod.mk.inj both11).2⟩
  · exact ⟨nilB_nil (Prod.mk.inj both12).1, _, (Prod.mk.inj both12).2⟩
  · exact ⟨nilB_nil (Prod.mk.inj both13).1, _, (Prod.mk.inj both13).2⟩
  · exact ⟨nilB_nil (Prod.mk.inj both14).1, _, (Prod.mk.inj both14).2⟩
  · exact ⟨nilB_nil (Prod.mk.inj both15).1, _, (Prod.mk.inj both15).2⟩
  · exact ⟨nilB_nil (Prod.mk.inj both16).1, _, (Prod.mk.inj both16).2⟩
  · exact ⟨nilB_nil (Prod.mk.inj both17).1, _, (Prod.mk.inj both17).2⟩
theorem rnd0 : X0.rnd = none := by kernel_rfl
theorem fn0 : X0.fn = 3 := by kernel_rfl

theorem walk {m0 : Mu} (hm0 : GA m0) (hG : Holds m0 GS) (hel : ∀ m, Cls m0 m → ElemOk m (sy 7179 []) 7) {W : World} (hk : KOk m0 W) {vs : List Value}
    (hr : ∀ l, absArgs Tryz.prog 0 [24, 31, 34, 35] = some l → RL ⟨fun _ => 0, fun _ => 0, m0⟩ 0 l vs) :
    Calls Tryz.prog 3 vs.toArray W fun o w' => o = .returned (.bool true) ∧ Below W.heap.size W w' := by
  obtain ⟨⟨l, e⟩, hb⟩ := Option.isSome_iff_exists.1 begins
  have hl : absArgs Tryz.prog 0 [24, 31, 34, 35] = some l ∧ enterF Tryz.prog 3 l .normal = some e := by
    unfold begin_ at hb
    split at hb
    · rename_i l' h1
      split at hb
      · rename_i e' h2; cases hb; exact ⟨h1, h2⟩
      · cases hb
    · cases hb
  have hs : start = run0 e := by unfold start; rw [hb]
  obtain ⟨x, mode, todo, tm⟩ := e
  have hs : start = expl Tryz.prog (smOf ents) mk (fun _ => true) 1000000 200 GS ⟨x, mode, todo, tm, [], 0, .none⟩ := hs
  refine loop_calls small (sm := smOf ents) (m0 := m0) (fun m hm => smOf_ok (entsOk (hm0.cls hm))) (mk := mk) (fun m hm => dec1_ok (moreL_ok (hm0.cls hm) (loopM_ok (hel m hm) (by decide)))) (hd := fun _ => true) (fuel := 1000000) (d := 200)
    (live := live) (gens := gens) (X0 := X0) (T := T0) (heads := heads) (Γ := GS) hl.2 rnd0 fn0 ?_ ?_ ?_ ?_ hG hk (hr l hl.1)
  · intro o ho
    rw [← hs, nilB_nil left0] at ho
    simp at ho
  · exact stops_all (by rw [← hs]; exact stops0)
  · intro h hh m _ _ o ho
    have := (allLeft h hh).1
    obtain ⟨slots, objs, Γ, r⟩ := h
    have this : oblsOf Tryz.prog live gens mk false r heads (expl Tryz.prog (smOf ents) mk (fun _ => true) 1000000 200 Γ (mkS X0 T0 slots objs)) = [] := this
    have ho : o ∈ oblsOf Tryz.prog live gens mk false r heads (expl Tryz.prog (smOf ents) mk (fun _ => true) 1000000 200 Γ (mkS X0 T0 slots objs)) := ho
    rw [this] at ho
    simp at ho
  · intro h hh
    obtain ⟨n, this⟩ := (allLeft h hh).2
    obtain ⟨slots, objs, Γ, r⟩ := h
    exact stops_all this

theorem own : ownKnob Tryz.prog.godebug = none := by kernel_rfl
theorem types : Tryz.f3.params.toList = [24, 31, 34, 35] := by rw [Tryz.params3]
theorem kinds : ([24, 31, 34, 35].all fun t => (zl Tryz.prog 20 t).isSome && (Tryz.prog.readableRec t && decide (t < Tryz.prog.types.size))) = true := by kernel_rfl

set_option maxRecDepth 100000 in
theorem lifted (os : Os) (started : os.Started) (H : Type) (enc : TypeId × Value → H) :
    ReturnsInHanded {} Tryz.checked os 3 .any (Rows.plainToldSpec.pre6 enc Tryz.prog Tryz.f3 Rows.plainToldRow.domain false) (Rows.plainToldSpec.post enc Tryz.prog Tryz.f3 false true false false) := by
  refine returnsInHanded_of_change (C := Tryz.checked) own started (by kernel_rfl) Tryz.func3
    (ChangeSpec.witness6 (enc := enc) (C := Tryz.checked) false ⟨#[], #[.agg #[.int .i64 0, .int .i64 0, .slice none 0 0], .agg #[.int .i64 0, .int .i64 0, .int .i64 0, .int .i64 0, .int .i64 0, .int .i64 0, .int .i64 0, .int .u64 0, .int .u64 0, .int .u64 0, .int .u64 0, .int .u64 0, .int .u64 0], .agg #[.int .i64 0, .int .i64 0, .int .i64 0, .int .i64 0, .int .i64 0, .int .i64 0, .int .i64 0, .int .i64 0], .slice none 0 0], []⟩ 8 (by kernel_rfl) (by kernel_rfl) (by kernel_rfl) (by kernel_rfl)) ?_
  intro W base args ds gs before hval0 hW hcnd _
  have hval : ∀ (j : Nat) t v, Tryz.f3.params[j]? = some t → args[j]? = some v → Value.okWide Tryz.prog W .any base t v := hval0
  have hW' := hW
  obtain ⟨p, q, hA0, hV, hpq, hfz, hnd⟩ := hW
  have hA : DataW.TrodAll enc Tryz.prog W 0 (fun _ => true) true Tryz.f3.params.toList args.toList ds p := hA0
  obtain ⟨rfl, _⟩ := trodVars_none hV
  have hk := List.all_eq_true.1 kinds
  have hval2 : ∀ (j : Nat) t v, Tryz.f3.params.toList[j]? = some t → args.toList[j]? = some v → Value.okWide Tryz.prog W .any base t v := fun j t v h1 h2 => hval j t v (by simpa using h1) (by simpa using h2)
  rw [types] at hA hval2
  have hA2 := hA
  obtain ⟨d0, d1, d2, d3, hgs⟩ : ∃ d0 d1 d2 d3, ds = [d0, d1, d2, d3] := by
    have r0 := hA
    obtain ⟨v0, _, d0, ds0, _, _, hl0, rfl, _, h0, r1⟩ := trodAll_cons r0
    obtain ⟨v1, _, d1, ds1, _, _, hl1, rfl, _, h1, r2⟩ := trodAll_cons r1
    obtain ⟨v2, _, d2, ds2, _, _, hl2, rfl, _, h2, r3⟩ := trodAll_cons r2
    obtain ⟨v3, _, d3, ds3, _, _, hl3, rfl, _, h3, r4⟩ := trodAll_cons r3
    obtain ⟨_, rfl, _⟩ := trodAll_nil r4
    exact ⟨d0, d1, d2, d3, rfl⟩
  subst hgs
  obtain ⟨av, hop⟩ := opened_of small (b0 := base) _ _ _ _ (fun t ht => (Bool.and_eq_true_iff.1 (hk t ht)).1) hA hval2
  have hn : av.length ≤ 31 := by rw [hop.len]; decide
  have hI := muI_arg av (GO fun r => W.heap[r]?) (fun r => W.heap[r]?) hn
  have hG := ga_mu av (fun r => W.heap[r]?)
  have hc := walk hG (fun c b hcb => by
    unfold GS at hcb
    simp only [List.mem_cons, List.not_mem_nil, or_false, Prod.mk.injEq] at hcb
    rcases hcb with ⟨rfl, rfl⟩
    · exact start_texts small hA hop hI rfl hG.g (p := 0) (j := 2) (t := 24) (u := 22) (ss := [3, 3, 11]) (us := [3, 3, 22]) rfl (by kernel_rfl) (by kernel_rfl) rfl rfl (by decide) Tryz.underlying22 Tryz.underlying66 (by kernel_rfl)) (fun m hm => start_nums small hA hop (m := m) (fun p j s cs v h1 h2 h3 h4 => by
      have := hI p j s cs v h1 h2 h3 h4
      have hp := (List.getElem?_eq_some_iff.1 h3).1
      rw [hm.2 _ _ (by have : opc (64 + 128 * p + j) s / 16 = 64 + 128 * p + j := by (show (16 * (64 + 128 * p + j) + s) / 16 = _; omega)
                       rw [this]; omega)]
      exact this) hm.1 (p := 3) (j := 0) (t := 35) (u := 35) (ss := [11]) (us := [35]) rfl (by kernel_rfl) (by kernel_rfl) rfl rfl (by decide) Tryz.underlying35 Tryz.underlying28 (by kernel_rfl) rfl)
    (W := W) (fun r o hr => hr) (vs := args.toList) (fun l hl => absArgs_rel 0 l hop hl fun q j s cs v h1 h2 h3 h4 => by
      have := hI q j s cs v h1 h2 h3 h4
      rw [Nat.zero_add]; exact this)
  rw [Array.toArray_toList] at hc
  refine hc.mono fun e W' ⟨he, hg⟩ => ?_
  subst he
  exact ⟨_, rfl, law_post (by kernel_rfl) (fun t ht => by
    rw [types] at ht
    have := (Bool.and_eq_true_iff.1 (hk t ht)).2
    rw [Bool.and_eq_true, decide_eq_true_eq] at this
    exact this) rfl rfl rfl rfl rfl Tryz.underlying4 hW' hg⟩

theorem over : Rows.plainToldRow.holds Tryz.pinned (OpenSpec.ofChange Rows.plainToldSpec) :=
  OpenClaim.holds_of_wide 3 Tryz.f3 rfl rfl rfl rfl rfl rfl rfl ⟨rfl, rfl, rfl, rfl, rfl⟩ rfl rfl rfl rfl rfl (by kernel_rfl) Tryz.func3 (by kernel_rfl)
    (of_decide_eq_true (by kernel_rfl)) (by unfold Func.isWrapper; first | (rw [if_pos (by decide +kernel)]; kernel_rfl) | (rw [if_neg (by decide +kernel)]; exact ⟨rfl, rfl⟩))
    (fun os started H enc _ => lifted os started H enc)

theorem proved : Rows.PlainToldSaid :=
  over
end Go.Proofs.YtaocajiojjomnabGreat.plainTold
