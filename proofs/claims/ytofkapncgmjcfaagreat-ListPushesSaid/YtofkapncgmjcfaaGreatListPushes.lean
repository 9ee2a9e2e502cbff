/- lapidary/lapidarylaw17.ListPushes: for every input the law returns true, and each argument reads afterwards as it read before; no condition. The loop's heads stand in ListPushesHd, the contracts in E17. -/
import Derived.Test.YtofkapncgmjcfaaGreatRows
import Derived.Test.YtofkapncgmjcfaaGreatE17p
import Derived.Test.YtofkapncgmjcfaaGreatListPushesHd
namespace Go.Proofs.YtofkapncgmjcfaaGreat.listPushes
open Go Go.Gz Go.ChangeShapes Go.WideShapes Go.ChangeAt Go.RowKit

theorem small : Small Tryz.prog := small_of (by kernel_rfl)
theorem works : allYes (routes Tryz.prog noSm (facts noMore) 1000000 1000 7 [] []) = true := by kernel_rfl
theorem entsOk {m : Mu} {T S t a : Int} {L : List ByteArray} {p : Option Addr} {k c : Nat} (h : Ctx m T S t L p k c) (g : CtxA m T S a L) : ∀ x ∈ ents, EntOk Tryz.prog m x := by
  intro x hx
  unfold ents at hx
  simp only [List.mem_cons, List.not_mem_nil, or_false] at hx
  rcases hx with rfl | rfl | rfl | rfl | rfl | rfl | rfl | rfl | rfl | rfl
  · exact eFew h
  · exact yesEnt_ok small m (by kernel_rfl) works
  · exact eRight h
  · exact eList h
  · exact eRList h
  · exact eFit h
  · exact eRFit h
  · exact eInside h g
  · exact eRInside h g
  · exact ePointer g
theorem allLeft : ∀ h ∈ heads, left_ h = [] ∧ ∃ n, stopsL (runs h) = List.replicate n (X0, T0) := by
  intro h hh
  unfold heads at hh
  simp only [List.mem_cons, List.not_mem_nil, or_false] at hh
  rcases hh with rfl | rfl | rfl | rfl | rfl | rfl | rfl
  · exact ⟨nilB_nil left1, _, stops1⟩
  · exact ⟨nilB_nil left2, _, stops2⟩
  · exact ⟨nilB_nil left3, _, stops3⟩
  · exact ⟨nilB_nil left4, _, stops4⟩
  · exact ⟨nilB_nil left5, _, stops5⟩
  · exact ⟨nilB_nil left6, _, stops6⟩
  · exact ⟨nilB_nil left7, _, stops7⟩
theorem rnd0 : X0.rnd = none := by kernel_rfl
theorem fn0 : X0.fn = 3 := by kernel_rfl

theorem walk {m0 : Mu} {T S t a : Int} {L : List ByteArray} {p : Option Addr} {k c : Nat} (hc : Ctx m0 T S t L p k c) (hg : CtxA m0 T S a L) (hel : ∀ m, Cls m0 m → ElemOk m (sy 7179 []) 7) {W : World} (hk : KOk m0 W) {vs : List Value}
    (hr : ∀ l, absArgs Tryz.prog 0 [24, 3, 3, 25] = some l → RL ⟨fun _ => 0, fun _ => 0, m0⟩ 0 l vs) :
    Calls Tryz.prog 3 vs.toArray W fun o w' => o = .returned (.bool true) ∧ Below W.heap.size W w' := by
  obtain ⟨⟨l, e⟩, hb⟩ := Option.isSome_iff_exists.1 begins
  have hl : absArgs Tryz.prog 0 [24, 3, 3, 25] = some l ∧ enterF Tryz.prog 3 l .normal = some e := by
    unfold begin_ at hb
    split at hb
    · rename_i l' h1
      split at hb
      · rename_i e' h2; cases hb; exact ⟨h1, h2⟩
      · cases hb
    · cases hb
  have hs : start = run0 e := by unfold start; rw [hb]
  obtain ⟨x, mode, todo, tm⟩ := e
  have hs : start = expl Tryz.prog (smOf ents) mk (fun _ => true) 1000000 200 [] ⟨x, mode, todo, tm, [], 0, .none⟩ := hs
  refine loop_calls small (sm := smOf ents) (m0 := m0) (fun m hm => smOf_ok (entsOk (hc.cls hm) (hg.cls hm))) (mk := mk) (fun m hm => dec1_ok (loopM_ok (hel m hm) (by decide))) (hd := fun _ => true) (fuel := 1000000) (d := 200)
    (live := live) (gens := gens) (X0 := X0) (T := T0) (heads := heads) (Γ := []) hl.2 rnd0 fn0 ?_ ?_ ?_ ?_ (fun _ _ h => by simp at h) hk (hr l hl.1)
  · intro o ho
    rw [← hs, nilB_nil left0] at ho
    simp at ho
  · exact stops_all (by rw [← hs]; exact stops0)
  · intro h hh m _ _ o ho
    have := (allLeft h hh).1
    obtain ⟨slots, objs, Γ, r⟩ := h
    have this : oblsOf Tryz.prog live gens mk false r heads (expl Tryz.prog (smOf ents) mk (fun _ => true) 1000000 200 Γ (mkS X0 T0 slots objs)) = [] := this
    have ho : o ∈ oblsOf Tryz.prog live gens mk false r heads (expl Tryz.prog (smOf ents) mk (fun _ => true) 1000000 200 Γ (mkS X0 T0 slots objs)) := ho
    rw [this] at ho
    simp at ho
  · intro h hh
    obtain ⟨n, this⟩ := (allLeft h hh).2
    obtain ⟨slots, objs, Γ, r⟩ := h
    exact stops_all this

/-- What contracts say. -/
noncomputable def U (T S t a : Int) (L : List ByteArray) (op : Nat) (l : List Value) : Value :=
  match op with
  | 65544 => .bool (fewB L)
  | 65560 => .bool (okPlan T S L)
  | 65571 => .int .i64 (3 + T + t)
  | 65592 => match l with
    | [.int _ x] => .bool (fitB T S L x)
    | _ => undef
  | 65603 => match l with
    | [.int _ x] => .int .i64 (if kindW x = 2 then x / 8 else 0)
    | _ => undef
  | 65624 => match l with
    | [.int _ x] => .bool (decide (kindW x = 2))
    | _ => undef
  | 65640 => .bool (insideB T S L a)
  | _ => undef
theorem muI_U {av : List (List Value)} {V : Nat → List Value → Value} {op : Nat} (l : List Value) (h : 4096 ≤ op / 16) : muI av V op l = V op l := by
  unfold muI; rw [if_neg (by omega)]
theorem mkCtx {W : World} {T S t a : Int} {L : List ByteArray} {p : Option Addr} {k c : Nat} {ans : Value} {av : List (List Value)} (hav : av = [[.int .i64 T, .int .i64 S, .slice p k c], [.int .i64 t], [.int .i64 a], [ans]])
    (w0 : wfK .i64 T = true) (w1 : wfK .i64 S = true) (w2 : k < 9223372036854775808) (w3 : wfK .i64 t = true) (hs : Shp W p k L) :
    Ctx ⟨muI av (U T S t a L), fun r => W.heap[r]?⟩ T S t L p k c := by
  have ha := muI_arg av (U T S t a L) (fun r => W.heap[r]?) (by rw [hav]; exact (by decide : 4 ≤ 31))
  have h0 : av[0]? = some [.int .i64 T, .int .i64 S, .slice p k c] := by rw [hav]; rfl
  have h1 : av[1]? = some [.int .i64 t] := by rw [hav]; rfl
  refine ⟨ha 0 0 3 _ _ (by decide) (by decide) h0 rfl, ha 0 1 3 _ _ (by decide) (by decide) h0 rfl, ha 0 2 11 _ _ (by decide) (by decide) h0 rfl, ha 1 0 3 _ _ (by decide) (by decide) h1 rfl, w0, w1, w2, w3, fun w hk => ?_,
    muI_U (av := av) (V := U T S t a L) (op := 65544) [] (by decide), muI_U (av := av) (V := U T S t a L) (op := 65560) [] (by decide), fun _ => muI_U (av := av) (V := U T S t a L) (op := 65571) [] (by decide), fun x => muI_U (av := av) (V := U T S t a L) (op := 65592) [.int .u64 x] (by decide), fun x _ => muI_U (av := av) (V := U T S t a L) (op := 65603) [.int .u64 x] (by decide), fun x => muI_U (av := av) (V := U T S t a L) (op := 65624) [.int .u64 x] (by decide)⟩
  refine ⟨hs.len, ?_⟩
  rcases hs.ats with g | ⟨b, off, cs, ty, z, e1, e2, e3⟩
  · exact .inl g
  · exact .inr ⟨b, off, cs, ty, z, e1, hk b _ e2, e3⟩

theorem mkCtxA {W : World} {T S t a : Int} {L : List ByteArray} {p : Option Addr} {k c : Nat} {ans : Value} {av : List (List Value)} (hav : av = [[.int .i64 T, .int .i64 S, .slice p k c], [.int .i64 t], [.int .i64 a], [ans]]) (w4 : wfK .i64 a = true) :
    CtxA ⟨muI av (U T S t a L), fun r => W.heap[r]?⟩ T S a L := by
  have ha := muI_arg av (U T S t a L) (fun r => W.heap[r]?) (by rw [hav]; exact (by decide : 4 ≤ 31))
  have h2 : av[2]? = some [.int .i64 a] := by rw [hav]; rfl
  exact ⟨ha 2 0 3 _ _ (by decide) (by decide) h2 rfl, w4, muI_U (av := av) (V := U T S t a L) (op := 65640) [] (by decide)⟩

theorem own : ownKnob Tryz.prog.godebug = none := by kernel_rfl
theorem types : Tryz.f3.params.toList = [24, 3, 3, 25] := by rw [Tryz.params3]
theorem kinds : ([24, 3, 3, 25].all fun t => (zl Tryz.prog 20 t).isSome && (Tryz.prog.readableRec t && decide (t < Tryz.prog.types.size))) = true := by kernel_rfl
theorem zPlan : zl Tryz.prog 20 24 = some [3, 3, 11] := by kernel_rfl
theorem cShapes : Tryz.prog.cellsOf 22 = 1 := by kernel_rfl
theorem cShape : Tryz.prog.cellsOf 54 = 1 := by kernel_rfl
theorem cWord : Tryz.prog.cellsOf 34 = 1 := by kernel_rfl

theorem sorted3 {cs : List Value} (h : Sorted [3, 3, 11] cs) : ∃ T S p k c, cs = [.int .i64 T, .int .i64 S, .slice p k c] ∧ wfK .i64 T = true ∧ wfK .i64 S = true ∧ k < 9223372036854775808 := by
  have i64 : ∀ {v : Value}, srt 3 v = true → ∃ n, v = .int .i64 n ∧ wfK .i64 n = true := fun {v} h => by
    obtain ⟨k, a, rfl, hk, hw⟩ := srt_num (by decide) h
    have : k = .i64 := by cases k <;> first | rfl | cases hk
    subst this
    exact ⟨a, rfl, hw⟩
  match cs, h with
  | [a, b, d], ⟨h1, h2, h3, _⟩ =>
    obtain ⟨T, rfl, w0⟩ := i64 h1
    obtain ⟨S, rfl, w1⟩ := i64 h2
    obtain ⟨p, k, c, rfl, w2⟩ := srt_slice h3
    exact ⟨T, S, p, k, c, rfl, w0, w1, w2⟩
set_option maxRecDepth 100000 in
theorem planOpen {H : Type} {enc : TypeId × Value → H} {W : World} {base b0 : Nat} {v : Value} {d : DataW H} {ps : List MemPlace} (hv : Value.okWide Tryz.prog W .any base 24 v) (h : DataW.Trod enc Tryz.prog W b0 (fun _ => true) true 24 v d ps) :
    ∃ T S p k c L, v = .agg #[.int .i64 T, .int .i64 S, .slice p k c] ∧ wfK .i64 T = true ∧ wfK .i64 S = true ∧ k < 9223372036854775808 ∧ Shp W p k L := by
  obtain ⟨cs, rfl, _⟩ := okWide_struct Tryz.underlying24 hv
  obtain ⟨fuel, hf⟩ := h
  have hf : DataW.trod enc Tryz.prog W b0 (fun _ => true) true fuel 24 cs.toList = some (d, ps) := hf
  obtain ⟨T, S, p, k, c, hcs, w0, w1, w2⟩ := sorted3 (zl_sorted small 20 fuel 24 _ _ _ zPlan hf)
  obtain ⟨xs, n, _, _, _, hlen, hall⟩ := DataW.trod_struct Tryz.underlying24 hf
  have h2 := hall 2 _ rfl
  have h3 : ∃ x, DataW.trod enc Tryz.prog W b0 (fun _ => true) true n 22 ((cs.toList.drop 2).take (Tryz.prog.cellsOf 22)) = some x := by
    have hx : 2 < xs.length := by rw [hlen]; decide
    rw [List.getElem?_eq_getElem hx] at h2
    exact ⟨_, h2⟩
  obtain ⟨x, hx⟩ := h3
  rw [cShapes, hcs] at hx
  obtain ⟨a, len, cap, L, e1, e2, e3⟩ := texts_open Tryz.underlying22 Tryz.underlying54 cShape hx
  have e1 : [Value.slice p k c] = [.slice a len cap] := e1
  cases e1
  refine ⟨T, S, p, k, c, L, by rw [← hcs], w0, w1, w2, e2, ?_⟩
  rcases e3 with g | ⟨b, off, ct, ty, f, g1, g2, g3⟩
  · exact .inl g
  · exact .inr ⟨b, off, ct.toList, ty, f, g1, by rw [Array.toArray_toList]; exact g2, g3⟩

set_option maxRecDepth 100000 in
theorem lifted (os : Os) (started : os.Started) (H : Type) (enc : TypeId × Value → H) :
    ReturnsInHanded {} Tryz.checked os 3 .any (Rows.listPushesSpec.pre6 enc Tryz.prog Tryz.f3 Rows.listPushesRow.domain false) (Rows.listPushesSpec.post enc Tryz.prog Tryz.f3 false true false false) := by
  refine returnsInHanded_of_change (C := Tryz.checked) own started (by kernel_rfl) Tryz.func3
    (ChangeSpec.witness6 (enc := enc) (C := Tryz.checked) false ⟨#[], #[.agg #[.int .i64 0, .int .i64 0, .slice none 0 0], .int .i64 0, .int .i64 0, .slice none 0 0], []⟩ 8 (by kernel_rfl) (by kernel_rfl) (by kernel_rfl) (by kernel_rfl)) ?_
  intro W base args ds gs before hval0 hW hcnd _
  have hval : ∀ (j : Nat) t v, Tryz.f3.params[j]? = some t → args[j]? = some v → Value.okWide Tryz.prog W .any base t v := hval0
  have hW' := hW
  obtain ⟨p, q, hA0, hV, hpq, hfz, hnd⟩ := hW
  have hA : DataW.TrodAll enc Tryz.prog W 0 (fun _ => true) true Tryz.f3.params.toList args.toList ds p := hA0
  obtain ⟨rfl, _⟩ := trodVars_none hV
  have hk := List.all_eq_true.1 kinds
  have hval2 : ∀ (j : Nat) t v, Tryz.f3.params.toList[j]? = some t → args.toList[j]? = some v → Value.okWide Tryz.prog W .any base t v := fun j t v h1 h2 => hval j t v (by simpa using h1) (by simpa using h2)
  rw [types] at hA hval2
  have hA2 := hA
  obtain ⟨v0, _, d0, ds0, _, _, hl0, rfl, _, h0, r0⟩ := trodAll_cons hA
  obtain ⟨v1, _, d1, ds1, _, _, rfl, rfl, _, h1, r1⟩ := trodAll_cons r0
  obtain ⟨v2, _, d2, ds2, _, _, rfl, rfl, _, h2, r2⟩ := trodAll_cons r1
  obtain ⟨v3, _, d3, ds3, _, _, rfl, rfl, _, h3, r3⟩ := trodAll_cons r2
  obtain ⟨rfl, rfl, _⟩ := trodAll_nil r3
  rw [hl0] at hval2 hA2
  obtain ⟨T, S, sp, k, c, L, rfl, w0, w1, w2, hs⟩ := planOpen (hval2 0 _ _ rfl rfl) h0
  obtain ⟨t, rfl, _, _, wt⟩ := open_int Tryz.underlying3 (hval2 1 _ _ rfl rfl) h1
  have w3 : wfK .i64 t = true := wfK_wf wt
  obtain ⟨a, rfl, _, _, wa⟩ := open_int Tryz.underlying3 (hval2 2 _ _ rfl rfl) h2
  have w4 : wfK .i64 a = true := wfK_wf wa
  obtain ⟨fuel, hf⟩ := h3
  obtain ⟨sa, sl, sc, e1, hel⟩ := nums_open Tryz.underlying25 Tryz.underlying34 cWord hf
  obtain ⟨a', l', c', rfl⟩ := okWide_slice Tryz.underlying25 (hval2 3 _ _ rfl rfl)
  have e1 : [Value.slice a' l' c'] = [.slice sa sl sc] := e1
  cases e1
  have hsl : srt 11 (.slice sa sl sc) = true := by
    obtain ⟨av, hav⟩ := opened_of small (b0 := base) _ _ _ _ (fun t ht => (Bool.and_eq_true_iff.1 (hk t ht)).1) hA2 hval2
    cases hav with
    | one _ _ _ _ _ s hz hs ha h => rw [zPlan] at hz; cases hz
    | agg _ _ _ _ _ _ _ _ _ h =>
      cases h with
      | one _ _ _ _ _ _ _ _ _ h =>
        cases h with
        | one _ _ _ _ _ _ _ _ _ h =>
        cases h with
        | one _ _ _ _ _ s hz hs _ _ =>
          have : zl Tryz.prog 20 25 = some [11] := by kernel_rfl
          rw [this] at hz
          cases hz
          exact hs
  have hop : Opened Tryz.prog [24, 3, 3, 25] [.agg #[.int .i64 T, .int .i64 S, .slice sp k c], .int .i64 t, .int .i64 a, .slice sa sl sc] [[.int .i64 T, .int .i64 S, .slice sp k c], [.int .i64 t], [.int .i64 a], [.slice sa sl sc]] := by
    exact .agg _ _ #[.int .i64 T, .int .i64 S, .slice sp k c] _ _ [3, 3, 11] zPlan ⟨srt_int (k := .i64) w0, srt_int (k := .i64) w1, Nat.ble_eq_true_of_le w2, trivial⟩ (by kernel_rfl)
      (.one _ _ _ _ _ 3 (by kernel_rfl) (srt_int (k := .i64) w3) (by kernel_rfl) (.one _ _ _ _ _ 3 (by kernel_rfl) (srt_int (k := .i64) w4) (by kernel_rfl) (.one _ _ _ _ _ 11 (by kernel_rfl) hsl (by kernel_rfl) .nil)))
  let av : List (List Value) := [[.int .i64 T, .int .i64 S, .slice sp k c], [.int .i64 t], [.int .i64 a], [.slice sa sl sc]]
  have hc := walk (mkCtx (ans := .slice sa sl sc) (av := av) rfl w0 w1 w2 w3 hs) (mkCtxA (ans := .slice sa sl sc) (av := av) rfl w4) (fun m hm ad len cap hd i hi => by
    have hi0 : m.I (opc 448 11) [] = .slice sa sl sc := by
      rw [hm.2 _ _ (by decide)]
      exact muI_arg av _ _ (by decide : 4 ≤ 31) 3 0 11 _ _ (by decide) (by decide) rfl rfl
    have hden : some (Value.slice sa sl sc) = some (.slice ad len cap) := (den_cell (m := m) (c := 448) (s := 11) (by decide) (by decide) hi0 hsl).symm.trans hd
    cases hden
    obtain ⟨b, off, ct, ty, f, x, e1, e2, e3, e4⟩ := hel i hi
    exact ⟨b, off, ct, ty, f, x, e1, by rw [hm.1]; exact e2, e3, e4⟩) (W := W) (fun r o hr => hr) (vs := args.toList) (fun l hl => by
      rw [hl0]
      exact absArgs_rel 0 l hop hl fun q j s cs v h1 h2 h3 h4 => by
        have := muI_arg av (U T S t a L) (fun r => W.heap[r]?) (by decide : 4 ≤ 31) q j s cs v h1 h2 h3 h4
        rw [Nat.zero_add]; exact this)
  rw [Array.toArray_toList] at hc
  refine hc.mono fun e W' ⟨he, hg⟩ => ?_
  subst he
  exact ⟨_, rfl, law_post (by kernel_rfl) (fun t ht => by
    rw [types] at ht
    have := (Bool.and_eq_true_iff.1 (hk t ht)).2
    rw [Bool.and_eq_true, decide_eq_true_eq] at this
    exact this) rfl rfl rfl rfl rfl Tryz.underlying4 hW' hg⟩

theorem over : Rows.listPushesRow.holds Tryz.pinned (OpenSpec.ofChange Rows.listPushesSpec) :=
  OpenClaim.holds_of_wide 3 Tryz.f3 rfl rfl rfl rfl rfl rfl rfl ⟨rfl, rfl, rfl, rfl, rfl⟩ rfl rfl rfl rfl rfl (by kernel_rfl) Tryz.func3 (by kernel_rfl)
    (of_decide_eq_true (by kernel_rfl)) (by unfold Func.isWrapper; first | (rw [if_pos (by decide +kernel)]; kernel_rfl) | (rw [if_neg (by decide +kernel)]; exact ⟨rfl, rfl⟩))
    (fun os started H enc _ => lifted os started H enc)

theorem proved : Rows.ListPushesSaid :=
  over
end Go.Proofs.YtofkapncgmjcfaaGreat.listPushes
