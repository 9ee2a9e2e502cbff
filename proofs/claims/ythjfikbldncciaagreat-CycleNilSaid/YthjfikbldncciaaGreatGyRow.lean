/- The evaluator that the kernel runs: from a run to a row. -/
import Derived.Test.YthjfikbldncciaaGreatGyZ
import Derived.WalkKit
import Derived.ProofKit
import Derived.OpenShut
namespace Go.Gy
open Go Go.Gx Go.RowKit Go.ChangeShapes Go.WideShapes Go.ChangeAt

noncomputable def badName (fn : Func) : Bool :=
  match fn.body with
  | some _ => fn.name == "runtime.NumGoroutine"
  | none => false
noncomputable def namesOk : List Func → Bool
  | [] => true
  | fn :: l => cnd (badName fn) false (namesOk l)
noncomputable def smallB (P : Program) : Bool := cnd (Nat.ble P.funcs.size 4096) (cnd (Nat.ble P.types.size 4096) (cnd (P.follows .mixedOrders) (namesOk P.funcs.toList) false) false) false
theorem namesOk_all : ∀ {l : List Func}, namesOk l = true → ∀ fn ∈ l, fn.body.isSome = true → (fn.name == "runtime.NumGoroutine") = false
  | [], _, fn, h, _ => by simp at h
  | f :: l, hl, fn, h, hb => by
    unfold namesOk at hl
    rw [cnd_ite] at hl
    split at hl
    · cases hl
    · rename_i h1
      rcases List.mem_cons.1 h with rfl | h
      · obtain ⟨c, hc⟩ := Option.isSome_iff_exists.1 hb
        unfold badName at h1
        rw [hc] at h1
        exact Bool.eq_false_iff.2 h1
      · exact namesOk_all hl fn h hb
theorem small_of {P : Program} (h : smallB P = true) : Small P := by
  unfold smallB at h
  rw [cnd_ite] at h
  split at h
  · rename_i h1
    rw [cnd_ite] at h
    split at h
    · rename_i h2
      rw [cnd_ite] at h
      split at h
      · rename_i h3
        exact ⟨ble_le h1, ble_le h2, h3, fun f fn hf hb => namesOk_all h fn (by
          have : P.funcs.toList[f]? = some fn := by simpa using hf
          exact List.mem_of_getElem? this) hb⟩
      · cases h
    · cases h
  · cases h

theorem post_below {H : Type} {enc : TypeId × Value → H} {P : Program} {f : Func} {s : ChangeSpec} {apart fresh handsOn again : Bool} {W W' : World} {args : Array Value} {v : Value} {ds gs : List (DataW H)} {before pa pv : List MemPlace}
    (hW : DataW.Whole enc P f.params.toList s.vars apart W args.toList ds gs before)
    (hres : ∀ (b : Nat) (sp : Nat → Bool) (hd : Bool), DataW.TrodAll enc P W' b sp hd f.resultTypes.toList (v.resultList f.resultTypes.size) (s.fn H (ds ++ gs)).results [])
    (hargs : ∀ sp : Nat → Bool, (∀ p ∈ before, sp p.block = true) → DataW.TrodAll enc P W' 0 sp true f.params.toList args.toList (s.fn H (ds ++ gs)).args pa)
    (hvars : ∀ sp : Nat → Bool, (∀ p ∈ before, sp p.block = true) → DataW.TrodVars enc P W' sp s.vars (s.fn H (ds ++ gs)).vars pv)
    (hps : before = pa ++ pv) (hb : Below W.heap.size W W')
    (hok : ∀ (j : Nat) (t : TypeId) (r : Value), f.resultTypes[j]? = some t → (v.resultList f.resultTypes.size)[j]? = some r → Value.okWide P W' .any 0 t r) :
    s.post enc P f apart fresh handsOn again W args v W' := by
  have hlt := hW.lt
  have hold : ∀ p ∈ before, (fun b => decide (b < W.heap.size)) p.block = true := fun p hp => by simpa using hlt p hp
  refine ⟨ds, gs, before, [], pa, pv, hW, hres _ _ _, hargs _ hold, hvars _ hold, World.keptBut_mono (fun p hp => ⟨hp, ?_⟩) (hb.frame (· ∈ before)), fun _ => ?_⟩
  · rw [hps, List.mem_append] at hp
    exact Or.inr hp
  · obtain ⟨_, _, _, _, _, hz, hn⟩ := hW
    refine ⟨hok, _, _, ([] ++ pa) ++ pv, ⟨[] ++ pa, pv, trodAll_append (hargs _ (fun _ _ => rfl)) (hres _ _ _), hvars _ (fun _ _ => rfl), rfl, ?_, ?_⟩, ?_⟩
    · intro b off hp
      have hp : (.cell b off : MemPlace) ∈ before := by rw [hps]; simpa using hp
      rw [hb.frozen (hlt _ hp)]
      exact hz b off hp
    · intro ha
      have := hn ha
      rw [hps] at this
      simpa using this
    · intro p hp _
      rw [hps]
      simpa using hp
end Go.Gy
