/- The evaluator that the kernel runs: from a run to a row. -/
import Derived.Test.YteglommbdpaokaaGreatGzF
import Derived.WalkKit
import Derived.ProofKit
import Derived.OpenShut
import Derived.Carry
namespace Go.Gz
open Go Go.Gx Go.RowKit Go.ChangeShapes Go.WideShapes Go.ChangeAt
noncomputable def badName (fn : Func) : Bool :=
 match fn.body with
 | some _ => fn.name == "runtime.NumGoroutine"
 | none => false
noncomputable def namesOk : List Func → Bool
 | [] => true
 | fn :: l => cnd (badName fn) false (namesOk l)
noncomputable def smallB (P : Program) : Bool := cnd (Nat.ble P.funcs.size 4096) (cnd (Nat.ble P.types.size 4096) (cnd (P.follows .mixedOrders) (namesOk P.funcs.toList) false) false) false
theorem namesOk_all : ∀ {l : List Func}, namesOk l = true → ∀ fn ∈ l, fn.body.isSome = true → (fn.name == "runtime.NumGoroutine") = false
 | [], _, fn, h, _ => by simp at h
 | f :: l, hl, fn, h, hb => by
   unfold namesOk at hl
   rw [zaa] at hl
   split at hl
   ·cases hl
   ·rename_i h1
    rcases List.mem_cons.1 h with rfl | h
    ·obtain ⟨c, hc⟩ := Option.isSome_iff_exists.1 hb
     unfold badName at h1
     rw [hc] at h1
     exact Bool.eq_false_iff.2 h1
    ·exact namesOk_all hl fn h hb
theorem small_of {P : Program} (h : smallB P = true) : Small P := by
 unfold smallB at h
 rw [zaa] at h
 split at h
 ·rename_i h1
  rw [zaa] at h
  split at h
  ·rename_i h2
   rw [zaa] at h
   split at h
   ·rename_i h3
    exact ⟨zaw h1, zaw h2, h3, fun f fn hf hb => namesOk_all h fn (by
     have : P.funcs.toList[f]? = some fn := by simpa using hf
     exact List.mem_of_getElem? this) hb⟩
   ·cases h
  ·cases h
 ·cases h
theorem trodAll_stays {H : Type} {enc : TypeId × Value → H} {P : Program} (hl : laidOutB P = true) {W W' : World} (hb : Below W.heap.size W W') : ∀ (ts : List TypeId) (vs : List Value) (ds : List (DataW H)) (ps : List MemPlace), (∀ t ∈ ts, P.readableRec t = true ∧ t < P.types.size) →
  DataW.TrodAll enc P W 0 (fun _ => true) true ts vs ds ps → (∀ x ∈ ps, x.block < W.heap.size) → DataW.TrodAll enc P W' 0 (fun b => decide (b < W.heap.size)) true ts vs ds ps
 | [], [], [], ps, _, h, _ => h
 | t :: ts, v :: vs, d :: ds, ps, ht, h, hlt => by
   obtain ⟨p, q, h1, h2, rfl⟩ := h
   obtain ⟨g1, g2⟩ := ht t List.mem_cons_self
   exact ⟨p, q, Below.trod hl g1 g2 h1 hb (fun x hx => hlt x (List.mem_append.2 (.inl hx))), trodAll_stays hl hb ts vs ds q (fun t h => ht t (List.mem_cons_of_mem _ h)) h2 (fun x hx => hlt x (List.mem_append.2 (.inr hx))), rfl⟩
 | [], _ :: _, _, _, _, h, _ => h.elim
 | [], [], _ :: _, _, _, h, _ => h.elim
 | _ :: _, [], _, _, _, h, _ => h.elim
 | _ :: _, _ :: _, [], _, _, h, _ => h.elim
theorem law_post {H : Type} {enc : TypeId × Value → H} {P : Program} {f : Func} {s : ChangeSpec} {apart fresh handsOn : Bool} {W W' : World} {args : Array Value} {ds : List (DataW H)} {before : List MemPlace} {t : TypeId}
  (hl : laidOutB P = true) (hr : ∀ t ∈ f.params.toList, P.readableRec t = true ∧ t < P.types.size) (hv : s.vars = []) (hs : (s.fn H ds).args = ds) (hs2 : (s.fn H ds).results = [.lit (.bool true)]) (hs3 : (s.fn H ds).vars = [])
  (hrt : f.resultTypes = #[t]) (ht : P.underlying t = some .bool)
  (hW : DataW.Whole enc P f.params.toList s.vars apart W args.toList ds [] before) (hb : Below W.heap.size W W') : s.post enc P f apart fresh handsOn false W args (.bool true) W' := by
 have hlt := hW.lt
 have hW' := hW
 obtain ⟨p, q, hA, hV, rfl, _, _⟩ := hW
 rw [hv] at hV
 have hq : q = [] := hV
 subst hq
 refine ⟨ds, [], p ++ [], [], p, [], hW', ?_, ?_, ?_, World.keptBut_mono (fun x hx => ⟨hx, ?_⟩) (hb.frame (· ∈ p ++ [])), fun h => by cases h⟩
 ·rw [List.append_nil, hs2, hrt]
  exact trodAll_cons_mk (shut_bool ht _) trodAll_mk0
 ·rw [List.append_nil, hs]
  exact trodAll_stays hl hb _ _ _ _ hr hA fun x hx => hlt x (List.mem_append.2 (.inl hx))
 ·rw [List.append_nil, hs3, hv]; rfl
 ·rw [List.append_nil] at hx; exact .inr (.inl hx)
end Go.Gz
