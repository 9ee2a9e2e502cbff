/- The heads of the loop of PlainFits, as states over variables; the kernel goes through all ways between them. -/
import Derived.Test.YtofkapncgmjcfaaGreatRows
import Derived.Test.YtofkapncgmjcfaaGreatG1
namespace Go.Proofs.YtofkapncgmjcfaaGreat.plainFits
open Go Go.Gz Go.RowKit

noncomputable def ents : List Ent := [⟨16, yesRes⟩, entG (pFew 15), entG (pCheck 44), entG (pRight 32), entG (pFit 28), entG (pRFit 47), entG (pOf 43), entG (pOf 46)]
noncomputable def mk : Facts → Value → Option Bool := dec1 (orM (loopM (sy 5131 []) 7 60) cbM)
noncomputable def live : List Nat := [1, 2, 3, 7]
noncomputable def gens : List Nat := [7]
noncomputable def GS : Facts := [(sy 80008 [sy 1067 []], true)]
noncomputable def begin_ : Option (List Value × AF) := match absArgs Tryz.prog 0 [24, 3, 25] with
  | some l => match enterF Tryz.prog 4 l .normal with
    | some e => some ⟨l, e⟩
    | none => none
  | none => none
noncomputable def run0 (e : AF) : List (Facts × Ans) := match e with
  | ⟨x, mode, todo, tm⟩ => expl Tryz.prog (smOf ents) mk (fun _ => true) 1000000 200 GS ⟨x, mode, todo, tm, [], 0, .none⟩
noncomputable def start : List (Facts × Ans) := match begin_ with
  | some ⟨_, e⟩ => run0 e
  | none => []
noncomputable def at_ : X × List AI := match stp start with
  | some p => p
  | none => (⟨0, 0, [], .normal, none⟩, [])
noncomputable def X0 : X := match at_ with
  | ⟨x, _⟩ => x
noncomputable def T0 : List AI := match at_ with
  | ⟨_, t⟩ => t
noncomputable def len : Value := sy 675 [sy 5131 []]
noncomputable def G0 : Facts := (sy 296 [sy 65544 [sy 1067 []]], false) :: (sy 232 [len, .int .i64 60], false) :: GS
noncomputable def h0 : Head := ⟨[.agg ⟨[sy 16778252 [], sy 16779276 [], sy 16780300 []]⟩, sy 3075 [], sy 5131 [], .pointer (some ⟨0, 0, none⟩), .tuple ⟨[]⟩, .tuple ⟨[]⟩, sy 17170444 [], .int .i64 0, .agg ⟨[sy 17302540 [], sy 17303564 [], sy 17304588 []]⟩, sy 17367052 [], sy 17432588 [], sy 17498124 [], sy 17563660 [], sy 17629196 [], sy 17694732 [], sy 17760268 [], .tuple ⟨[]⟩, .tuple ⟨[]⟩, .tuple ⟨[]⟩, .tuple ⟨[]⟩, .tuple ⟨[]⟩, .tuple ⟨[]⟩, .tuple ⟨[]⟩, .tuple ⟨[]⟩, .tuple ⟨[]⟩, .tuple ⟨[]⟩, .tuple ⟨[]⟩, .tuple ⟨[]⟩, .tuple ⟨[]⟩, .tuple ⟨[]⟩, .tuple ⟨[]⟩, .tuple ⟨[]⟩, .tuple ⟨[]⟩, .tuple ⟨[]⟩, .tuple ⟨[]⟩, .tuple ⟨[]⟩, .tuple ⟨[]⟩, .tuple ⟨[]⟩, .tuple ⟨[]⟩],
  [.cells [sy 1027 [], sy 1043 [], sy 1067 []] 24 false],
  G0, sy 35 [len, .int .i64 0]⟩
noncomputable def h1 : Head := ⟨[.agg ⟨[sy 16778252 [], sy 16779276 [], sy 16780300 []]⟩, sy 3075 [], sy 5131 [], .pointer (some ⟨0, 0, none⟩), .tuple ⟨[]⟩, .tuple ⟨[]⟩, sy 17170444 [], sy 131075 [], .agg ⟨[sy 17302540 [], sy 17303564 [], sy 17304588 []]⟩, sy 17367052 [], sy 17432588 [], sy 17498124 [], sy 17563660 [], sy 17629196 [], sy 17694732 [], sy 17760268 [], .tuple ⟨[]⟩, sy 17891340 [], sy 17956876 [], sy 18022412 [], sy 18087948 [], sy 18153484 [], sy 18219020 [], .agg ⟨[sy 18285580 [], sy 18286604 [], sy 18287628 []]⟩, sy 18350092 [], sy 18415628 [], sy 18481164 [], sy 18546700 [], sy 18612236 [], sy 18677772 [], .agg ⟨[sy 18744332 [], sy 18745356 [], sy 18746380 []]⟩, sy 18808844 [], sy 18874380 [], sy 18939916 [], sy 19005452 [], sy 19070988 [], sy 19136524 [], sy 19202060 [], .tuple ⟨[]⟩],
  [.cells [sy 1027 [], sy 1043 [], sy 1067 []] 24 false],
  (sy 248 [sy 131075 [], .int .i64 0], true) :: G0, sy 35 [len, sy 131075 []]⟩
noncomputable def heads : List Head := [h0, h1]
noncomputable def runs (h : Head) : List (Facts × Ans) := match h with
  | ⟨slots, objs, Γ, _⟩ => expl Tryz.prog (smOf ents) mk (fun _ => true) 1000000 200 Γ (mkS X0 T0 slots objs)
noncomputable def left_ (h : Head) : List Obl := match h with
  | ⟨slots, objs, Γ, r⟩ => oblsOf Tryz.prog live gens mk false r heads (runs ⟨slots, objs, Γ, r⟩)
theorem begins : begin_.isSome = true := by kernel_rfl
theorem left0 : nilB (oblsOf Tryz.prog live gens mk true undef heads start) = true := by kernel_rfl
theorem stops0 : stopsL start = List.replicate 1 (X0, T0) := by kernel_rfl
theorem left1 : nilB (left_ h0) = true := by kernel_rfl
theorem stops1 : stopsL (runs h0) = List.replicate 7 (X0, T0) := by kernel_rfl
theorem left2 : nilB (left_ h1) = true := by kernel_rfl
theorem stops2 : stopsL (runs h1) = List.replicate 7 (X0, T0) := by kernel_rfl
end Go.Proofs.YtofkapncgmjcfaaGreat.plainFits
