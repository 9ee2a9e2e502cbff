/- Functions that only compute, summed up as trees, or as opaque codes: printed by tree.py, checked by the kernel. -/
import Derived.Test.YteglommbdpaokaaGreatR1
namespace Go.Proofs.YteglommbdpaokaaGreat
open Go Go.Gz Go.RowKit
theorem small0 : Small Tryz.prog := small_of (by kernel_rfl)
noncomputable def im_threadOk : List (Value × Facts) := [(.bool true, [(sy 65560 [pvar 0 3, pvar 1 3, pvar 2 11], true), (sy 65592 [pvar 0 3, pvar 1 3, pvar 2 11, pvar 10 7], true), (sy 65592 [pvar 0 3, pvar 1 3, pvar 2 11, pvar 11 7], true), (sy 65592 [pvar 0 3, pvar 1 3, pvar 2 11, pvar 12 7], true), (sy 65592 [pvar 0 3, pvar 1 3, pvar 2 11, pvar 13 7], true), (sy 65592 [pvar 0 3, pvar 1 3, pvar 2 11, pvar 14 7], true), (sy 65592 [pvar 0 3, pvar 1 3, pvar 2 11, pvar 15 7], true), (sy 200 [pvar 4 3, .int .i64 0], false), (sy 232 [pvar 4 3, .int .i64 6], false), (sy 200 [pvar 5 3, .int .i64 0], false), (sy 232 [pvar 5 3, .int .i64 1099511627775], false)])]
noncomputable def x_threadOk_d : Ot := ⟨⟨5, [0, 1, 2, 3, 4, 5, 6, 7, 8, 9, 10, 11, 12, 13, 14, 15], [.st [3, 3, 11], .st [3, 3, 3, 3, 3, 3, 3, 7, 7, 7, 7, 7, 7]]⟩, .node (sy 296 [sy 65560 [sy 131075 [], sy 131091 [], sy 131115 []]])
 (.leaf (.bool false))
 (.node (sy 200 [sy 131123 [], .int .i64 0])
 (.leaf (.bool false))
 (.node (sy 248 [sy 131123 [], sy 131075 []])
 (.leaf (.bool false))
 (.node (sy 200 [sy 131139 [], .int .i64 0])
 (.leaf (.bool false))
 (.node (sy 232 [sy 131139 [], .int .i64 6])
 (.leaf (.bool false))
 (.node (sy 200 [sy 131155 [], .int .i64 0])
 (.leaf (.bool false))
 (.node (sy 232 [sy 131155 [], .int .i64 1099511627775])
 (.leaf (.bool false))
 (.node (sy 200 [sy 131171 [], .int .i64 0])
 (.leaf (.bool false))
 (.node (sy 232 [sy 131171 [], .int .i64 1])
 (.leaf (.bool false))
 (.node (sy 280 [sy 131187 [], sy 131171 []])
 (.leaf (.bool false))
 (.node (sy 280 [sy 131187 [], .int .i64 0])
 (.node (sy 280 [sy 131187 [], .int .i64 1])
 (.leaf (.bool false))
 (.node (sy 200 [sy 131219 [], .int .i64 0])
 (.leaf (.bool false))
 (.node (sy 264 [sy 131219 [], .int .i64 0])
 (.node (sy 296 [sy 264 [sy 131203 [], .int .i64 0]])
 (.leaf (.bool false))
 (.node (sy 296 [sy 65592 [sy 131075 [], sy 131091 [], sy 131115 [], sy 131239 []]])
 (.leaf (.bool false))
 (.node (sy 296 [sy 65592 [sy 131075 [], sy 131091 [], sy 131115 [], sy 131255 []]])
 (.leaf (.bool false))
 (.node (sy 296 [sy 65592 [sy 131075 [], sy 131091 [], sy 131115 [], sy 131271 []]])
 (.leaf (.bool false))
 (.node (sy 296 [sy 65592 [sy 131075 [], sy 131091 [], sy 131115 [], sy 131287 []]])
 (.leaf (.bool false))
 (.node (sy 296 [sy 65592 [sy 131075 [], sy 131091 [], sy 131115 [], sy 131303 []]])
 (.leaf (.bool false))
 (.node (sy 296 [sy 65592 [sy 131075 [], sy 131091 [], sy 131115 [], sy 131319 []]])
 (.leaf (.bool false))
 (.leaf (.bool true)))))))))
 (.node (sy 248 [sy 131203 [], sy 19 [sy 19 [.int .i64 3, sy 51 [.int .i64 2, sy 131075 []]], sy 51 [sy 131187 [], sy 131091 []]]])
 (.node (sy 216 [sy 131219 [], sy 131091 []])
 (.node (sy 296 [sy 216 [sy 131203 [], sy 35 [sy 19 [sy 19 [sy 19 [.int .i64 3, sy 51 [.int .i64 2, sy 131075 []]], sy 51 [sy 131187 [], sy 131091 []]], sy 131091 []], sy 131219 []]]])
 (.leaf (.bool false))
 (.node (sy 296 [sy 65592 [sy 131075 [], sy 131091 [], sy 131115 [], sy 131239 []]])
 (.leaf (.bool false))
 (.node (sy 296 [sy 65592 [sy 131075 [], sy 131091 [], sy 131115 [], sy 131255 []]])
 (.leaf (.bool false))
 (.node (sy 296 [sy 65592 [sy 131075 [], sy 131091 [], sy 131115 [], sy 131271 []]])
 (.leaf (.bool false))
 (.node (sy 296 [sy 65592 [sy 131075 [], sy 131091 [], sy 131115 [], sy 131287 []]])
 (.leaf (.bool false))
 (.node (sy 296 [sy 65592 [sy 131075 [], sy 131091 [], sy 131115 [], sy 131303 []]])
 (.leaf (.bool false))
 (.node (sy 296 [sy 65592 [sy 131075 [], sy 131091 [], sy 131115 [], sy 131319 []]])
 (.leaf (.bool false))
 (.leaf (.bool true)))))))))
 (.leaf (.bool false)))
 (.leaf (.bool false))))))
 (.node (sy 200 [sy 131219 [], .int .i64 0])
 (.leaf (.bool false))
 (.node (sy 264 [sy 131219 [], .int .i64 0])
 (.node (sy 296 [sy 264 [sy 131203 [], .int .i64 0]])
 (.leaf (.bool false))
 (.node (sy 296 [sy 65592 [sy 131075 [], sy 131091 [], sy 131115 [], sy 131239 []]])
 (.leaf (.bool false))
 (.node (sy 296 [sy 65592 [sy 131075 [], sy 131091 [], sy 131115 [], sy 131255 []]])
 (.leaf (.bool false))
 (.node (sy 296 [sy 65592 [sy 131075 [], sy 131091 [], sy 131115 [], sy 131271 []]])
 (.leaf (.bool false))
 (.node (sy 296 [sy 65592 [sy 131075 [], sy 131091 [], sy 131115 [], sy 131287 []]])
 (.leaf (.bool false))
 (.node (sy 296 [sy 65592 [sy 131075 [], sy 131091 [], sy 131115 [], sy 131303 []]])
 (.leaf (.bool false))
 (.node (sy 296 [sy 65592 [sy 131075 [], sy 131091 [], sy 131115 [], sy 131319 []]])
 (.leaf (.bool false))
 (.leaf (.bool true)))))))))
 (.node (sy 248 [sy 131203 [], sy 19 [sy 19 [.int .i64 3, sy 51 [.int .i64 2, sy 131075 []]], sy 51 [sy 131187 [], sy 131091 []]]])
 (.node (sy 216 [sy 131219 [], sy 131091 []])
 (.node (sy 296 [sy 216 [sy 131203 [], sy 35 [sy 19 [sy 19 [sy 19 [.int .i64 3, sy 51 [.int .i64 2, sy 131075 []]], sy 51 [sy 131187 [], sy 131091 []]], sy 131091 []], sy 131219 []]]])
 (.leaf (.bool false))
 (.node (sy 296 [sy 65592 [sy 131075 [], sy 131091 [], sy 131115 [], sy 131239 []]])
 (.leaf (.bool false))
 (.node (sy 296 [sy 65592 [sy 131075 [], sy 131091 [], sy 131115 [], sy 131255 []]])
 (.leaf (.bool false))
 (.node (sy 296 [sy 65592 [sy 131075 [], sy 131091 [], sy 131115 [], sy 131271 []]])
 (.leaf (.bool false))
 (.node (sy 296 [sy 65592 [sy 131075 [], sy 131091 [], sy 131115 [], sy 131287 []]])
 (.leaf (.bool false))
 (.node (sy 296 [sy 65592 [sy 131075 [], sy 131091 [], sy 131115 [], sy 131303 []]])
 (.leaf (.bool false))
 (.node (sy 296 [sy 65592 [sy 131075 [], sy 131091 [], sy 131115 [], sy 131319 []]])
 (.leaf (.bool false))
 (.leaf (.bool true)))))))))
 (.leaf (.bool false)))
 (.leaf (.bool false)))))))))))))))⟩
noncomputable def x_threadOk_p : Ot := ⟨⟨52, [3, 4, 5, 6, 7, 8, 9, 10, 11, 12, 13, 14, 15, 0, 1, 2], [.st [3, 3, 3, 3, 3, 3, 3, 7, 7, 7, 7, 7, 7, 3, 3, 11]]⟩, .node (sy 65560 [sy 131075 [], sy 131091 [], sy 131115 []])
 (.node (sy 200 [sy 131123 [], .int .i64 0])
 (.leaf (.bool false))
 (.node (sy 248 [sy 131123 [], sy 131075 []])
 (.leaf (.bool false))
 (.node (sy 200 [sy 131171 [], .int .i64 0])
 (.leaf (.bool false))
 (.node (sy 248 [sy 131171 [], .int .i64 2])
 (.leaf (.bool false))
 (.node (sy 200 [sy 131155 [], .int .i64 0])
 (.leaf (.bool false))
 (.node (sy 232 [sy 131155 [], .int .i64 1099511627775])
 (.leaf (.bool false))
 (.node (sy 200 [sy 131139 [], .int .i64 0])
 (.leaf (.bool false))
 (.node (sy 232 [sy 131139 [], .int .i64 6])
 (.leaf (.bool false))
 (.node (sy 264 [sy 131187 [], sy 131171 []])
 (.node (sy 200 [sy 131187 [], .int .i64 0])
 (.leaf (.bool false))
 (.node (sy 248 [sy 131187 [], .int .i64 2])
 (.leaf (.bool false))
 (.node (sy 200 [sy 131219 [], .int .i64 0])
 (.leaf (.bool false))
 (.node (sy 264 [sy 131219 [], .int .i64 0])
 (.node (sy 296 [sy 344 [sy 264 [sy 131187 [], sy 131187 []], sy 344 [sy 264 [sy 131203 [], .int .i64 0], sy 264 [sy 131219 [], .int .i64 0]]]])
 (.leaf (.bool false))
 (.node (sy 296 [sy 65592 [sy 131075 [], sy 131091 [], sy 131115 [], sy 131239 []]])
 (.leaf (.bool false))
 (.node (sy 296 [sy 65592 [sy 131075 [], sy 131091 [], sy 131115 [], sy 131255 []]])
 (.leaf (.bool false))
 (.node (sy 296 [sy 65592 [sy 131075 [], sy 131091 [], sy 131115 [], sy 131271 []]])
 (.leaf (.bool false))
 (.node (sy 296 [sy 65592 [sy 131075 [], sy 131091 [], sy 131115 [], sy 131287 []]])
 (.leaf (.bool false))
 (.node (sy 296 [sy 65592 [sy 131075 [], sy 131091 [], sy 131115 [], sy 131303 []]])
 (.leaf (.bool false))
 (.node (sy 296 [sy 65592 [sy 131075 [], sy 131091 [], sy 131115 [], sy 131319 []]])
 (.leaf (.bool false))
 (.leaf (.bool true)))))))))
 (.node (sy 216 [sy 131219 [], sy 131091 []])
 (.node (sy 248 [sy 131203 [], sy 19 [sy 19 [.int .i64 3, sy 51 [.int .i64 2, sy 131075 []]], sy 51 [sy 131187 [], sy 131091 []]]])
 (.node (sy 296 [sy 216 [sy 35 [sy 131203 [], sy 19 [sy 19 [.int .i64 3, sy 51 [.int .i64 2, sy 131075 []]], sy 51 [sy 131187 [], sy 131091 []]]], sy 35 [sy 131091 [], sy 131219 []]]])
 (.leaf (.bool false))
 (.node (sy 296 [sy 65592 [sy 131075 [], sy 131091 [], sy 131115 [], sy 131239 []]])
 (.leaf (.bool false))
 (.node (sy 296 [sy 65592 [sy 131075 [], sy 131091 [], sy 131115 [], sy 131255 []]])
 (.leaf (.bool false))
 (.node (sy 296 [sy 65592 [sy 131075 [], sy 131091 [], sy 131115 [], sy 131271 []]])
 (.leaf (.bool false))
 (.node (sy 296 [sy 65592 [sy 131075 [], sy 131091 [], sy 131115 [], sy 131287 []]])
 (.leaf (.bool false))
 (.node (sy 296 [sy 65592 [sy 131075 [], sy 131091 [], sy 131115 [], sy 131303 []]])
 (.leaf (.bool false))
 (.node (sy 296 [sy 65592 [sy 131075 [], sy 131091 [], sy 131115 [], sy 131319 []]])
 (.leaf (.bool false))
 (.leaf (.bool true)))))))))
 (.leaf (.bool false)))
 (.leaf (.bool false)))))))
 (.leaf (.bool false)))))))))))
 (.leaf (.bool false))⟩
noncomputable def tabO : List Otab := [⟨8, [x_threadOk_d.q, x_threadOk_p.q], im_threadOk, .bool false⟩]
noncomputable def GO (K : Nat → Option Obj) (op : Nat) (l : List Value) : Value := if 6000 ≤ op / 16 then opq Tryz.prog GI tabO K (op / 16 - 6000) l else GI K op l
def Glob2 (m : Mu) : Prop := ∀ op l, 6000 ≤ op / 16 → op / 16 < 8192 → m.I op l = opq Tryz.prog GI tabO m.K (op / 16 - 6000) l
structure GA (m : Mu) : Prop where
 g : Glob m
 o : Glob2 m
theorem GA.sub {m : Mu} (h : GA m) (τ : List Value) (D : Nat → Value) : GA (subM m τ D) := by
 have e : ∀ op l, op / 16 < 8192 → (subM m τ D).I op l = m.I op l := fun op l h2 => by
  show subI m τ D op l = _
  unfold subI
  rw [if_neg (by omega), if_neg (by omega)]
 exact ⟨fun op l h1 h2 => (e op l (by omega)).trans (h.g op l h1 h2), fun op l h1 h2 => (e op l h2).trans (h.o op l h1 h2)⟩
theorem ga_mu (av : List (List Value)) (K : Nat → Option Obj) : GA ⟨muI av (GO K), K⟩ := by
 have e : ∀ op l, 4096 ≤ op / 16 → muI av (GO K) op l = GO K op l := fun op l h1 => by unfold muI; rw [if_neg (by omega)]
 refine ⟨fun op l h1 h2 => (e op l h1).trans ?_, fun op l h1 h2 => (e op l (by omega)).trans ?_⟩
 ·unfold GO; rw [if_neg (by omega)]
 ·unfold GO; rw [if_pos h1]
noncomputable def tabT : List Tell := [⟨96008, [3, 3, 11, 3, 3, 3, 3, 3, 3, 3, 7, 7, 7, 7, 7, 7], im_threadOk⟩]
theorem tabT_ok {m : Mu} (h : GA m) : TabOk GI m tabT := by
 intro x hx l
 unfold tabT at hx
 simp only [List.mem_cons, List.not_mem_nil, or_false] at hx
 rcases hx with rfl
 ·rw [show m.I 96008 l = opq Tryz.prog GI tabO m.K 0 l from h.o _ l (by decide) (by decide)]
  exact ⟨opq_srt (tab := tabO) (k := 0) rfl rfl, opq_tells (tab := tabO) (k := 0) rfl (by kernel_rfl)⟩
theorem tabT_nat : natTab tabT = true := by kernel_rfl
theorem tabT_tells {m : Mu} (h : GA m) : MkOk m (tellM tabT) := by
 refine tellM_ok (G := GI) (fun op l h1 h2 => h.g op l h1 h2) (tabT_ok h) tabT_nat fun x hx => ?_
 unfold tabT at hx
 simp only [List.mem_cons, List.not_mem_nil, or_false] at hx
 rcases hx with rfl
 ·exact ⟨fun y hy => List.all_eq_true.1 (show (im_threadOk.all fun y => okΓ [3, 3, 11, 3, 3, 3, 3, 3, 3, 3, 7, 7, 7, 7, 7, 7] y.2) = true by kernel_rfl) y hy, by decide⟩
noncomputable def n_threadOk_d : List Ent := [entG (pRight 15), entG (pRFit 17)]
theorem n_threadOk_d_ok {m : Mu} (h : GA m) : ∀ x ∈ n_threadOk_d, EntOk Tryz.prog m x := by
 intro x hx
 unfold n_threadOk_d at hx
 simp only [List.mem_cons, List.not_mem_nil, or_false] at hx
 rcases hx with rfl | rfl
 ·exact gRight h.g
 ·exact gRFit h.g
theorem e_threadOk_d : treeQ Tryz.prog (smOf n_threadOk_d) (mkR) 1000000 400 [3, 3, 11, 3, 3, 3, 3, 3, 3, 3, 7, 7, 7, 7, 7, 7] [(sy 80008 [pvar 2 11], true), (sy 65544 [pvar 2 11], true)] x_threadOk_d.q = x_threadOk_d.t := by kernel_rfl
noncomputable def n_threadOk_p : List Ent := [entG (pCheck 79), entG (pFit 65)]
theorem n_threadOk_p_ok {m : Mu} (h : GA m) : ∀ x ∈ n_threadOk_p, EntOk Tryz.prog m x := by
 intro x hx
 unfold n_threadOk_p at hx
 simp only [List.mem_cons, List.not_mem_nil, or_false] at hx
 rcases hx with rfl | rfl
 ·exact gCheck h.g
 ·exact gFit h.g
theorem e_threadOk_p : treeQ Tryz.prog (smOf n_threadOk_p) (mkR) 1000000 400 [3, 3, 11, 3, 3, 3, 3, 3, 3, 3, 7, 7, 7, 7, 7, 7] [(sy 80008 [pvar 2 11], true), (sy 65544 [pvar 2 11], true)] x_threadOk_p.q = x_threadOk_p.t := by kernel_rfl
theorem t_threadOk {m : Mu} (h : GA m) : ∀ y ∈ [x_threadOk_d, x_threadOk_p], ∃ sm, (∀ τ D, SmOk Tryz.prog sm (subM m τ D)) ∧ treeQ Tryz.prog sm (mkR) 1000000 400 [3, 3, 11, 3, 3, 3, 3, 3, 3, 3, 7, 7, 7, 7, 7, 7] [(sy 80008 [pvar 2 11], true), (sy 65544 [pvar 2 11], true)] y.q = y.t := by
 intro y hy
 simp only [List.mem_cons, List.not_mem_nil, or_false] at hy
 rcases hy with rfl | rfl
 ·exact ⟨smOf n_threadOk_d, fun τ D => smOf_ok (n_threadOk_d_ok (h.sub τ D)), e_threadOk_d⟩
 ·exact ⟨smOf n_threadOk_p, fun τ D => smOf_ok (n_threadOk_p_ok (h.sub τ D)), e_threadOk_p⟩
theorem b_threadOk : ∀ y ∈ [x_threadOk_d, x_threadOk_p], noBad y.t = true ∧ ltAll 16 y.q.perm = true := by
 intro y hy
 simp only [List.mem_cons, List.not_mem_nil, or_false] at hy
 rcases hy with rfl | rfl
 ·exact ⟨by kernel_rfl, by kernel_rfl⟩
 ·exact ⟨by kernel_rfl, by kernel_rfl⟩
theorem q_threadOk : ∀ y ∈ ([x_threadOk_p] : List Ot), sameT2 (mkR) y.t x_threadOk_d.t [(sy 80008 [pvar 2 11], true), (sy 65544 [pvar 2 11], true)] = true := by
 intro y hy
 simp only [List.mem_cons, List.not_mem_nil, or_false] at hy
 rcases hy with rfl
 ·kernel_rfl
noncomputable def o_threadOk_d : Op1 := ⟨5, [.st [3, 3, 11], .st [3, 3, 3, 3, 3, 3, 3, 7, 7, 7, 7, 7, 7]], [0, 1, 2, 3, 4, 5, 6, 7, 8, 9, 10, 11, 12, 13, 14, 15], 96008, [(sy 80008 [pvar 2 11], true), (sy 65544 [pvar 2 11], true)]⟩
theorem go_threadOk_d {m : Mu} (h : GA m) : EntOk Tryz.prog m (entO o_threadOk_d) :=
 entO_ok small0 (G := GI) (fun op l h1 h2 => h.g op l h1 h2) (tab := tabO) (k := 0) (s := 8) (x0 := x_threadOk_d) (xs := [x_threadOk_p]) (mk := mkR) (fuel := 1000000) (d := 400) (σ := [3, 3, 11, 3, 3, 3, 3, 3, 3, 3, 7, 7, 7, 7, 7, 7]) (x := o_threadOk_d) (perm := [0, 1, 2, 3, 4, 5, 6, 7, 8, 9, 10, 11, 12, 13, 14, 15]) (im := im_threadOk) (dv := .bool false) rfl (by simp [o_threadOk_d, x_threadOk_d]) (by kernel_rfl) rfl (by decide) (fun l => h.o _ l (by decide) (by decide))
  (by kernel_rfl) (t_threadOk h) (fun τ D => mkR_ok (h.sub τ D).g) b_threadOk (by kernel_rfl) (by kernel_rfl) (by kernel_rfl) q_threadOk (by kernel_rfl) (by kernel_rfl)
noncomputable def o_threadOk_p : Op1 := ⟨52, [.st [3, 3, 3, 3, 3, 3, 3, 7, 7, 7, 7, 7, 7, 3, 3, 11]], [13, 14, 15, 0, 1, 2, 3, 4, 5, 6, 7, 8, 9, 10, 11, 12], 96008, [(sy 80008 [pvar 2 11], true), (sy 65544 [pvar 2 11], true)]⟩
theorem go_threadOk_p {m : Mu} (h : GA m) : EntOk Tryz.prog m (entO o_threadOk_p) :=
 entO_ok small0 (G := GI) (fun op l h1 h2 => h.g op l h1 h2) (tab := tabO) (k := 0) (s := 8) (x0 := x_threadOk_d) (xs := [x_threadOk_p]) (mk := mkR) (fuel := 1000000) (d := 400) (σ := [3, 3, 11, 3, 3, 3, 3, 3, 3, 3, 7, 7, 7, 7, 7, 7]) (x := o_threadOk_p) (perm := [3, 4, 5, 6, 7, 8, 9, 10, 11, 12, 13, 14, 15, 0, 1, 2]) (im := im_threadOk) (dv := .bool false) rfl (by simp [o_threadOk_p, x_threadOk_p]) (by kernel_rfl) rfl (by decide) (fun l => h.o _ l (by decide) (by decide))
  (by kernel_rfl) (t_threadOk h) (fun τ D => mkR_ok (h.sub τ D).g) b_threadOk (by kernel_rfl) (by kernel_rfl) (by kernel_rfl) q_threadOk (by kernel_rfl) (by kernel_rfl)
end Go.Proofs.YteglommbdpaokaaGreat
