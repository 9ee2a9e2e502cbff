/- Functions that only compute, summed up as trees, or as opaque codes: printed by tree.py, checked by the kernel. -/
import Derived.Test.YtflipopanpdcnadGreatR1
namespace Go.Proofs.YtflipopanpdcnadGreat
open Go Go.Gz Go.RowKit
theorem small0 : Small Tryz.prog := small_of (by kernel_rfl)
noncomputable def im_opErr : List (Value × Facts) := [(.int .i64 0, [(sy 200 [pvar 2 3, .int .i64 0], false), (sy 248 [pvar 2 3, .int .i64 6], false), (sy 200 [pvar 3 3, .int .i64 0], false), (sy 248 [pvar 3 3, .int .i64 6], false), (sy 200 [pvar 4 3, .int .i64 0], false), (sy 248 [pvar 4 3, .int .i64 6], false)])]
noncomputable def x_opErr_p : Ot := ⟨⟨81, [0, 1, 2, 3, 4, 5, 6, 7, 8], [.lf 11, .st [3, 3, 3, 3, 3, 3, 3, 3]]⟩, .node (sy 80024 [sy 131083 []])
 (.node (sy 216 [sy 131091 [], .int .i64 0])
 (.leaf (.int .i64 180))
 (.node (sy 232 [sy 131091 [], .int .i64 11])
 (.leaf (.int .i64 180))
 (.node (sy 264 [sy 131091 [], .int .i64 1])
 (.node (sy 296 [sy 344 [sy 264 [sy 131091 [], sy 131091 []], sy 344 [sy 264 [sy 131123 [], .int .i64 0], sy 344 [sy 264 [sy 131139 [], .int .i64 0], sy 344 [sy 264 [sy 131155 [], .int .i64 0], sy 344 [sy 264 [sy 131187 [], .int .i64 0], sy 264 [sy 131203 [], .int .i64 0]]]]]]])
 (.leaf (.int .i64 180))
 (.node (sy 200 [sy 131107 [], .int .i64 0])
 (.leaf (.int .i64 181))
 (.node (sy 248 [sy 131107 [], .int .i64 6])
 (.leaf (.int .i64 181))
 (.node (sy 200 [sy 131123 [], .int .i64 0])
 (.leaf (.int .i64 181))
 (.node (sy 248 [sy 131123 [], .int .i64 6])
 (.leaf (.int .i64 181))
 (.node (sy 200 [sy 131139 [], .int .i64 0])
 (.leaf (.int .i64 181))
 (.node (sy 248 [sy 131139 [], .int .i64 6])
 (.leaf (.int .i64 181))
 (.node (sy 200 [sy 131171 [], .int .i64 0])
 (.leaf (.int .i64 130))
 (.node (sy 248 [sy 131171 [], sy 675 [sy 131083 []]])
 (.leaf (.int .i64 130))
 (.leaf (.int .i64 0)))))))))))
 (.node (sy 264 [sy 131091 [], .int .i64 2])
 (.node (sy 296 [sy 344 [sy 264 [sy 131091 [], sy 131091 []], sy 344 [sy 264 [sy 131139 [], .int .i64 0], sy 344 [sy 264 [sy 131171 [], .int .i64 0], sy 344 [sy 264 [sy 131187 [], .int .i64 0], sy 264 [sy 131203 [], .int .i64 0]]]]]])
 (.leaf (.int .i64 180))
 (.node (sy 200 [sy 131107 [], .int .i64 0])
 (.leaf (.int .i64 181))
 (.node (sy 248 [sy 131107 [], .int .i64 6])
 (.leaf (.int .i64 181))
 (.node (sy 200 [sy 131123 [], .int .i64 0])
 (.leaf (.int .i64 181))
 (.node (sy 248 [sy 131123 [], .int .i64 6])
 (.leaf (.int .i64 181))
 (.node (sy 200 [sy 131139 [], .int .i64 0])
 (.leaf (.int .i64 181))
 (.node (sy 248 [sy 131139 [], .int .i64 6])
 (.leaf (.int .i64 181))
 (.node (sy 200 [sy 131187 [], .int .i64 (-576460752303423488)])
 (.leaf (.int .i64 182))
 (.node (sy 232 [sy 131187 [], .int .i64 576460752303423487])
 (.leaf (.int .i64 182))
 (.node (sy 200 [sy 131203 [], .int .i64 (-576460752303423488)])
 (.leaf (.int .i64 182))
 (.node (sy 232 [sy 131203 [], .int .i64 576460752303423487])
 (.leaf (.int .i64 182))
 (.leaf (.int .i64 0)))))))))))))
 (.node (sy 264 [sy 131091 [], .int .i64 3])
 (.node (sy 296 [sy 344 [sy 264 [sy 131091 [], sy 131091 []], sy 344 [sy 264 [sy 131139 [], .int .i64 0], sy 344 [sy 264 [sy 131171 [], .int .i64 0], sy 344 [sy 264 [sy 131187 [], .int .i64 0], sy 264 [sy 131203 [], .int .i64 0]]]]]])
 (.leaf (.int .i64 180))
 (.node (sy 200 [sy 131107 [], .int .i64 0])
 (.leaf (.int .i64 181))
 (.node (sy 248 [sy 131107 [], .int .i64 6])
 (.leaf (.int .i64 181))
 (.node (sy 200 [sy 131123 [], .int .i64 0])
 (.leaf (.int .i64 181))
 (.node (sy 248 [sy 131123 [], .int .i64 6])
 (.leaf (.int .i64 181))
 (.node (sy 200 [sy 131139 [], .int .i64 0])
 (.leaf (.int .i64 181))
 (.node (sy 248 [sy 131139 [], .int .i64 6])
 (.leaf (.int .i64 181))
 (.node (sy 200 [sy 131187 [], .int .i64 (-576460752303423488)])
 (.leaf (.int .i64 182))
 (.node (sy 232 [sy 131187 [], .int .i64 576460752303423487])
 (.leaf (.int .i64 182))
 (.node (sy 200 [sy 131203 [], .int .i64 (-576460752303423488)])
 (.leaf (.int .i64 182))
 (.node (sy 232 [sy 131203 [], .int .i64 576460752303423487])
 (.leaf (.int .i64 182))
 (.leaf (.int .i64 0)))))))))))))
 (.node (sy 264 [sy 131091 [], .int .i64 4])
 (.node (sy 296 [sy 344 [sy 264 [sy 131091 [], sy 131091 []], sy 344 [sy 264 [sy 131171 [], .int .i64 0], sy 344 [sy 264 [sy 131187 [], .int .i64 0], sy 264 [sy 131203 [], .int .i64 0]]]]])
 (.leaf (.int .i64 180))
 (.node (sy 200 [sy 131107 [], .int .i64 0])
 (.leaf (.int .i64 181))
 (.node (sy 248 [sy 131107 [], .int .i64 6])
 (.leaf (.int .i64 181))
 (.node (sy 200 [sy 131123 [], .int .i64 0])
 (.leaf (.int .i64 181))
 (.node (sy 248 [sy 131123 [], .int .i64 6])
 (.leaf (.int .i64 181))
 (.node (sy 200 [sy 131139 [], .int .i64 0])
 (.leaf (.int .i64 181))
 (.node (sy 248 [sy 131139 [], .int .i64 6])
 (.leaf (.int .i64 181))
 (.node (sy 200 [sy 131187 [], .int .i64 (-576460752303423488)])
 (.leaf (.int .i64 182))
 (.node (sy 232 [sy 131187 [], .int .i64 576460752303423487])
 (.leaf (.int .i64 182))
 (.node (sy 200 [sy 131203 [], .int .i64 (-576460752303423488)])
 (.leaf (.int .i64 182))
 (.node (sy 232 [sy 131203 [], .int .i64 576460752303423487])
 (.leaf (.int .i64 182))
 (.leaf (.int .i64 0)))))))))))))
 (.node (sy 264 [sy 131091 [], .int .i64 5])
 (.node (sy 296 [sy 344 [sy 264 [sy 131091 [], sy 131091 []], sy 344 [sy 264 [sy 131123 [], .int .i64 0], sy 344 [sy 264 [sy 131139 [], .int .i64 0], sy 344 [sy 264 [sy 131171 [], .int .i64 0], sy 344 [sy 264 [sy 131187 [], .int .i64 0], sy 264 [sy 131203 [], .int .i64 0]]]]]]])
 (.leaf (.int .i64 180))
 (.node (sy 200 [sy 131107 [], .int .i64 0])
 (.leaf (.int .i64 181))
 (.node (sy 248 [sy 131107 [], .int .i64 6])
 (.leaf (.int .i64 181))
 (.node (sy 200 [sy 131123 [], .int .i64 0])
 (.leaf (.int .i64 181))
 (.node (sy 248 [sy 131123 [], .int .i64 6])
 (.leaf (.int .i64 181))
 (.node (sy 200 [sy 131139 [], .int .i64 0])
 (.leaf (.int .i64 181))
 (.node (sy 248 [sy 131139 [], .int .i64 6])
 (.leaf (.int .i64 181))
 (.node (sy 200 [sy 131187 [], .int .i64 (-576460752303423488)])
 (.leaf (.int .i64 182))
 (.node (sy 232 [sy 131187 [], .int .i64 576460752303423487])
 (.leaf (.int .i64 182))
 (.node (sy 200 [sy 131203 [], .int .i64 (-576460752303423488)])
 (.leaf (.int .i64 182))
 (.node (sy 232 [sy 131203 [], .int .i64 576460752303423487])
 (.leaf (.int .i64 182))
 (.leaf (.int .i64 0)))))))))))))
 (.node (sy 264 [sy 131091 [], .int .i64 6])
 (.node (sy 296 [sy 344 [sy 264 [sy 131091 [], sy 131091 []], sy 344 [sy 264 [sy 131123 [], .int .i64 0], sy 344 [sy 264 [sy 131139 [], .int .i64 0], sy 344 [sy 264 [sy 131171 [], .int .i64 0], sy 264 [sy 131203 [], .int .i64 0]]]]]])
 (.leaf (.int .i64 180))
 (.node (sy 200 [sy 131107 [], .int .i64 0])
 (.leaf (.int .i64 181))
 (.node (sy 248 [sy 131107 [], .int .i64 6])
 (.leaf (.int .i64 181))
 (.node (sy 200 [sy 131123 [], .int .i64 0])
 (.leaf (.int .i64 181))
 (.node (sy 248 [sy 131123 [], .int .i64 6])
 (.leaf (.int .i64 181))
 (.node (sy 200 [sy 131139 [], .int .i64 0])
 (.leaf (.int .i64 181))
 (.node (sy 248 [sy 131139 [], .int .i64 6])
 (.leaf (.int .i64 181))
 (.node (sy 200 [sy 131187 [], .int .i64 (-576460752303423488)])
 (.leaf (.int .i64 182))
 (.node (sy 232 [sy 131187 [], .int .i64 576460752303423487])
 (.leaf (.int .i64 182))
 (.node (sy 200 [sy 131203 [], .int .i64 (-576460752303423488)])
 (.leaf (.int .i64 182))
 (.node (sy 232 [sy 131203 [], .int .i64 576460752303423487])
 (.leaf (.int .i64 182))
 (.leaf (.int .i64 0)))))))))))))
 (.node (sy 264 [sy 131091 [], .int .i64 7])
 (.node (sy 296 [sy 344 [sy 264 [sy 131091 [], sy 131091 []], sy 344 [sy 264 [sy 131123 [], .int .i64 0], sy 344 [sy 264 [sy 131139 [], .int .i64 0], sy 264 [sy 131171 [], .int .i64 0]]]]])
 (.leaf (.int .i64 180))
 (.node (sy 200 [sy 131107 [], .int .i64 0])
 (.leaf (.int .i64 181))
 (.node (sy 248 [sy 131107 [], .int .i64 6])
 (.leaf (.int .i64 181))
 (.node (sy 200 [sy 131123 [], .int .i64 0])
 (.leaf (.int .i64 181))
 (.node (sy 248 [sy 131123 [], .int .i64 6])
 (.leaf (.int .i64 181))
 (.node (sy 200 [sy 131139 [], .int .i64 0])
 (.leaf (.int .i64 181))
 (.node (sy 248 [sy 131139 [], .int .i64 6])
 (.leaf (.int .i64 181))
 (.node (sy 200 [sy 131187 [], .int .i64 (-576460752303423488)])
 (.leaf (.int .i64 182))
 (.node (sy 232 [sy 131187 [], .int .i64 576460752303423487])
 (.leaf (.int .i64 182))
 (.node (sy 200 [sy 131203 [], .int .i64 (-576460752303423488)])
 (.leaf (.int .i64 182))
 (.node (sy 232 [sy 131203 [], .int .i64 576460752303423487])
 (.leaf (.int .i64 182))
 (.leaf (.int .i64 0)))))))))))))
 (.node (sy 264 [sy 131091 [], .int .i64 8])
 (.node (sy 296 [sy 344 [sy 264 [sy 131091 [], sy 131091 []], sy 344 [sy 264 [sy 131139 [], .int .i64 0], sy 344 [sy 264 [sy 131155 [], .int .i64 0], sy 344 [sy 264 [sy 131171 [], .int .i64 0], sy 344 [sy 264 [sy 131187 [], .int .i64 0], sy 264 [sy 131203 [], .int .i64 0]]]]]]])
 (.leaf (.int .i64 180))
 (.node (sy 200 [sy 131107 [], .int .i64 0])
 (.leaf (.int .i64 181))
 (.node (sy 248 [sy 131107 [], .int .i64 6])
 (.leaf (.int .i64 181))
 (.node (sy 200 [sy 131123 [], .int .i64 0])
 (.leaf (.int .i64 181))
 (.node (sy 248 [sy 131123 [], .int .i64 6])
 (.leaf (.int .i64 181))
 (.node (sy 200 [sy 131139 [], .int .i64 0])
 (.leaf (.int .i64 181))
 (.node (sy 248 [sy 131139 [], .int .i64 6])
 (.leaf (.int .i64 181))
 (.node (sy 200 [sy 131187 [], .int .i64 (-576460752303423488)])
 (.leaf (.int .i64 182))
 (.node (sy 232 [sy 131187 [], .int .i64 576460752303423487])
 (.leaf (.int .i64 182))
 (.node (sy 200 [sy 131203 [], .int .i64 (-576460752303423488)])
 (.leaf (.int .i64 182))
 (.node (sy 232 [sy 131203 [], .int .i64 576460752303423487])
 (.leaf (.int .i64 182))
 (.leaf (.int .i64 0)))))))))))))
 (.node (sy 264 [sy 131091 [], .int .i64 9])
 (.node (sy 296 [sy 344 [sy 264 [sy 131091 [], sy 131091 []], sy 344 [sy 264 [sy 131139 [], .int .i64 0], sy 344 [sy 264 [sy 131155 [], .int .i64 0], sy 344 [sy 264 [sy 131171 [], .int .i64 0], sy 344 [sy 264 [sy 131187 [], .int .i64 0], sy 264 [sy 131203 [], .int .i64 0]]]]]]])
 (.leaf (.int .i64 180))
 (.node (sy 200 [sy 131107 [], .int .i64 0])
 (.leaf (.int .i64 181))
 (.node (sy 248 [sy 131107 [], .int .i64 6])
 (.leaf (.int .i64 181))
 (.node (sy 200 [sy 131123 [], .int .i64 0])
 (.leaf (.int .i64 181))
 (.node (sy 248 [sy 131123 [], .int .i64 6])
 (.leaf (.int .i64 181))
 (.node (sy 200 [sy 131139 [], .int .i64 0])
 (.leaf (.int .i64 181))
 (.node (sy 248 [sy 131139 [], .int .i64 6])
 (.leaf (.int .i64 181))
 (.node (sy 200 [sy 131187 [], .int .i64 (-576460752303423488)])
 (.leaf (.int .i64 182))
 (.node (sy 232 [sy 131187 [], .int .i64 576460752303423487])
 (.leaf (.int .i64 182))
 (.node (sy 200 [sy 131203 [], .int .i64 (-576460752303423488)])
 (.leaf (.int .i64 182))
 (.node (sy 232 [sy 131203 [], .int .i64 576460752303423487])
 (.leaf (.int .i64 182))
 (.leaf (.int .i64 0)))))))))))))
 (.node (sy 264 [sy 131091 [], .int .i64 10])
 (.node (sy 296 [sy 344 [sy 264 [sy 131091 [], sy 131091 []], sy 344 [sy 264 [sy 131123 [], .int .i64 0], sy 344 [sy 264 [sy 131139 [], .int .i64 0], sy 344 [sy 264 [sy 131155 [], .int .i64 0], sy 344 [sy 264 [sy 131171 [], .int .i64 0], sy 344 [sy 264 [sy 131187 [], .int .i64 0], sy 264 [sy 131203 [], .int .i64 0]]]]]]]])
 (.leaf (.int .i64 180))
 (.node (sy 200 [sy 131107 [], .int .i64 0])
 (.leaf (.int .i64 181))
 (.node (sy 248 [sy 131107 [], .int .i64 6])
 (.leaf (.int .i64 181))
 (.node (sy 200 [sy 131123 [], .int .i64 0])
 (.leaf (.int .i64 181))
 (.node (sy 248 [sy 131123 [], .int .i64 6])
 (.leaf (.int .i64 181))
 (.node (sy 200 [sy 131139 [], .int .i64 0])
 (.leaf (.int .i64 181))
 (.node (sy 248 [sy 131139 [], .int .i64 6])
 (.leaf (.int .i64 181))
 (.node (sy 200 [sy 131187 [], .int .i64 (-576460752303423488)])
 (.leaf (.int .i64 182))
 (.node (sy 232 [sy 131187 [], .int .i64 576460752303423487])
 (.leaf (.int .i64 182))
 (.node (sy 200 [sy 131203 [], .int .i64 (-576460752303423488)])
 (.leaf (.int .i64 182))
 (.node (sy 232 [sy 131203 [], .int .i64 576460752303423487])
 (.leaf (.int .i64 182))
 (.leaf (.int .i64 0)))))))))))))
 (.node (sy 296 [sy 344 [sy 264 [sy 131091 [], sy 131091 []], sy 344 [sy 264 [sy 131107 [], .int .i64 0], sy 344 [sy 264 [sy 131123 [], .int .i64 0], sy 344 [sy 264 [sy 131139 [], .int .i64 0], sy 344 [sy 264 [sy 131155 [], .int .i64 0], sy 344 [sy 264 [sy 131171 [], .int .i64 0], sy 344 [sy 264 [sy 131187 [], .int .i64 0], sy 264 [sy 131203 [], .int .i64 0]]]]]]]]])
 (.leaf (.int .i64 180))
 (.node (sy 200 [sy 131107 [], .int .i64 0])
 (.leaf (.int .i64 181))
 (.node (sy 248 [sy 131107 [], .int .i64 6])
 (.leaf (.int .i64 181))
 (.node (sy 200 [sy 131123 [], .int .i64 0])
 (.leaf (.int .i64 181))
 (.node (sy 248 [sy 131123 [], .int .i64 6])
 (.leaf (.int .i64 181))
 (.node (sy 200 [sy 131139 [], .int .i64 0])
 (.leaf (.int .i64 181))
 (.node (sy 248 [sy 131139 [], .int .i64 6])
 (.leaf (.int .i64 181))
 (.node (sy 200 [sy 131187 [], .int .i64 (-576460752303423488)])
 (.leaf (.int .i64 182))
 (.node (sy 232 [sy 131187 [], .int .i64 576460752303423487])
 (.leaf (.int .i64 182))
 (.node (sy 200 [sy 131203 [], .int .i64 (-576460752303423488)])
 (.leaf (.int .i64 182))
 (.node (sy 232 [sy 131203 [], .int .i64 576460752303423487])
 (.leaf (.int .i64 182))
 (.leaf (.int .i64 0)))))))))))))))))))))))))
 (.leaf (.int .i64 2))⟩
noncomputable def im_threadOk : List (Value × Facts) := [(.bool true, [(sy 65560 [pvar 0 3, pvar 1 3, pvar 2 11], true), (sy 65592 [pvar 0 3, pvar 1 3, pvar 2 11, pvar 10 7], true), (sy 65592 [pvar 0 3, pvar 1 3, pvar 2 11, pvar 11 7], true), (sy 65592 [pvar 0 3, pvar 1 3, pvar 2 11, pvar 12 7], true), (sy 65592 [pvar 0 3, pvar 1 3, pvar 2 11, pvar 13 7], true), (sy 65592 [pvar 0 3, pvar 1 3, pvar 2 11, pvar 14 7], true), (sy 65592 [pvar 0 3, pvar 1 3, pvar 2 11, pvar 15 7], true)])]
noncomputable def x_threadOk_d : Ot := ⟨⟨13, [0, 1, 2, 3, 4, 5, 6, 7, 8, 9, 10, 11, 12, 13, 14, 15], [.st [3, 3, 11], .st [3, 3, 3, 3, 3, 3, 3, 7, 7, 7, 7, 7, 7]]⟩, .node (sy 296 [sy 65560 [sy 131075 [], sy 131091 [], sy 131115 []]])
 (.leaf (.bool false))
 (.node (sy 200 [sy 131123 [], .int .i64 0])
 (.leaf (.bool false))
 (.node (sy 248 [sy 131123 [], sy 131075 []])
 (.leaf (.bool false))
 (.node (sy 200 [sy 131139 [], .int .i64 0])
 (.leaf (.bool false))
 (.node (sy 232 [sy 131139 [], .int .i64 6])
 (.leaf (.bool false))
 (.node (sy 200 [sy 131155 [], .int .i64 0])
 (.leaf (.bool false))
 (.node (sy 232 [sy 131155 [], .int .i64 1099511627775])
 (.leaf (.bool false))
 (.node (sy 200 [sy 131171 [], .int .i64 0])
 (.leaf (.bool false))
 (.node (sy 232 [sy 131171 [], .int .i64 1])
 (.leaf (.bool false))
 (.node (sy 280 [sy 131187 [], sy 131171 []])
 (.leaf (.bool false))
 (.node (sy 280 [sy 131187 [], .int .i64 0])
 (.node (sy 280 [sy 131187 [], .int .i64 1])
 (.leaf (.bool false))
 (.node (sy 200 [sy 131219 [], .int .i64 0])
 (.leaf (.bool false))
 (.node (sy 264 [sy 131219 [], .int .i64 0])
 (.node (sy 296 [sy 264 [sy 131203 [], .int .i64 0]])
 (.leaf (.bool false))
 (.node (sy 296 [sy 65592 [sy 131075 [], sy 131091 [], sy 131115 [], sy 131239 []]])
 (.leaf (.bool false))
 (.node (sy 296 [sy 65592 [sy 131075 [], sy 131091 [], sy 131115 [], sy 131255 []]])
 (.leaf (.bool false))
 (.node (sy 296 [sy 65592 [sy 131075 [], sy 131091 [], sy 131115 [], sy 131271 []]])
 (.leaf (.bool false))
 (.node (sy 296 [sy 65592 [sy 131075 [], sy 131091 [], sy 131115 [], sy 131287 []]])
 (.leaf (.bool false))
 (.node (sy 296 [sy 65592 [sy 131075 [], sy 131091 [], sy 131115 [], sy 131303 []]])
 (.leaf (.bool false))
 (.node (sy 296 [sy 65592 [sy 131075 [], sy 131091 [], sy 131115 [], sy 131319 []]])
 (.leaf (.bool false))
 (.leaf (.bool true)))))))))
 (.node (sy 248 [sy 131203 [], sy 19 [sy 19 [.int .i64 3, sy 51 [.int .i64 2, sy 131075 []]], sy 51 [sy 131187 [], sy 131091 []]]])
 (.node (sy 216 [sy 131219 [], sy 131091 []])
 (.node (sy 296 [sy 216 [sy 131203 [], sy 35 [sy 19 [sy 19 [sy 19 [.int .i64 3, sy 51 [.int .i64 2, sy 131075 []]], sy 51 [sy 131187 [], sy 131091 []]], sy 131091 []], sy 131219 []]]])
 (.leaf (.bool false))
 (.node (sy 296 [sy 65592 [sy 131075 [], sy 131091 [], sy 131115 [], sy 131239 []]])
 (.leaf (.bool false))
 (.node (sy 296 [sy 65592 [sy 131075 [], sy 131091 [], sy 131115 [], sy 131255 []]])
 (.leaf (.bool false))
 (.node (sy 296 [sy 65592 [sy 131075 [], sy 131091 [], sy 131115 [], sy 131271 []]])
 (.leaf (.bool false))
 (.node (sy 296 [sy 65592 [sy 131075 [], sy 131091 [], sy 131115 [], sy 131287 []]])
 (.leaf (.bool false))
 (.node (sy 296 [sy 65592 [sy 131075 [], sy 131091 [], sy 131115 [], sy 131303 []]])
 (.leaf (.bool false))
 (.node (sy 296 [sy 65592 [sy 131075 [], sy 131091 [], sy 131115 [], sy 131319 []]])
 (.leaf (.bool false))
 (.leaf (.bool true)))))))))
 (.leaf (.bool false)))
 (.leaf (.bool false))))))
 (.node (sy 200 [sy 131219 [], .int .i64 0])
 (.leaf (.bool false))
 (.node (sy 264 [sy 131219 [], .int .i64 0])
 (.node (sy 296 [sy 264 [sy 131203 [], .int .i64 0]])
 (.leaf (.bool false))
 (.node (sy 296 [sy 65592 [sy 131075 [], sy 131091 [], sy 131115 [], sy 131239 []]])
 (.leaf (.bool false))
 (.node (sy 296 [sy 65592 [sy 131075 [], sy 131091 [], sy 131115 [], sy 131255 []]])
 (.leaf (.bool false))
 (.node (sy 296 [sy 65592 [sy 131075 [], sy 131091 [], sy 131115 [], sy 131271 []]])
 (.leaf (.bool false))
 (.node (sy 296 [sy 65592 [sy 131075 [], sy 131091 [], sy 131115 [], sy 131287 []]])
 (.leaf (.bool false))
 (.node (sy 296 [sy 65592 [sy 131075 [], sy 131091 [], sy 131115 [], sy 131303 []]])
 (.leaf (.bool false))
 (.node (sy 296 [sy 65592 [sy 131075 [], sy 131091 [], sy 131115 [], sy 131319 []]])
 (.leaf (.bool false))
 (.leaf (.bool true)))))))))
 (.node (sy 248 [sy 131203 [], sy 19 [sy 19 [.int .i64 3, sy 51 [.int .i64 2, sy 131075 []]], sy 51 [sy 131187 [], sy 131091 []]]])
 (.node (sy 216 [sy 131219 [], sy 131091 []])
 (.node (sy 296 [sy 216 [sy 131203 [], sy 35 [sy 19 [sy 19 [sy 19 [.int .i64 3, sy 51 [.int .i64 2, sy 131075 []]], sy 51 [sy 131187 [], sy 131091 []]], sy 131091 []], sy 131219 []]]])
 (.leaf (.bool false))
 (.node (sy 296 [sy 65592 [sy 131075 [], sy 131091 [], sy 131115 [], sy 131239 []]])
 (.leaf (.bool false))
 (.node (sy 296 [sy 65592 [sy 131075 [], sy 131091 [], sy 131115 [], sy 131255 []]])
 (.leaf (.bool false))
 (.node (sy 296 [sy 65592 [sy 131075 [], sy 131091 [], sy 131115 [], sy 131271 []]])
 (.leaf (.bool false))
 (.node (sy 296 [sy 65592 [sy 131075 [], sy 131091 [], sy 131115 [], sy 131287 []]])
 (.leaf (.bool false))
 (.node (sy 296 [sy 65592 [sy 131075 [], sy 131091 [], sy 131115 [], sy 131303 []]])
 (.leaf (.bool false))
 (.node (sy 296 [sy 65592 [sy 131075 [], sy 131091 [], sy 131115 [], sy 131319 []]])
 (.leaf (.bool false))
 (.leaf (.bool true)))))))))
 (.leaf (.bool false)))
 (.leaf (.bool false)))))))))))))))⟩
noncomputable def x_threadOk_p : Ot := ⟨⟨57, [3, 4, 5, 6, 7, 8, 9, 10, 11, 12, 13, 14, 15, 0, 1, 2], [.st [3, 3, 3, 3, 3, 3, 3, 7, 7, 7, 7, 7, 7, 3, 3, 11]]⟩, .node (sy 65560 [sy 131075 [], sy 131091 [], sy 131115 []])
 (.node (sy 200 [sy 131123 [], .int .i64 0])
 (.leaf (.bool false))
 (.node (sy 248 [sy 131123 [], sy 131075 []])
 (.leaf (.bool false))
 (.node (sy 200 [sy 131171 [], .int .i64 0])
 (.leaf (.bool false))
 (.node (sy 248 [sy 131171 [], .int .i64 2])
 (.leaf (.bool false))
 (.node (sy 200 [sy 131155 [], .int .i64 0])
 (.leaf (.bool false))
 (.node (sy 232 [sy 131155 [], .int .i64 1099511627775])
 (.leaf (.bool false))
 (.node (sy 200 [sy 131139 [], .int .i64 0])
 (.leaf (.bool false))
 (.node (sy 232 [sy 131139 [], .int .i64 6])
 (.leaf (.bool false))
 (.node (sy 264 [sy 131187 [], sy 131171 []])
 (.node (sy 200 [sy 131187 [], .int .i64 0])
 (.leaf (.bool false))
 (.node (sy 248 [sy 131187 [], .int .i64 2])
 (.leaf (.bool false))
 (.node (sy 200 [sy 131219 [], .int .i64 0])
 (.leaf (.bool false))
 (.node (sy 264 [sy 131219 [], .int .i64 0])
 (.node (sy 296 [sy 344 [sy 264 [sy 131187 [], sy 131187 []], sy 344 [sy 264 [sy 131203 [], .int .i64 0], sy 264 [sy 131219 [], .int .i64 0]]]])
 (.leaf (.bool false))
 (.node (sy 296 [sy 65592 [sy 131075 [], sy 131091 [], sy 131115 [], sy 131239 []]])
 (.leaf (.bool false))
 (.node (sy 296 [sy 65592 [sy 131075 [], sy 131091 [], sy 131115 [], sy 131255 []]])
 (.leaf (.bool false))
 (.node (sy 296 [sy 65592 [sy 131075 [], sy 131091 [], sy 131115 [], sy 131271 []]])
 (.leaf (.bool false))
 (.node (sy 296 [sy 65592 [sy 131075 [], sy 131091 [], sy 131115 [], sy 131287 []]])
 (.leaf (.bool false))
 (.node (sy 296 [sy 65592 [sy 131075 [], sy 131091 [], sy 131115 [], sy 131303 []]])
 (.leaf (.bool false))
 (.node (sy 296 [sy 65592 [sy 131075 [], sy 131091 [], sy 131115 [], sy 131319 []]])
 (.leaf (.bool false))
 (.leaf (.bool true)))))))))
 (.node (sy 216 [sy 131219 [], sy 131091 []])
 (.node (sy 248 [sy 131203 [], sy 19 [sy 19 [.int .i64 3, sy 51 [.int .i64 2, sy 131075 []]], sy 51 [sy 131187 [], sy 131091 []]]])
 (.node (sy 296 [sy 216 [sy 35 [sy 131203 [], sy 19 [sy 19 [.int .i64 3, sy 51 [.int .i64 2, sy 131075 []]], sy 51 [sy 131187 [], sy 131091 []]]], sy 35 [sy 131091 [], sy 131219 []]]])
 (.leaf (.bool false))
 (.node (sy 296 [sy 65592 [sy 131075 [], sy 131091 [], sy 131115 [], sy 131239 []]])
 (.leaf (.bool false))
 (.node (sy 296 [sy 65592 [sy 131075 [], sy 131091 [], sy 131115 [], sy 131255 []]])
 (.leaf (.bool false))
 (.node (sy 296 [sy 65592 [sy 131075 [], sy 131091 [], sy 131115 [], sy 131271 []]])
 (.leaf (.bool false))
 (.node (sy 296 [sy 65592 [sy 131075 [], sy 131091 [], sy 131115 [], sy 131287 []]])
 (.leaf (.bool false))
 (.node (sy 296 [sy 65592 [sy 131075 [], sy 131091 [], sy 131115 [], sy 131303 []]])
 (.leaf (.bool false))
 (.node (sy 296 [sy 65592 [sy 131075 [], sy 131091 [], sy 131115 [], sy 131319 []]])
 (.leaf (.bool false))
 (.leaf (.bool true)))))))))
 (.leaf (.bool false)))
 (.leaf (.bool false)))))))
 (.leaf (.bool false)))))))))))
 (.leaf (.bool false))⟩
noncomputable def im_isErr : List (Value × Facts) := [(.int .i64 0, [(sy 200 [pvar 2 3, .int .i64 0], false), (sy 248 [pvar 2 3, sy 691 [sy 649 [sy 714 [pvar 0 11, pvar 1 3, .int .i64 1]]]], false)])]
noncomputable def x_isErr_p : Ot := ⟨⟨115, [0, 1, 2, 3], [.lf 11, .lf 3, .lf 3, .lf 3]⟩, .node (sy 80024 [sy 131083 []])
 (.node (sy 200 [sy 131091 [], .int .i64 0])
 (.leaf (.int .i64 130))
 (.node (sy 248 [sy 131091 [], sy 675 [sy 131083 []]])
 (.leaf (.int .i64 130))
 (.node (sy 200 [sy 131107 [], .int .i64 0])
 (.leaf (.int .i64 131))
 (.node (sy 248 [sy 131107 [], sy 691 [sy 649 [sy 714 [sy 131083 [], sy 131091 [], .int .i64 1]]]])
 (.leaf (.int .i64 131))
 (.node (sy 264 [sy 322 [sy 804 [sy 649 [sy 714 [sy 131083 [], sy 131091 [], .int .i64 1]], sy 131107 []]], .int .i32 112])
 (.node (sy 280 [.int .i64 0, sy 131123 []])
 (.leaf (.int .i64 132))
 (.leaf (.int .i64 0)))
 (.node (sy 264 [sy 322 [sy 804 [sy 649 [sy 714 [sy 131083 [], sy 131091 [], .int .i64 1]], sy 131107 []]], .int .i32 115])
 (.node (sy 280 [.int .i64 1, sy 131123 []])
 (.leaf (.int .i64 132))
 (.leaf (.int .i64 0)))
 (.node (sy 280 [.int .i64 0, sy 131123 []])
 (.leaf (.int .i64 132))
 (.leaf (.int .i64 0)))))))))
 (.leaf (.int .i64 2))⟩
noncomputable def im_scalarW : List (Value × Facts) := []
noncomputable def x_scalarW_p : Ot := ⟨⟨121, [0], [.lf 3]⟩, .node (sy 200 [sy 131075 [], .int .i64 (-576460752303423488)])
 (.leaf (.int .u64 0))
 (.node (sy 232 [sy 131075 [], .int .i64 576460752303423487])
 (.leaf (.int .u64 0))
 (.leaf (sy 119 [sy 55 [sy 327 [sy 19 [sy 131075 [], .int .i64 576460752303423488]], .int .u64 8], .int .u64 4])))⟩
noncomputable def tabO : List Otab := [⟨3, [x_opErr_p.q], im_opErr, .int .i64 1⟩, ⟨8, [x_threadOk_d.q, x_threadOk_p.q], im_threadOk, .bool false⟩, ⟨3, [x_isErr_p.q], im_isErr, .int .i64 1⟩, ⟨7, [x_scalarW_p.q], im_scalarW, .int .u64 0⟩]
noncomputable def GO (K : Nat → Option Obj) (op : Nat) (l : List Value) : Value := if 6000 ≤ op / 16 then opq Tryz.prog GI tabO K (op / 16 - 6000) l else GI K op l
def Glob2 (m : Mu) : Prop := ∀ op l, 6000 ≤ op / 16 → op / 16 < 8192 → m.I op l = opq Tryz.prog GI tabO m.K (op / 16 - 6000) l
structure GA (m : Mu) : Prop where
 g : Glob m
 o : Glob2 m
theorem GA.sub {m : Mu} (h : GA m) (τ : List Value) (D : Nat → Value) : GA (subM m τ D) := by
 have e : ∀ op l, op / 16 < 8192 → (subM m τ D).I op l = m.I op l := fun op l h2 => by
  show subI m τ D op l = _
  unfold subI
  rw [if_neg (by omega), if_neg (by omega)]
 exact ⟨fun op l h1 h2 => (e op l (by omega)).trans (h.g op l h1 h2), fun op l h1 h2 => (e op l h2).trans (h.o op l h1 h2)⟩
theorem ga_mu (av : List (List Value)) (K : Nat → Option Obj) : GA ⟨muI av (GO K), K⟩ := by
 have e : ∀ op l, 4096 ≤ op / 16 → muI av (GO K) op l = GO K op l := fun op l h1 => by unfold muI; rw [if_neg (by omega)]
 refine ⟨fun op l h1 h2 => (e op l h1).trans ?_, fun op l h1 h2 => (e op l (by omega)).trans ?_⟩
 ·unfold GO; rw [if_neg (by omega)]
 ·unfold GO; rw [if_pos h1]
noncomputable def tabT : List Tell := [⟨96003, [11, 3, 3, 3, 3, 3, 3, 3, 3], im_opErr⟩, ⟨96024, [3, 3, 11, 3, 3, 3, 3, 3, 3, 3, 7, 7, 7, 7, 7, 7], im_threadOk⟩, ⟨96035, [11, 3, 3, 3], im_isErr⟩, ⟨96055, [3], im_scalarW⟩]
theorem tabT_ok {m : Mu} (h : GA m) : TabOk GI m tabT := by
 intro x hx l
 unfold tabT at hx
 simp only [List.mem_cons, List.not_mem_nil, or_false] at hx
 rcases hx with rfl | rfl | rfl | rfl
 ·rw [show m.I 96003 l = opq Tryz.prog GI tabO m.K 0 l from h.o _ l (by decide) (by decide)]
  exact ⟨opq_srt (tab := tabO) (k := 0) rfl rfl, opq_tells (tab := tabO) (k := 0) rfl (by kernel_rfl)⟩
 ·rw [show m.I 96024 l = opq Tryz.prog GI tabO m.K 1 l from h.o _ l (by decide) (by decide)]
  exact ⟨opq_srt (tab := tabO) (k := 1) rfl rfl, opq_tells (tab := tabO) (k := 1) rfl (by kernel_rfl)⟩
 ·rw [show m.I 96035 l = opq Tryz.prog GI tabO m.K 2 l from h.o _ l (by decide) (by decide)]
  exact ⟨opq_srt (tab := tabO) (k := 2) rfl rfl, opq_tells (tab := tabO) (k := 2) rfl (by kernel_rfl)⟩
 ·rw [show m.I 96055 l = opq Tryz.prog GI tabO m.K 3 l from h.o _ l (by decide) (by decide)]
  exact ⟨opq_srt (tab := tabO) (k := 3) rfl rfl, opq_tells (tab := tabO) (k := 3) rfl (by kernel_rfl)⟩
theorem tabT_nat : natTab tabT = true := by kernel_rfl
theorem tabT_tells {m : Mu} (h : GA m) : MkOk m (tellM tabT) := by
 refine tellM_ok (G := GI) (fun op l h1 h2 => h.g op l h1 h2) (tabT_ok h) tabT_nat fun x hx => ?_
 unfold tabT at hx
 simp only [List.mem_cons, List.not_mem_nil, or_false] at hx
 rcases hx with rfl | rfl | rfl | rfl
 ·exact ⟨fun y hy => List.all_eq_true.1 (show (im_opErr.all fun y => okΓ [11, 3, 3, 3, 3, 3, 3, 3, 3] y.2) = true by kernel_rfl) y hy, by decide⟩
 ·exact ⟨fun y hy => List.all_eq_true.1 (show (im_threadOk.all fun y => okΓ [3, 3, 11, 3, 3, 3, 3, 3, 3, 3, 7, 7, 7, 7, 7, 7] y.2) = true by kernel_rfl) y hy, by decide⟩
 ·exact ⟨fun y hy => List.all_eq_true.1 (show (im_isErr.all fun y => okΓ [11, 3, 3, 3] y.2) = true by kernel_rfl) y hy, by decide⟩
 ·exact ⟨fun y hy => List.all_eq_true.1 (show (im_scalarW.all fun y => okΓ [3] y.2) = true by kernel_rfl) y hy, by decide⟩
noncomputable def n_opErr_p : List Ent := [entG (pShapes 55)]
theorem n_opErr_p_ok {m : Mu} (h : GA m) : ∀ x ∈ n_opErr_p, EntOk Tryz.prog m x := by
 intro x hx
 unfold n_opErr_p at hx
 simp only [List.mem_cons, List.not_mem_nil, or_false] at hx
 rcases hx with rfl
 ·exact gShapes h.g
theorem e_opErr_p : treeQ Tryz.prog (smOf n_opErr_p) (mkR) 1000000 400 [11, 3, 3, 3, 3, 3, 3, 3, 3] [(sy 80008 [pvar 0 11], true), (sy 65544 [pvar 0 11], true)] x_opErr_p.q = x_opErr_p.t := by kernel_rfl
theorem t_opErr {m : Mu} (h : GA m) : ∀ y ∈ [x_opErr_p], ∃ sm, (∀ τ D, SmOk Tryz.prog sm (subM m τ D)) ∧ treeQ Tryz.prog sm (mkR) 1000000 400 [11, 3, 3, 3, 3, 3, 3, 3, 3] [(sy 80008 [pvar 0 11], true), (sy 65544 [pvar 0 11], true)] y.q = y.t := by
 intro y hy
 simp only [List.mem_cons, List.not_mem_nil, or_false] at hy
 rcases hy with rfl
 ·exact ⟨smOf n_opErr_p, fun τ D => smOf_ok (n_opErr_p_ok (h.sub τ D)), e_opErr_p⟩
theorem b_opErr : ∀ y ∈ [x_opErr_p], noBad y.t = true ∧ ltAll 9 y.q.perm = true := by
 intro y hy
 simp only [List.mem_cons, List.not_mem_nil, or_false] at hy
 rcases hy with rfl
 ·exact ⟨by kernel_rfl, by kernel_rfl⟩
theorem q_opErr : ∀ y ∈ ([] : List Ot), sameT2 (mkR) y.t x_opErr_p.t [(sy 80008 [pvar 0 11], true), (sy 65544 [pvar 0 11], true)] = true := by
 intro y hy
 simp at hy
noncomputable def o_opErr_p : Op1 := ⟨81, [.lf 11, .st [3, 3, 3, 3, 3, 3, 3, 3]], [0, 1, 2, 3, 4, 5, 6, 7, 8], 96003, [(sy 80008 [pvar 0 11], true), (sy 65544 [pvar 0 11], true)]⟩
theorem go_opErr_p {m : Mu} (h : GA m) : EntOk Tryz.prog m (entO o_opErr_p) :=
 entO_ok small0 (G := GI) (fun op l h1 h2 => h.g op l h1 h2) (tab := tabO) (k := 0) (s := 3) (x0 := x_opErr_p) (xs := []) (mk := mkR) (fuel := 1000000) (d := 400) (σ := [11, 3, 3, 3, 3, 3, 3, 3, 3]) (x := o_opErr_p) (perm := [0, 1, 2, 3, 4, 5, 6, 7, 8]) (im := im_opErr) (dv := .int .i64 1) rfl (by simp [o_opErr_p, x_opErr_p]) (by kernel_rfl) rfl (by decide) (fun l => h.o _ l (by decide) (by decide))
  (by kernel_rfl) (t_opErr h) (fun τ D => mkR_ok (h.sub τ D).g) b_opErr (by kernel_rfl) (by kernel_rfl) (by kernel_rfl) q_opErr (by kernel_rfl) (by kernel_rfl)
noncomputable def n_threadOk_d : List Ent := [entG (pRight 27), entG (pRFit 29)]
theorem n_threadOk_d_ok {m : Mu} (h : GA m) : ∀ x ∈ n_threadOk_d, EntOk Tryz.prog m x := by
 intro x hx
 unfold n_threadOk_d at hx
 simp only [List.mem_cons, List.not_mem_nil, or_false] at hx
 rcases hx with rfl | rfl
 ·exact gRight h.g
 ·exact gRFit h.g
theorem e_threadOk_d : treeQ Tryz.prog (smOf n_threadOk_d) (mkR) 1000000 400 [3, 3, 11, 3, 3, 3, 3, 3, 3, 3, 7, 7, 7, 7, 7, 7] [(sy 80008 [pvar 2 11], true), (sy 65544 [pvar 2 11], true)] x_threadOk_d.q = x_threadOk_d.t := by kernel_rfl
noncomputable def n_threadOk_p : List Ent := [entG (pCheck 36), entG (pFit 38)]
theorem n_threadOk_p_ok {m : Mu} (h : GA m) : ∀ x ∈ n_threadOk_p, EntOk Tryz.prog m x := by
 intro x hx
 unfold n_threadOk_p at hx
 simp only [List.mem_cons, List.not_mem_nil, or_false] at hx
 rcases hx with rfl | rfl
 ·exact gCheck h.g
 ·exact gFit h.g
theorem e_threadOk_p : treeQ Tryz.prog (smOf n_threadOk_p) (mkR) 1000000 400 [3, 3, 11, 3, 3, 3, 3, 3, 3, 3, 7, 7, 7, 7, 7, 7] [(sy 80008 [pvar 2 11], true), (sy 65544 [pvar 2 11], true)] x_threadOk_p.q = x_threadOk_p.t := by kernel_rfl
theorem t_threadOk {m : Mu} (h : GA m) : ∀ y ∈ [x_threadOk_d, x_threadOk_p], ∃ sm, (∀ τ D, SmOk Tryz.prog sm (subM m τ D)) ∧ treeQ Tryz.prog sm (mkR) 1000000 400 [3, 3, 11, 3, 3, 3, 3, 3, 3, 3, 7, 7, 7, 7, 7, 7] [(sy 80008 [pvar 2 11], true), (sy 65544 [pvar 2 11], true)] y.q = y.t := by
 intro y hy
 simp only [List.mem_cons, List.not_mem_nil, or_false] at hy
 rcases hy with rfl | rfl
 ·exact ⟨smOf n_threadOk_d, fun τ D => smOf_ok (n_threadOk_d_ok (h.sub τ D)), e_threadOk_d⟩
 ·exact ⟨smOf n_threadOk_p, fun τ D => smOf_ok (n_threadOk_p_ok (h.sub τ D)), e_threadOk_p⟩
theorem b_threadOk : ∀ y ∈ [x_threadOk_d, x_threadOk_p], noBad y.t = true ∧ ltAll 16 y.q.perm = true := by
 intro y hy
 simp only [List.mem_cons, List.not_mem_nil, or_false] at hy
 rcases hy with rfl | rfl
 ·exact ⟨by kernel_rfl, by kernel_rfl⟩
 ·exact ⟨by kernel_rfl, by kernel_rfl⟩
theorem q_threadOk : ∀ y ∈ ([x_threadOk_p] : List Ot), sameT2 (mkR) y.t x_threadOk_d.t [(sy 80008 [pvar 2 11], true), (sy 65544 [pvar 2 11], true)] = true := by
 intro y hy
 simp only [List.mem_cons, List.not_mem_nil, or_false] at hy
 rcases hy with rfl
 ·kernel_rfl
noncomputable def o_threadOk_d : Op1 := ⟨13, [.st [3, 3, 11], .st [3, 3, 3, 3, 3, 3, 3, 7, 7, 7, 7, 7, 7]], [0, 1, 2, 3, 4, 5, 6, 7, 8, 9, 10, 11, 12, 13, 14, 15], 96024, [(sy 80008 [pvar 2 11], true), (sy 65544 [pvar 2 11], true)]⟩
theorem go_threadOk_d {m : Mu} (h : GA m) : EntOk Tryz.prog m (entO o_threadOk_d) :=
 entO_ok small0 (G := GI) (fun op l h1 h2 => h.g op l h1 h2) (tab := tabO) (k := 1) (s := 8) (x0 := x_threadOk_d) (xs := [x_threadOk_p]) (mk := mkR) (fuel := 1000000) (d := 400) (σ := [3, 3, 11, 3, 3, 3, 3, 3, 3, 3, 7, 7, 7, 7, 7, 7]) (x := o_threadOk_d) (perm := [0, 1, 2, 3, 4, 5, 6, 7, 8, 9, 10, 11, 12, 13, 14, 15]) (im := im_threadOk) (dv := .bool false) rfl (by simp [o_threadOk_d, x_threadOk_d]) (by kernel_rfl) rfl (by decide) (fun l => h.o _ l (by decide) (by decide))
  (by kernel_rfl) (t_threadOk h) (fun τ D => mkR_ok (h.sub τ D).g) b_threadOk (by kernel_rfl) (by kernel_rfl) (by kernel_rfl) q_threadOk (by kernel_rfl) (by kernel_rfl)
noncomputable def o_threadOk_p : Op1 := ⟨57, [.st [3, 3, 3, 3, 3, 3, 3, 7, 7, 7, 7, 7, 7, 3, 3, 11]], [13, 14, 15, 0, 1, 2, 3, 4, 5, 6, 7, 8, 9, 10, 11, 12], 96024, [(sy 80008 [pvar 2 11], true), (sy 65544 [pvar 2 11], true)]⟩
theorem go_threadOk_p {m : Mu} (h : GA m) : EntOk Tryz.prog m (entO o_threadOk_p) :=
 entO_ok small0 (G := GI) (fun op l h1 h2 => h.g op l h1 h2) (tab := tabO) (k := 1) (s := 8) (x0 := x_threadOk_d) (xs := [x_threadOk_p]) (mk := mkR) (fuel := 1000000) (d := 400) (σ := [3, 3, 11, 3, 3, 3, 3, 3, 3, 3, 7, 7, 7, 7, 7, 7]) (x := o_threadOk_p) (perm := [3, 4, 5, 6, 7, 8, 9, 10, 11, 12, 13, 14, 15, 0, 1, 2]) (im := im_threadOk) (dv := .bool false) rfl (by simp [o_threadOk_p, x_threadOk_p]) (by kernel_rfl) rfl (by decide) (fun l => h.o _ l (by decide) (by decide))
  (by kernel_rfl) (t_threadOk h) (fun τ D => mkR_ok (h.sub τ D).g) b_threadOk (by kernel_rfl) (by kernel_rfl) (by kernel_rfl) q_threadOk (by kernel_rfl) (by kernel_rfl)
noncomputable def n_isErr_p : List Ent := [entG (pShapes 55)]
theorem n_isErr_p_ok {m : Mu} (h : GA m) : ∀ x ∈ n_isErr_p, EntOk Tryz.prog m x := by
 intro x hx
 unfold n_isErr_p at hx
 simp only [List.mem_cons, List.not_mem_nil, or_false] at hx
 rcases hx with rfl
 ·exact gShapes h.g
theorem e_isErr_p : treeQ Tryz.prog (smOf n_isErr_p) (mkR) 1000000 400 [11, 3, 3, 3] [(sy 80008 [pvar 0 11], true), (sy 65544 [pvar 0 11], true)] x_isErr_p.q = x_isErr_p.t := by kernel_rfl
theorem t_isErr {m : Mu} (h : GA m) : ∀ y ∈ [x_isErr_p], ∃ sm, (∀ τ D, SmOk Tryz.prog sm (subM m τ D)) ∧ treeQ Tryz.prog sm (mkR) 1000000 400 [11, 3, 3, 3] [(sy 80008 [pvar 0 11], true), (sy 65544 [pvar 0 11], true)] y.q = y.t := by
 intro y hy
 simp only [List.mem_cons, List.not_mem_nil, or_false] at hy
 rcases hy with rfl
 ·exact ⟨smOf n_isErr_p, fun τ D => smOf_ok (n_isErr_p_ok (h.sub τ D)), e_isErr_p⟩
theorem b_isErr : ∀ y ∈ [x_isErr_p], noBad y.t = true ∧ ltAll 4 y.q.perm = true := by
 intro y hy
 simp only [List.mem_cons, List.not_mem_nil, or_false] at hy
 rcases hy with rfl
 ·exact ⟨by kernel_rfl, by kernel_rfl⟩
theorem q_isErr : ∀ y ∈ ([] : List Ot), sameT2 (mkR) y.t x_isErr_p.t [(sy 80008 [pvar 0 11], true), (sy 65544 [pvar 0 11], true)] = true := by
 intro y hy
 simp at hy
noncomputable def o_isErr_p : Op1 := ⟨115, [.lf 11, .lf 3, .lf 3, .lf 3], [0, 1, 2, 3], 96035, [(sy 80008 [pvar 0 11], true), (sy 65544 [pvar 0 11], true)]⟩
theorem go_isErr_p {m : Mu} (h : GA m) : EntOk Tryz.prog m (entO o_isErr_p) :=
 entO_ok small0 (G := GI) (fun op l h1 h2 => h.g op l h1 h2) (tab := tabO) (k := 2) (s := 3) (x0 := x_isErr_p) (xs := []) (mk := mkR) (fuel := 1000000) (d := 400) (σ := [11, 3, 3, 3]) (x := o_isErr_p) (perm := [0, 1, 2, 3]) (im := im_isErr) (dv := .int .i64 1) rfl (by simp [o_isErr_p, x_isErr_p]) (by kernel_rfl) rfl (by decide) (fun l => h.o _ l (by decide) (by decide))
  (by kernel_rfl) (t_isErr h) (fun τ D => mkR_ok (h.sub τ D).g) b_isErr (by kernel_rfl) (by kernel_rfl) (by kernel_rfl) q_isErr (by kernel_rfl) (by kernel_rfl)
noncomputable def n_scalarW_p : List Ent := []
theorem n_scalarW_p_ok {m : Mu} (h : GA m) : ∀ x ∈ n_scalarW_p, EntOk Tryz.prog m x := by
 intro x hx
 unfold n_scalarW_p at hx
 simp at hx
theorem e_scalarW_p : treeQ Tryz.prog (smOf n_scalarW_p) (mkR) 1000000 400 [3] [] x_scalarW_p.q = x_scalarW_p.t := by kernel_rfl
theorem t_scalarW {m : Mu} (h : GA m) : ∀ y ∈ [x_scalarW_p], ∃ sm, (∀ τ D, SmOk Tryz.prog sm (subM m τ D)) ∧ treeQ Tryz.prog sm (mkR) 1000000 400 [3] [] y.q = y.t := by
 intro y hy
 simp only [List.mem_cons, List.not_mem_nil, or_false] at hy
 rcases hy with rfl
 ·exact ⟨smOf n_scalarW_p, fun τ D => smOf_ok (n_scalarW_p_ok (h.sub τ D)), e_scalarW_p⟩
theorem b_scalarW : ∀ y ∈ [x_scalarW_p], noBad y.t = true ∧ ltAll 1 y.q.perm = true := by
 intro y hy
 simp only [List.mem_cons, List.not_mem_nil, or_false] at hy
 rcases hy with rfl
 ·exact ⟨by kernel_rfl, by kernel_rfl⟩
theorem q_scalarW : ∀ y ∈ ([] : List Ot), sameT2 (mkR) y.t x_scalarW_p.t [] = true := by
 intro y hy
 simp at hy
noncomputable def o_scalarW_p : Op1 := ⟨121, [.lf 3], [0], 96055, []⟩
theorem go_scalarW_p {m : Mu} (h : GA m) : EntOk Tryz.prog m (entO o_scalarW_p) :=
 entO_ok small0 (G := GI) (fun op l h1 h2 => h.g op l h1 h2) (tab := tabO) (k := 3) (s := 7) (x0 := x_scalarW_p) (xs := []) (mk := mkR) (fuel := 1000000) (d := 400) (σ := [3]) (x := o_scalarW_p) (perm := [0]) (im := im_scalarW) (dv := .int .u64 0) rfl (by simp [o_scalarW_p, x_scalarW_p]) (by kernel_rfl) rfl (by decide) (fun l => h.o _ l (by decide) (by decide))
  (by kernel_rfl) (t_scalarW h) (fun τ D => mkR_ok (h.sub τ D).g) b_scalarW (by kernel_rfl) (by kernel_rfl) (by kernel_rfl) q_scalarW (by kernel_rfl) (by kernel_rfl)
end Go.Proofs.YtflipopanpdcnadGreat
