/- Contracts of arenas' words as entries: the words at the start; lists that are one. -/
import Derived.Test.YtflipopanpdcnadGreatR1
import Derived.Test.YtflipopanpdcnadGreatGzSub
set_option linter.unusedSimpArgs false
set_option linter.unusedVariables false
namespace Go.Proofs.YtflipopanpdcnadGreat
open Go Go.Gz Go.RowKit
noncomputable def sizeT (T S : Value) : Value := sy 19 [sy 19 [.int .i64 3, sy 51 [.int .i64 2, T]], sy 51 [.int .i64 2, S]]
noncomputable def baseT (T S : Value) : Value := sy 19 [sy 19 [.int .i64 3, sy 51 [.int .i64 2, T]], sy 51 [.int .i64 0, S]]
theorem num_cells {l : List Value} (h : l.all (srt 7) = true) : NumAt l (fun i => match l[i]? with
  | some (.int _ n) => n
  | _ => 0) l.length := by
 intro i hi
 have h1 : l[i]? = some l[i] := List.getElem?_eq_getElem hi
 have h2 := List.all_eq_true.1 h _ (List.getElem_mem hi)
 obtain ⟨n, hn, _⟩ := s_int (k := .u64) h2
 simp only [h1, hn]
theorem zsU : zsT Tryz.prog 29 = 7 := by kernel_rfl
end Go.Proofs.YtflipopanpdcnadGreat
