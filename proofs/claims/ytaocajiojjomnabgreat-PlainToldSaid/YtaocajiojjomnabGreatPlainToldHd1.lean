/- All ways from some heads of the loop of PlainTold, by the kernel. -/
import Derived.Test.YtaocajiojjomnabGreatPlainToldHd
namespace Go.Proofs.YtaocajiojjomnabGreat.plainTold
open Go Go.Gz Go.RowKit
theorem both0 : (nilB (left_ h0), stopsL (runs h0)) = (true, List.replicate 4 (X0, T0)) := by kernel_rfl
theorem both1 : (nilB (left_ h1), stopsL (runs h1)) = (true, List.replicate 1 (X0, T0)) := by kernel_rfl
theorem both2 : (nilB (left_ h2), stopsL (runs h2)) = (true, List.replicate 1 (X0, T0)) := by kernel_rfl
theorem both3 : (nilB (left_ h3), stopsL (runs h3)) = (true, List.replicate 1 (X0, T0)) := by kernel_rfl
theorem both4 : (nilB (left_ h4), stopsL (runs h4)) = (true, List.replicate 13 (X0, T0)) := by kernel_rfl
theorem both5 : (nilB (left_ h5), stopsL (runs h5)) = (true, List.replicate 1 (X0, T0)) := by kernel_rfl
theorem both6 : (nilB (left_ h6), stopsL (runs h6)) = (true, List.replicate 1 (X0, T0)) := by kernel_rfl
theorem both7 : (nilB (left_ h7), stopsL (runs h7)) = (true, List.replicate 1 (X0, T0)) := by kernel_rfl
theorem both8 : (nilB (left_ h8), stopsL (runs h8)) = (true, List.replicate 2 (X0, T0)) := by kernel_rfl
theorem both9 : (nilB (left_ h9), stopsL (runs h9)) = (true, List.replicate 2 (X0, T0)) := by kernel_rfl
theorem both10 : (nilB (left_ h10), stopsL (runs h10)) = (true, List.replicate 2 (X0, T0)) := by kernel_rfl
theorem both11 : (nilB (left_ h11), stopsL (runs h11)) = (true, List.replicate 3 (X0, T0)) := by kernel_rfl
theorem both12 : (nilB (left_ h12), stopsL (runs h12)) = (true, List.replicate 3 (X0, T0)) := by kernel_rfl
theorem both13 : (nilB (left_ h13), stopsL (runs h13)) = (true, List.replicate 1 (X0, T0)) := by kernel_rfl
theorem both14 : (nilB (left_ h14), stopsL (runs h14)) = (true, List.replicate 1 (X0, T0)) := by kernel_rfl
theorem both15 : (nilB (left_ h15), stopsL (runs h15)) = (true, List.replicate 1 (X0, T0)) := by kernel_rfl
theorem both16 : (nilB (left_ h16), stopsL (runs h16)) = (true, List.replicate 1 (X0, T0)) := by kernel_rfl
theorem both17 : (nilB (left_ h17), stopsL (runs h17)) = (true, List.replicate 1 (X0, T0)) := by kernel_rfl
end Go.Proofs.YtaocajiojjomnabGreat.plainTold
