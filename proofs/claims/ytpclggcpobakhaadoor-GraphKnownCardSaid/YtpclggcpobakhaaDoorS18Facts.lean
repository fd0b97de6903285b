/-
  Chapter 18: facts of types.
-/
import Derived.Test.YtpclggcpobakhaaDoorAbsTz
import Derived.Test.YtpclggcpobakhaaDoorAbsFastRun
import Derived.Test.YtpclggcpobakhaaDoorS18Row
namespace Go.Proofs.YtpclggcpobakhaaDoor
open Go Go.Ab
theorem P18 : E18.P = Tryd.prog := rfl
theorem u3 : Tryd.prog.underlying 3 = some (.int .i64) := by kernel_rfl
theorem u5 : Tryd.prog.underlying 5 = some (.int .u8) := by kernel_rfl
theorem u23 : Tryd.prog.underlying 23 = some (.slice 26) := by kernel_rfl
theorem u26 : Tryd.prog.underlying 26 = some (.array 2 3) := by kernel_rfl
theorem u28 : Tryd.prog.underlying 28 = some (.int .u64) := by kernel_rfl
theorem u36 : Tryd.prog.underlying 36 = some (.slice 28) := by kernel_rfl
theorem u39 : Tryd.prog.underlying 39 = some (.slice 3) := by kernel_rfl
theorem u104 : Tryd.prog.underlying 104 = some (.array 64 5) := by kernel_rfl
theorem k3 : known Tryd.prog 3 = true := by kernel_rfl
theorem k5 : known Tryd.prog 5 = true := by kernel_rfl
theorem k23 : known Tryd.prog 23 = true := by kernel_rfl
theorem k25 : known Tryd.prog 25 = true := by kernel_rfl
theorem k26 : known Tryd.prog 26 = true := by kernel_rfl
theorem k28 : known Tryd.prog 28 = true := by kernel_rfl
theorem s3 : sizeA Tryd.prog 3 = 1 := by kernel_rfl
theorem s5 : sizeA Tryd.prog 5 = 1 := by kernel_rfl
theorem s23 : sizeA Tryd.prog 23 = 1 := by kernel_rfl
theorem s25 : sizeA Tryd.prog 25 = 2 := by kernel_rfl
theorem s26 : sizeA Tryd.prog 26 = 2 := by kernel_rfl
theorem s28 : sizeA Tryd.prog 28 = 1 := by kernel_rfl
theorem a3 : isAggA Tryd.prog 3 = false := by kernel_rfl
theorem a5 : isAggA Tryd.prog 5 = false := by kernel_rfl
theorem a23 : isAggA Tryd.prog 23 = false := by kernel_rfl
theorem a25 : isAggA Tryd.prog 25 = true := by kernel_rfl
theorem a26 : isAggA Tryd.prog 26 = true := by kernel_rfl
theorem a28 : isAggA Tryd.prog 28 = false := by kernel_rfl
end Go.Proofs.YtpclggcpobakhaaDoor
