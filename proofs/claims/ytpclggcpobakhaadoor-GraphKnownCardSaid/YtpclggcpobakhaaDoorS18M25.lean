/-
  Chapter 18: one call on the row of 64 nodes, evaluated.
-/
import Derived.Test.YtpclggcpobakhaaDoorS18Memo
namespace Go.Proofs.YtpclggcpobakhaaDoor
open Go Go.Ab
set_option maxHeartbeats 0 in
theorem fast_25 : (hand E18p fast18 1000).call 25 (A25 1) rowM (isPlainK (isInt 32) 2) = true := by decide +kernel
end Go.Proofs.YtpclggcpobakhaaDoor
