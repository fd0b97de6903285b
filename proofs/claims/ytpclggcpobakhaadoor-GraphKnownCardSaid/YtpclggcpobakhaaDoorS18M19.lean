/-
  Chapter 18: one call on the row of 64 nodes, evaluated.
-/
import Derived.Test.YtpclggcpobakhaaDoorS18Memo
namespace Go.Proofs.YtpclggcpobakhaaDoor
open Go Go.Ab
set_option maxHeartbeats 0 in
theorem fast_19 : (hand E18p fast18 1000).call 19 (A18 1) rowM (isPlainK (isWord 9223372036854775806) 2) = true := by decide +kernel
end Go.Proofs.YtpclggcpobakhaaDoor
