/- GraphKnown returns true: the kernel evaluates the law by the abstract machine, which is proved to follow the model; two functions are evaluated by their contracts. Conditions: none beyond those of the row. -/
import Derived.Test.YtpclggcpobakhaaDoorS18Known
namespace Go.Proofs.YtpclggcpobakhaaDoor
open Go Go.Ab
set_option maxHeartbeats 0 in
theorem known_fast : (hand E18p fast18 1000).call 3 [] m18 (yesK 1) = true := by decide +kernel
theorem graphKnown_card : Rows.GraphKnownCardSaid :=
  let ⟨_, _, h1, h2⟩ := yes_of_fast fast18_ok known_fast
  known_card (known_holds (pr := pr18) E18p_ok rfl h1 h2)
end Go.Proofs.YtpclggcpobakhaaDoor
