/- The functions that a puller's Take or Receive reaches, on either side, go their way under a veil. -/
import Derived.Test.YtjchobncmogcpaaTwo
import Derived.Test.YtjchobncmogcpaaProg
namespace Go.Proofs.Ytjchobncmogcpaa
open Go.RowKit

def fsPull : List FuncId := [17, 19, 25, 26, 70, 71, 72, 73, 74, 75, 80, 81, 82, 83, 84, 112, 117, 118, 119, 120, 121, 122, 123, 124, 125, 126, 150]
def FPull (f : FuncId) : Bool := fsPull.contains f
set_option maxRecDepth 100000
theorem plainPull : ∀ g, FPull g = true → bodyPlain Try.prog FPull g = true := by
  have h : (fsPull.all (bodyPlain Try.prog FPull)) = true := by kernel_rfl
  intro g hg
  exact List.all_eq_true.1 h g (by simpa [FPull] using hg)
end Go.Proofs.Ytjchobncmogcpaa
