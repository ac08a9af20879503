/- The functions that a step of either queue reaches go their way under a veil. -/
import Derived.Test.YtjchobncmogcpaaTwo
import Derived.Test.YtjchobncmogcpaaProg
namespace Go.Proofs.Ytjchobncmogcpaa
open Go.RowKit

def fsIdeal : List FuncId := [27, 58, 59, 60, 75, 85, 110, 111, 112, 113, 127, 128, 135, 145, 146, 151, 152, 153, 154, 155, 156, 157, 158, 159, 160, 161, 165, 170, 171, 172, 173, 174, 175, 176]
def FIdeal (f : FuncId) : Bool := fsIdeal.contains f
set_option maxRecDepth 100000
theorem plainIdeal : ∀ g, FIdeal g = true → bodyPlain Try.prog FIdeal g = true := by
  have h : (fsIdeal.all (bodyPlain Try.prog FIdeal)) = true := by kernel_rfl
  intro g hg
  exact List.all_eq_true.1 h g (by simpa [FIdeal] using hg)
end Go.Proofs.Ytjchobncmogcpaa
