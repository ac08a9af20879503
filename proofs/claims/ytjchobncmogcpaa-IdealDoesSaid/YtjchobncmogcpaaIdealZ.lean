/- What a nil queue makes. -/
import Derived.Test.YtjchobncmogcpaaIdealR6
namespace Go.Proofs.Ytjchobncmogcpaa
open Go.RowKit

set_option maxRecDepth 100000
section
theorem stepZ_any (w : World) (st kind pl : Int) (A : Option Addr) (n c : Nat) :
    Calls Try.prog 58 #[.pointer none, .agg #[.int .i64 st, .int .i64 kind, .int .i64 pl, .slice A n c]] w fun e w' => e = .returned (.bool false) ∧ Ext w w' := by
  go_enter Try.func58, Try.ntmps58
  go_wp2_with (go_at_call 110; refine (isINil_any _).mono ?_; rintro e w2 ⟨rfl, rfl⟩)
  go_ret
  exact ⟨rfl, ext_alloc _ _⟩
theorem placesZ_any (w : World) :
    Calls Try.prog 60 #[.pointer none] w fun e w' => e = .returned (.slice none 0 0) ∧ w = w' := by
  go_enter Try.func60, Try.ntmps60
  go_wp2_with (go_at_call 110; refine (isINil_any _).mono ?_; rintro e w2 ⟨rfl, rfl⟩)
  go_ret
  exact ⟨rfl, rfl⟩
end
end Go.Proofs.Ytjchobncmogcpaa
