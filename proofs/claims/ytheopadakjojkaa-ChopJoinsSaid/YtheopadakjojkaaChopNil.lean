/- The walk of ChopNil. -/
import Derived.Test.YtheopadakjojkaaChopLive
namespace Go.Proofs.Ytheopadakjojkaa
open Go.RowKit

set_option maxRecDepth 100000
section
theorem isMade_any (w : World) (g : Nat) (made : Bool) (c0 : w.cell? ⟨g, 0, none⟩ = some (.bool made)) :
    Calls Try.prog 85 #[.pointer (some ⟨g, 0, none⟩)] w fun e w' => e = .returned (.bool made) ∧ w = w' := by
  go_enter Try.func85, Try.ntmps85
  go_wp2
  go_ret
  exact ⟨rfl, rfl⟩
theorem isNil_any (w : World) : Calls Try.prog 85 #[.pointer none] w fun e w' => e = .returned (.bool false) ∧ w = w' := by
  go_enter Try.func85, Try.ntmps85
  go_wp2
  go_ret
  exact ⟨rfl, rfl⟩
theorem waitsNil_any (w : World) : Calls Try.prog 37 #[.pointer none] w fun e w' => e = .returned (.int .i64 0) ∧ w = w' := by
  go_enter Try.func37, Try.ntmps37
  go_wp2_with (go_at_call 85; refine (isNil_any _).mono ?_; rintro e w' ⟨rfl, rfl⟩)
  go_ret
  exact ⟨rfl, rfl⟩
theorem feedNil_any (v : Value) (w : World) : Calls Try.prog 35 #[.pointer none, v] w fun e w' => e = .returned (.tuple #[.slice none 0 0, .bool false, .int .i64 5]) ∧ w = w' := by
  go_enter Try.func35, Try.ntmps35
  go_wp2_with (go_at_call 85; refine (isNil_any _).mono ?_; rintro e w' ⟨rfl, rfl⟩)
  go_ret3
  exact ⟨rfl, rfl⟩
theorem feedUnmade_any (v : Value) (w : World) (g : Nat) (c0 : w.cell? ⟨g, 0, none⟩ = some (.bool false)) : Calls Try.prog 35 #[.pointer (some ⟨g, 0, none⟩), v] w fun e w' => e = .returned (.tuple #[.slice none 0 0, .bool false, .int .i64 5]) ∧ w = w' := by
  have hi := isMade_any w g false c0
  have HI := hid hi
  clear hi
  go_enter Try.func35, Try.ntmps35
  go_wp2_with (go_at_call 85; refine HI.out.mono ?_; rintro e w' ⟨rfl, rfl⟩)
  go_ret3
  exact ⟨rfl, rfl⟩
theorem chopNil_any (v : Value) (w : World) : Calls Try.prog 6 #[v] w fun e w' => e = .returned (.bool true) ∧ Ext w w' := by
  go_enter Try.func6, Try.ntmps6
  go_wp2_with fail
  have x1 := ext_alloc w (.cells #[.bool false, .int .i64 0, .slice none 0 0] 52)
  have c0 := box_cell w #[.bool false, .int .i64 0, .slice none 0 0] 52 0
  have C0 := hid c0
  clear c0
  refine (feedNil_any _ _).mono ?_
  rintro e w1 ⟨rfl, rfl⟩
  go_wp2_with fail
  refine (feedUnmade_any _ _ _ C0.out).mono ?_
  rintro e w1 ⟨rfl, rfl⟩
  go_wp2_with (first | (go_at_call 36; refine (chopNum_any _ _).mono ?_; rintro e w1 ⟨rfl, rfl⟩) | (go_at_call 37; refine (waitsNil_any _).mono ?_; rintro e w' ⟨rfl, rfl⟩) | (go_at_call 38; refine (chopLive_any _).mono ?_; rintro e w' ⟨rfl, hext⟩))
  go_ret
  exact ⟨rfl, Ext.trans x1 hext⟩
end
end Go.Proofs.Ytheopadakjojkaa
