/- The walks of chance's Dice and its reference's. -/
import Derived.Test.YtheopadakjojkaaBytes
import Derived.Test.YtheopadakjojkaaObj
namespace Go.Proofs.Ytheopadakjojkaa
open Go.RowKit

def DiceAt (w : World) (g : Nat) (s : Int) : Prop := Blk w g 95 #[.bool true, .int .u64 s] ∧ 0 ≤ s ∧ s < 18446744073709551616
def RDiceAt (w : World) (g : Nat) (s : Int) : Prop := Blk w g 91 #[.int .u64 s] ∧ 0 ≤ s ∧ s < 18446744073709551616

def stepI (s : Int) : Int := IntKind.u64.wrap (IntKind.u64.wrap (s * 6364136223846793005) + 1442695040888963407)
def outI (t : Int) : Int := bits BinOp.xor IntKind.u64 t (t / 8589934592)
def belowI (s n : Int) : Int := outI (stepI s) % n
theorem u64_range (x : Int) : 0 ≤ IntKind.u64.wrap x ∧ IntKind.u64.wrap x < 18446744073709551616 := by
  have : IntKind.u64.wrap x = x % 18446744073709551616 := rfl
  rw [this]; omega
theorem u64_self {x : Int} (h0 : 0 ≤ x) (h1 : x < 18446744073709551616) : IntKind.u64.wrap x = x := by
  have : IntKind.u64.wrap x = x % 18446744073709551616 := rfl
  rw [this]; omega
theorem w64_self {x : Int} (h0 : 0 ≤ x) (h1 : x < 9223372036854775808) : wrap64 x = x := by unfold wrap64; omega
theorem step_range (s : Int) : 0 ≤ stepI s ∧ stepI s < 18446744073709551616 := u64_range _
theorem out_range (t : Int) : 0 ≤ outI t ∧ outI t < 18446744073709551616 := u64_range _
theorem out_eq {t : Int} (h0 : 0 ≤ t) (h1 : t < 18446744073709551616) : bits BinOp.xor IntKind.u64 t (IntKind.u64.wrap (t.tdiv 8589934592)) = outI t := by
  unfold outI
  rw [Int.tdiv_eq_ediv_of_nonneg h0, u64_self (by omega) (by omega)]
theorem below_range (s : Int) {n : Int} (h : 1 ≤ n) : 0 ≤ belowI s n ∧ belowI s n < n := ⟨Int.emod_nonneg _ (by omega), Int.emod_lt_of_pos _ (by omega)⟩

set_option maxRecDepth 100000
section
theorem diceIs_any (w : World) (g : Nat) (made : Bool) (c0 : w.cell? ⟨g, 0, none⟩ = some (.bool made)) :
    Calls Try.prog 98 #[.pointer (some ⟨g, 0, none⟩)] w fun e w' => e = .returned (.bool made) ∧ w = w' := by
  go_enter Try.func98, Try.ntmps98
  go_wp2
  go_ret
  exact ⟨rfl, rfl⟩
theorem diceIsNil_any (w : World) : Calls Try.prog 98 #[.pointer none] w fun e w' => e = .returned (.bool false) ∧ w = w' := by
  go_enter Try.func98, Try.ntmps98
  go_wp2
  go_ret
  exact ⟨rfl, rfl⟩
theorem next_any (w : World) (g : Nat) (s : Int) (h : DiceAt w g s) :
    Calls Try.prog 62 #[.pointer (some ⟨g, 0, none⟩)] w fun e w' => e = .returned (.int .u64 (outI (stepI s))) ∧ DiceAt w' g (stepI s) ∧ Only g w w' := by
  obtain ⟨hb, h0, h1⟩ := h
  have hi := diceIs_any w g true (hb.cell 0)
  have HI := hid hi
  have c1 : w.cell? ⟨g, 1, none⟩ = some (.int .u64 s) := hb.cell 1
  have f1 := hb.frozen 1
  clear hi
  go_enter Try.func62, Try.ntmps62
  go_wp2_with (go_at_call 98; refine HI.out.mono ?_; rintro e w' ⟨rfl, rfl⟩)
  go_quiet (fail)
  go_wp2
  go_ret
  exact ⟨rfl, ⟨(hb.set_ 1 _).drewN _, step_range s⟩, (Only.set_ (Only.refl _ _) _ _).then (ext_drewN _ _)⟩
theorem nextR_any (w : World) (g : Nat) (s : Int) (h : RDiceAt w g s) :
    Calls Try.prog 63 #[.pointer (some ⟨g, 0, none⟩)] w fun e w' => e = .returned (.int .u64 (outI (stepI s))) ∧ RDiceAt w' g (stepI s) ∧ Only g w w' := by
  obtain ⟨hb, h0, h1⟩ := h
  have c1 : w.cell? ⟨g, 0, none⟩ = some (.int .u64 s) := hb.cell 0
  have f1 := hb.frozen 0
  go_enter Try.func63, Try.ntmps63
  go_wp2
  go_quiet (fail)
  go_wp2
  go_ret
  exact ⟨ret_int (out_eq (step_range s).1 (step_range s).2), ⟨(hb.set_ 0 _).drewN _, step_range s⟩, (Only.set_ (Only.refl _ _) _ _).then (ext_drewN _ _)⟩
theorem below_any (w : World) (g : Nat) (s n : Int) (h : DiceAt w g s) (hn : 1 ≤ n) (hn2 : n ≤ 9223372036854775807) :
    Calls Try.prog 60 #[.pointer (some ⟨g, 0, none⟩), .int .i64 n] w fun e w' => e = .returned (.int .i64 (belowI s n)) ∧ DiceAt w' g (stepI s) ∧ Only g w w' := by
  have hnx := next_any w g s h
  obtain ⟨hb, h0, h1⟩ := h
  have hi := diceIs_any w g true (hb.cell 0)
  have HI := hid hi
  have HN := hid hnx
  have hor := out_range (stepI s)
  have hbr := below_range s hn
  unfold belowI at hbr ⊢
  generalize outI (stepI s) = o at *
  have hnz : n ≠ 0 := by omega
  clear hi hnx
  have HB := hid hbr
  have HO := hid hor
  clear hbr
  go_enter Try.func60, Try.ntmps60
  go_wp2_with (go_at_call 98; refine HI.out.mono ?_; rintro e w' ⟨rfl, rfl⟩)
  refine HN.out.mono ?_
  rintro e w1 ⟨rfl, hd, ho⟩
  go_wp2
  go_ret
  exact ⟨ret_int (w64_self HB.out.1 (by have := HB.out.2; omega)), hd, ho⟩
theorem belowR_any (w : World) (g : Nat) (s n : Int) (h : RDiceAt w g s) (hn : 1 ≤ n) (hn2 : n ≤ 9223372036854775807) :
    Calls Try.prog 61 #[.pointer (some ⟨g, 0, none⟩), .int .i64 n] w fun e w' => e = .returned (.int .i64 (belowI s n)) ∧ RDiceAt w' g (stepI s) ∧ Only g w w' := by
  have hnx := nextR_any w g s h
  have HN := hid hnx
  have hor := out_range (stepI s)
  have hbr := below_range s hn
  unfold belowI at hbr ⊢
  generalize outI (stepI s) = o at *
  have hnz : n ≠ 0 := by omega
  clear hnx
  have HB := hid hbr
  have HO := hid hor
  clear hbr
  go_enter Try.func61, Try.ntmps61
  go_wp2_with fail
  refine HN.out.mono ?_
  rintro e w1 ⟨rfl, hd, ho⟩
  go_wp2
  go_ret
  exact ⟨ret_int (w64_self HB.out.1 (by have := HB.out.2; omega)), hd, ho⟩
end
end Go.Proofs.Ytheopadakjojkaa
