/- The statement ChanceScripts: the walk of the law. -/
import Derived.Test.YtheopadakjojkaaScriptR
import Derived.Test.YtheopadakjojkaaArr8
namespace Go.Proofs.Ytheopadakjojkaa
open Go.RowKit

set_option maxRecDepth 100000
section
set_option maxHeartbeats 1600000 in
theorem scripts_any (s n : Int) (a b c d e f i j : Int) (w : World) (h0 : 0 ≤ s) (h1 : s < 18446744073709551616) :
    Calls Try.prog 9 #[.int .u64 s, .int .i64 n, w8 a b c d e f i j] w fun e w' => e = .returned (.bool true) ∧ Ext w w' := by
  by_cases hA : 200 < n ∧ n ≤ 1000
  · obtain ⟨ha, hb⟩ := hA
    go_enter Try.func9, Try.ntmps9
    go_wp2_with (go_at_call 52; refine (chanceLive_any _).mono ?_; rintro e w1 ⟨rfl, hx1⟩)
    go_ret
    exact ⟨rfl, Ext.of_alloc hx1⟩
  have hA' : n ≤ 200 ∨ 1000 < n := by omega
  have hq := fun w => script_any s n a b c d e f i j w h0 h1
  have hq' := fun w => scriptR_any s n a b c d e f i j w h0 h1
  generalize scriptG s n [a, b, c, d, e, f, i, j] = cs at *
  have HQ := hid hq
  have HQ' := hid hq'
  clear hA hq hq' h0 h1
  rcases hA' with ha | ha
  all_goals
    go_enter Try.func9, Try.ntmps9
    go_upto_region 3 with fail
    have hb0 := Blk.drew (Blk.new w 72 #[.int .i64 a, .int .i64 b, .int .i64 c, .int .i64 d, .int .i64 e, .int .i64 f, .int .i64 i, .int .i64 j])
    have hx0 : Ext w (w.alloc (.cells #[.int .i64 a, .int .i64 b, .int .i64 c, .int .i64 d, .int .i64 e, .int .i64 f, .int .i64 i, .int .i64 j] 72)).drew := Below.drew (ext_alloc _ _)
    generalize (w.alloc (.cells #[.int .i64 a, .int .i64 b, .int .i64 c, .int .i64 d, .int .i64 e, .int .i64 f, .int .i64 i, .int .i64 j] 72)) = v0 at *
    go_region_held3 (fun w' => w'.cell? ⟨w.heap.size, 0, none⟩ = some (.int .i64 a) ∧ w'.cell? ⟨w.heap.size, 1, none⟩ = some (.int .i64 b) ∧ w'.cell? ⟨w.heap.size, 2, none⟩ = some (.int .i64 c) ∧ w'.cell? ⟨w.heap.size, 3, none⟩ = some (.int .i64 d) ∧ w'.cell? ⟨w.heap.size, 4, none⟩ = some (.int .i64 e) ∧ w'.cell? ⟨w.heap.size, 5, none⟩ = some (.int .i64 f) ∧ w'.cell? ⟨w.heap.size, 6, none⟩ = some (.int .i64 i) ∧ w'.cell? ⟨w.heap.size, 7, none⟩ = some (.int .i64 j))
      (first | with_reducible exact w8cells hb4 | with_reducible exact w8cells hb3 | with_reducible exact w8cells hb2 | with_reducible exact w8cells hb1 | with_reducible exact w8cells hb0)
      (first
        | (go_at_call 54; refine (HQ.out _).mono ?_; rintro r w1 ⟨v1, rfl, hv1, hx1⟩; have hb1 := (by with_reducible exact Blk.ext hb0 hx1 : Blk w1 w.heap.size 72 #[.int .i64 a, .int .i64 b, .int .i64 c, .int .i64 d, .int .i64 e, .int .i64 f, .int .i64 i, .int .i64 j]))
        | (go_at_call 55; refine (HQ'.out _).mono ?_; rintro r w2 ⟨v2, rfl, hv2, hx2⟩; have hb2 := (by with_reducible exact Blk.ext hb1 hx2 : Blk w2 w.heap.size 72 #[.int .i64 a, .int .i64 b, .int .i64 c, .int .i64 d, .int .i64 e, .int .i64 f, .int .i64 i, .int .i64 j]))
        | (go_at_call 53; refine (chSame_any _ _ _ _ (hv1.any.ext hx2) hv2.any).mono ?_; rintro r w3 ⟨rfl, hx3⟩; have hb3 := (by with_reducible exact Blk.ext hb2 hx3 : Blk w3 w.heap.size 72 #[.int .i64 a, .int .i64 b, .int .i64 c, .int .i64 d, .int .i64 e, .int .i64 f, .int .i64 i, .int .i64 j]))
        | (go_at_call 52; refine (chanceLive_any _).mono ?_; rintro r w4 ⟨rfl, hx4⟩; have hb4 := (by with_reducible exact Blk.ext hb3 hx4 : Blk w4 w.heap.size 72 #[.int .i64 a, .int .i64 b, .int .i64 c, .int .i64 d, .int .i64 e, .int .i64 f, .int .i64 i, .int .i64 j])))
    go_wp2
    go_ret
    exact ⟨rfl, Ext.trans hx0 (Ext.trans hx1 (Ext.trans hx2 (Ext.trans hx3 hx4)))⟩
theorem scripts_frame (s n : Int) (cs2 : Array Value) (l : List Int) (S : Nat → Prop) (w : World) (h0 : 0 ≤ s) (h1 : s < 18446744073709551616)
    (hl : rep8.holds w S (Value.agg cs2).cells.toList l) :
    Calls Try.prog 9 #[.int .u64 s, .int .i64 n, .agg cs2] w fun e w' => e = .returned (.bool true) ∧ Ext w w' := by
  obtain ⟨a, b, c, d, e, f, i, j, he⟩ := rep8_agg hl
  rw [he]
  exact scripts_any s n a b c d e f i j w h0 h1
end
end Go.Proofs.Ytheopadakjojkaa
