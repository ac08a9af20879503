/- The statement JudgeEvents: the walk of the law. -/
import Derived.Deep.RegionHeld3
import Derived.Test.YtheopadakjojkaaCrashed
namespace Go.Proofs.Ytheopadakjojkaa
open Go.RowKit

set_option maxRecDepth 100000
section
theorem empty_len {l : List Int} {m : Nat} (h : l.length = m) : ((m : Int) == 0) = l.isEmpty := by
  subst h
  cases l <;> simp
  omega
set_option maxHeartbeats 1600000 in
theorem judgeEvents_any (u : Value) (xs : List Ev) (kind f t who : Int) (w : World) (h : IsSlice repEv w (all w) u xs) :
    Calls Try.prog 7 #[u, .int .i64 kind, .agg #[.int .i64 f, .int .i64 t, .int .i64 who]] w fun e w' => e = .returned (.bool true) ∧ Ext w w' := by
  cases hf : hugeB xs
  · obtain ⟨hl, hd⟩ := hugeB_no hf
    have hd' : ∀ x ∈ xs, x.data.length ≤ 1000 := fun x hx => Nat.le_trans (hd x hx) (by omega)
    have HD := hid hd'
    clear hd hd'
    obtain ⟨W0, hW0⟩ : ∃ W0, W0 = w.alloc (.cells #[.int .i64 f, .int .i64 t, .int .i64 who] 59) := ⟨_, rfl⟩
    have x0 : Ext w W0 := by rw [hW0]; exact ext_alloc _ _
    have b0 : W0.cell? ⟨w.heap.size, 0, none⟩ = some (.int .i64 f) := by rw [hW0]; exact box_cell _ _ _ 0
    have b1 : W0.cell? ⟨w.heap.size, 1, none⟩ = some (.int .i64 t) := by rw [hW0]; exact box_cell _ _ _ 1
    have b2 : W0.cell? ⟨w.heap.size, 2, none⟩ = some (.int .i64 who) := by rw [hW0]; exact box_cell _ _ _ 2
    have hs : w.heap.size < W0.heap.size := by rw [hW0]; simp
    have f1 := huge_any u xs W0 (h.ext x0)
    rw [hf] at f1
    have F1 := hid f1
    have HW := hid hW0
    clear f1 hf hW0
    go_enter Try.func7, Try.ntmps7
    go_wp2_with fail
    rw [← HW.out]
    refine F1.out.mono ?_
    rintro e w' ⟨rfl, rfl⟩
    go_wp2_with fail
    have xx := Below.refl W0.heap.size W0
    have xd : Ext W0 W0.drew := Below.drew (Below.refl _ _)
    go_region_held3 (fun w' => w'.cell? ⟨w.heap.size, 0, none⟩ = some (.int .i64 f) ∧ w'.cell? ⟨w.heap.size, 1, none⟩ = some (.int .i64 t) ∧ w'.cell? ⟨w.heap.size, 2, none⟩ = some (.int .i64 who) ∧ Ext W0 w')
      (first | exact ⟨by assumption, by assumption, by assumption, by assumption⟩)
      (first
        | (go_at_call 41; refine (of_any _ _ _ _ (h.ext (Ext.trans x0 (by assumption))) (by omega) HD.out).mono ?_; rintro e w1 ⟨v1, rfl, hv1, hx1⟩; have xb1 := Ext.trans xd hx1; have c0 := (Ext.cell xb1 hs 0).trans b0; have c1 := (Ext.cell xb1 hs 1).trans b1; have c2 := (Ext.cell xb1 hs 2).trans b2)
        | (go_at_call 42; refine (ofR_any _ _ _ _ (h.ext (Ext.trans x0 (by assumption))) (by omega) HD.out).mono ?_; rintro e w2 ⟨v2, rfl, hv2, hx2⟩; have xb2 := Ext.trans xb1 hx2; have hv12 := hv1.any.ext hx2; have c0 := (Ext.cell xb2 hs 0).trans b0; have c1 := (Ext.cell xb2 hs 1).trans b1; have c2 := (Ext.cell xb2 hs 2).trans b2)
        | (go_at_call 40; have hq := sameAllB_any _ _ _ _ _ hv12 hv2.any; rw [decide_eq_true rfl] at hq; refine hq.mono ?_; clear hq; rintro e w3 ⟨rfl, k3, hw3⟩; have hx3 : Ext w2 w3 := hw3 ▸ ext_drewN _ _; clear hw3; have xb3 := Ext.trans xb2 hx3; have c0 := (Ext.cell xb3 hs 0).trans b0; have c1 := (Ext.cell xb3 hs 1).trans b1; have c2 := (Ext.cell xb3 hs 2).trans b2)
        | (go_at_call 43; refine (crashed_any _ _ _ _ _ _ (h.ext (Ext.trans x0 (by assumption)))).mono ?_; rintro e w4 ⟨rfl, hx4⟩; have xb4 := Ext.trans xb3 hx4; have c0 := (Ext.cell xb4 hs 0).trans b0; have c1 := (Ext.cell xb4 hs 1).trans b1; have c2 := (Ext.cell xb4 hs 2).trans b2)
        | (go_at_call 44; refine (crashedR_any _ _ _ _ _ _ (h.ext (Ext.trans x0 (by assumption)))).mono ?_; rintro e w5 ⟨rfl, hx5⟩; have xb5 := Ext.trans xb4 hx5; have c0 := (Ext.cell xb5 hs 0).trans b0; have c1 := (Ext.cell xb5 hs 1).trans b1; have c2 := (Ext.cell xb5 hs 2).trans b2)
        | (go_at_call 45; refine (clean_any _ _ _ (h.ext (Ext.trans x0 (by assumption))) (by omega)).mono ?_; rintro e w6 ⟨rfl, hx6⟩; have xb6 := Ext.trans xb5 hx6; have c0 := (Ext.cell xb6 hs 0).trans b0; have c1 := (Ext.cell xb6 hs 1).trans b1; have c2 := (Ext.cell xb6 hs 2).trans b2)
        | (go_at_call 47; refine (calm_any _ _ _ (h.ext (Ext.trans x0 (by assumption))) (by omega)).mono ?_; rintro e w8 ⟨rfl, hx8⟩; have xb8 := Ext.trans xb7 hx8; have c0 := (Ext.cell xb8 hs 0).trans b0; have c1 := (Ext.cell xb8 hs 1).trans b1; have c2 := (Ext.cell xb8 hs 2).trans b2)
        | (go_at_call_of 46 (Value.int IntKind.i64 6); refine (numbersR_any _ _ _ _ (h.ext (Ext.trans x0 (by assumption))) (by omega)).mono ?_; rintro e w7 ⟨v7, rfl, hv7, hx7⟩; obtain ⟨A7, d7, rfl⟩ := hv7.shape; have e7 := empty_len (l := nums xs 6) rfl; have xb7 := Ext.trans xb6 hx7; have c0 := (Ext.cell xb7 hs 0).trans b0; have c1 := (Ext.cell xb7 hs 1).trans b1; have c2 := (Ext.cell xb7 hs 2).trans b2)
        | (go_at_call_of 46 (Value.int IntKind.i64 5); refine (numbersR_any _ _ _ _ (h.ext (Ext.trans x0 (by assumption))) (by omega)).mono ?_; rintro e w9 ⟨v9, rfl, hv9, hx9⟩; obtain ⟨A9, d9, rfl⟩ := hv9.shape; have e9 := empty_len (l := nums xs 5) rfl; have xb9 := Ext.trans xb8 hx9; have c0 := (Ext.cell xb9 hs 0).trans b0; have c1 := (Ext.cell xb9 hs 1).trans b1; have c2 := (Ext.cell xb9 hs 2).trans b2)
        | (go_at_call 27; refine (judgeLive_any _).mono ?_; rintro e w10 ⟨rfl, hx10⟩; have xb10 := Ext.trans xb9 hx10; have c0 := (Ext.cell xb10 hs 0).trans b0; have c1 := (Ext.cell xb10 hs 1).trans b1; have c2 := (Ext.cell xb10 hs 2).trans b2))
    go_wp2
    go_ret
    exact ⟨rfl, Ext.trans x0 xb10⟩
  · have f1 := huge_any u xs (w.alloc (.cells #[.int .i64 f, .int .i64 t, .int .i64 who] 59)) (h.ext (ext_alloc _ _))
    rw [hf] at f1
    have F1 := hid f1
    clear f1 hf
    go_enter Try.func7, Try.ntmps7
    go_wp2_with (first | (go_at_call 39; refine F1.out.mono ?_; rintro e w' ⟨rfl, rfl⟩) | (go_at_call 27; refine (judgeLive_any _).mono ?_; rintro e w1 ⟨rfl, hx⟩))
    go_ret
    exact ⟨rfl, Ext.of_alloc hx⟩

theorem judgeEvents_frame (u : Value) (xs : List Ev) (kind : Int) (cs : Array Value) (x : Int × Int × Int) (S : Nat → Prop) (w : World) (h : IsSlice repEv w (all w) u xs)
    (hx : (repPair (repInt .i64) (repPair (repInt .i64) (repInt .i64))).holds w S (Value.agg cs).cells.toList x) :
    Calls Try.prog 7 #[u, .int .i64 kind, .agg cs] w fun e w' => e = .returned (.bool true) ∧ Ext w w' := by
  obtain ⟨c, d, hcd, ⟨rfl, w0⟩, ⟨c1, c2, rfl, ⟨rfl, w1⟩, ⟨rfl, w2⟩⟩⟩ := hx
  obtain ⟨l⟩ := cs
  simp [Value.cells] at hcd
  subst hcd
  exact judgeEvents_any u xs kind _ _ _ w h
end
end Go.Proofs.Ytheopadakjojkaa
