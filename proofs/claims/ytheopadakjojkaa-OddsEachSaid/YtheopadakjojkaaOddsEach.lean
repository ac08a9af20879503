/- The statement OddsEach: the walk of the law. -/
import Derived.Test.YtheopadakjojkaaEach
import Derived.Test.YtheopadakjojkaaOddsCounts
import Derived.OpenShut
namespace Go.Proofs.Ytheopadakjojkaa
open Go.RowKit

set_option maxRecDepth 100000
section
theorem eachE_01 (i j : Int) (x : Nat) : eachE i j x = 0 ∨ eachE i j x = 1 := by unfold eachE; split <;> simp
theorem eachLaw_q {l m : List Int} {x y : Nat} {q z : Bool} (h : (decide (l = m) == decide ((x : Int) = y)) = true) (hq : decide (l = m) = q) (hz : ((x : Int) == (y : Int)) = z) : (q == z) = true := by
  rw [hq] at h
  rw [← hz]
  exact h
set_option maxHeartbeats 400000 in
theorem eachLaw_any (i j : Int) (x y : Nat) (w : World) :
    Calls Try.prog 4 #[.int .i64 i, .int .i64 j, .agg #[.int .u64 x, .int .u64 y]] w fun e w' => e = .returned (.bool true) ∧ Ext w w' := by
  have hE := eachE_01 i j x
  have hF := eachE_01 i j y
  generalize hEx : eachE i j x = E  at hE
  generalize hFy : eachE i j y = F at hF
  have EX := hid hEx
  have FY := hid hFy
  clear hEx hFy
  go_enter Try.func4, Try.ntmps4
  go_wp2_with fail
  refine (each_any i j x _).mono ?_
  rw [EX.out]
  rintro e w1 ⟨v1, rfl, hv1, hext1⟩
  have a1 : w1.cell? ⟨w.heap.size, 0, none⟩ = some (.int .u64 x) := Ext.box hext1 0
  go_wp2_with fail
  refine (eachR_any i j x _).mono ?_
  rw [EX.out]
  rintro e w2 ⟨v2, rfl, hv2, hext2⟩
  have hv12 := hv1.ext hext2
  have b2 : w2.cell? ⟨w.heap.size, 1, none⟩ = some (.int .u64 y) := Ext.box (Ext.trans hext1 hext2) 1
  have hsame : ∀ k, w2.drewN k = w2.drewN k := fun _ => rfl
  clear hsame
  rcases hE with rfl | rfl
  all_goals
    go_wp2_with (first | (go_at_call 19; refine (num_any _ _).mono ?_; rintro e w' ⟨rfl, rfl⟩) | (go_at_call 25; refine (sameR_any _ _ _ _ _ hv12 hv2).mono ?_; rw [decide_eq_true rfl]; rintro e w' ⟨rfl, ks, rfl⟩) | fail)
    refine (each_any i j y _).mono ?_
    rw [FY.out]
    rintro e w3 ⟨v3, rfl, hv3, hext3⟩
    have hx3 : Ext w2 w3 := Ext.trans (ext_drewN _ _) hext3
    have a3 : w3.cell? ⟨w.heap.size, 0, none⟩ = some (.int .u64 x) := Ext.box (Ext.trans (Ext.trans hext1 hext2) hx3) 0
    have b3 : w3.cell? ⟨w.heap.size, 1, none⟩ = some (.int .u64 y) := Ext.box (Ext.trans (Ext.trans hext1 hext2) hx3) 1
    have hv13 := hv12.ext hx3
    obtain ⟨q, hq⟩ : ∃ q : Bool, decide (eachL i j x = eachL i j y) = q := ⟨_, rfl⟩
    have sq : ∀ n, Calls Try.prog 25 #[v1, v3] (w3.drewN n) fun e w' => e = .returned (.bool q) ∧ ∃ m, w' = (w3.drewN n).drewN m := by
      intro n
      have := sameR_any _ _ _ _ (w3.drewN n) (hv13.ext (ext_drewN _ n)) (hv3.ext (ext_drewN _ n))
      rw [hq] at this
      exact this
    have SQ := hid sq
    have HQ := hid hq
    clear sq hq
    obtain ⟨z, hz⟩ : ∃ z : Bool, ((x : Int) == (y : Int)) = z := ⟨_, rfl⟩
    rcases hF with rfl | rfl
    all_goals
      first | (have hqz := eachLaw_q (each_two EX.out FY.out) HQ.out hz) | skip
      go_wp2
      go_quiet ((first | (go_at_call 19; exact q_same (num_any _ _)) | (go_at_call 20; exact q_same (oddsLive_any _)) | (go_at_call 25; exact Calls.quiet_of (SQ.out _))))
      go_wp2
      go_ret
      exact ⟨rfl, below_drewN (Ext.of_alloc (Ext.trans (Ext.trans hext1 hext2) hx3)) _⟩

theorem eachLaw_frame (i j : Int) (cs : Array Value) (x : Int × Int) (S : Nat → Prop) (w : World) (h : (repPair (repInt .u64) (repInt .u64)).holds w S (Value.agg cs).cells.toList x) :
    Calls Try.prog 4 #[.int .i64 i, .int .i64 j, .agg cs] w fun e w' => e = .returned (.bool true) ∧ Ext w w' := by
  obtain ⟨c, d, hcd, ⟨rfl, w0⟩, ⟨rfl, w1⟩⟩ := h
  obtain ⟨l⟩ := cs
  simp [Value.cells] at hcd
  subst hcd
  have b0 := bounds_u64 w0
  have b1 := bounds_u64 w1
  have e0 : x.1 = (x.1.toNat : Int) := by omega
  have e1 : x.2 = (x.2.toNat : Int) := by omega
  rw [e0, e1]
  exact eachLaw_any i j _ _ w
end
end Go.Proofs.Ytheopadakjojkaa
