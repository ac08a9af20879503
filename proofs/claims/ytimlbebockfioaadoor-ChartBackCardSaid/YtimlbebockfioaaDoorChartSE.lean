/- The walk of SameEvents over two lists that are the same. -/
import Derived.Test.YtimlbebockfioaaDoorChartH
namespace Go.Proofs.YtimlbebockfioaaDoor
open Go.RowKit

set_option maxRecDepth 100000
section
set_option maxHeartbeats 1000000 in
theorem sameEv_any (v u : Value) (xs : List Ev) (w : World) (h : IsSlice repEv w (all w) v xs) (h' : IsSlice repEv w (all w) u xs) :
    Calls Tryd.prog 13 #[v, u] w fun e w' => e = .returned (.bool true) ∧ Ext w w' := by
  obtain ⟨A, n, c, rfl, hnc, hcm, hrow⟩ := h
  obtain ⟨A', n', c', rfl, hnc', hcm', hrow'⟩ := h'
  have hn := hrow.1
  have hn' := hrow'.1
  have hmax : n ≤ 9223372036854775807 := by unfold maxLen at hcm; omega
  obtain rfl : n = n' := by omega
  clear hn hn'
  go_enter Tryd.func13, Tryd.ntmps13
  go_wp2
  go_loopw [5] (fun i wr => ∃ j : Nat, j ≤ n ∧ i = .int .i64 j ∧ Ext w wr) (fun i _ => n - (intOf i).toNat)
  case atStart => exact ⟨0, Nat.zero_le _, rfl, Below.refl _ _⟩
  case round =>
    obtain ⟨j, hj, rfl, hext⟩ := hrel
    by_cases hlt : j < n
    · obtain ⟨b, off, x, A1, m1, c1, rfl, hx, hs, hm, p0, p1, p2, p3⟩ := hrow.evE hext hlt
      obtain ⟨b', off', y, B1, m2, d1, rfl, hy, hs', hm', q0, q1, q2, q3⟩ := hrow'.evE hext hlt
      obtain rfl : x = y := by rw [hx] at hy; injection hy
      have hsc := fun w1 (he : Ext wr w1) => sameB_any _ _ x.data x.data w1 (hs.ext (Ext.trans hext he)) (hs'.ext (Ext.trans hext he))
      simp only [decide_true] at hsc
      have HSC := hid fun nd => hsc _ (ext_drewN wr nd)
      clear hx hy hs hs' hsc hm hm'
      generalize x.step = kd at *
      generalize x.kind = wh at *
      generalize x.place = att at *
      have e1 : (kd != kd) = false := by simp
      have e2 : (wh != wh) = false := by simp
      have e3 : (att != att) = false := by simp
      go_wp2
      go_quiet ((first | (go_at_call 39; exact q_drew2 (HSC.out _)) | (go_at_call 39; exact Calls.quiet_of (HSC.out _))))
      go_wp2
      go_roundw
      case rel => exact ⟨j + 1, by omega, by go_num, Ext.trans hext (ext_drewN _ _)⟩
      case measure => simp [intOf]; omega
    · obtain rfl : j = n := by omega
      go_wp2
      go_ret
      exact ⟨rfl, hext⟩
end
end Go.Proofs.YtimlbebockfioaaDoor
