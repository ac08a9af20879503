/- The statement SpanSpans: the walk of the law. -/
import Derived.Test.YtmllkniloalgoaaSpansR
namespace Go.Proofs.Ytmllkniloalgoaa
open Go.RowKit

set_option maxRecDepth 100000
section
set_option maxHeartbeats 1600000 in
theorem spanSpans_any (v : Value) (xs : List Ev) (w : World) (h : IsSlice repEv w (all w) v xs) :
    Calls Try.prog 5 #[v] w fun e w' => e = .returned (.bool true) ∧ Ext w w' := by
  have hv := h
  obtain ⟨A, n, c, rfl, hnc, hcm, hrow⟩ := h
  clear hrow
  cases hg : hugeB xs with
  | true =>
    have hh := huge_any _ xs w hv
    rw [hg] at hh
    have HH := hid hh
    clear hh hg hv
    go_enter Try.func5, Try.ntmps5
    go_wp2_with fail
    refine HH.out.mono ?_
    rintro r w1 ⟨rfl, rfl⟩
    go_wp2_with (go_at_call 6; refine (spanLive_any _).mono ?_; rintro e w1 ⟨rfl, hx1⟩)
    go_ret
    exact ⟨rfl, hx1⟩
  | false =>
    have hh := huge_any _ xs w hv
    rw [hg] at hh
    have hb := hugeB_no hg
    have HD := hid (fun x (hx : x ∈ xs) => Nat.le_trans (hb.2 x hx) (show 100 ≤ 1000 by omega))
    have hl := hb.1
    have hsl : (spansOf xs).length ≤ 100 := by unfold spansOf; rw [spansTo_len]; have := nums_le xs 0; omega
    generalize hys : spansOf xs = ys at *
    have HY := hid hys
    have HH := hid hh
    clear hh hg hb hys
    go_enter Try.func5, Try.ntmps5
    go_wp2_with fail
    refine HH.out.mono ?_
    rintro r w1 ⟨rfl, rfl⟩
    go_wp2_with fail
    refine (spans_any _ xs _ hv hl HD.out).mono ?_
    rw [HY.out]
    rintro r w1 ⟨u1, rfl, hu1, hx1⟩
    go_wp2_with fail
    refine (spansR_any _ xs _ (hv.ext hx1) hl HD.out).mono ?_
    rw [HY.out]
    rintro r w2 ⟨u2, rfl, hu2, hx2⟩
    have hx02 := Ext.trans hx1 hx2
    obtain ⟨B, m, cb, rfl, hm1, hm2, hr1⟩ := hu1.any.ext hx2
    obtain ⟨D, m', cd, rfl, hd1, hd2, hr2⟩ := hu2.any
    obtain rfl : m = m' := hr1.1.symm.trans hr2.1
    have hm := hr1.1
    have hm100 : m ≤ 100 := by omega
    clear hu1 hu2 hm
    go_wp2
    go_loopw [5] (fun i wr => ∃ k : Nat, k ≤ m ∧ i = .int .i64 k ∧ Ext w2 wr) (fun i _ => m - (intOf i).toNat)
    case atStart => exact ⟨0, Nat.zero_le _, rfl, Below.refl _ _⟩
    case round =>
      obtain ⟨k, hk, rfl, hext⟩ := hrel
      by_cases hlt : k < m
      · obtain ⟨b, off, x, rfl, hb, hx, c0, c1, c2, c3⟩ := hr1.spE hext hlt
        obtain ⟨b', off', y, rfl, hb', hy, d0, d1, d2, d3⟩ := hr2.spE hext hlt
        obtain rfl : x = y := by rw [hx] at hy; injection hy
        have hki : (k : Int) < (m : Int) := by omega
        have e0 : (x.place != x.place) = false := by simp
        have e1 : (x.sent != x.sent) = false := by simp
        have e2 : (x.ret != x.ret) = false := by simp
        have e3 : (x.told != x.told) = false := by simp
        clear hx hy
        go_wp2
        go_quiet (fail)
        go_wp2
        go_roundw
        case rel => exact ⟨k + 1, by omega, by go_num, Ext.trans hext (ext_drewN _ _)⟩
        case measure => simp [intOf]; omega
      · go_wp2_with (go_at_call 6; refine (spanLive_any _).mono ?_; rintro e w1 ⟨rfl, hx1⟩)
        go_ret
        exact ⟨rfl, Ext.trans hx02 (Ext.trans hext hx1)⟩
end
end Go.Proofs.Ytmllkniloalgoaa
