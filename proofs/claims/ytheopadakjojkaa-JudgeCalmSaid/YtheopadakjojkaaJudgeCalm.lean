/- The statement JudgeCalm: the walk of the law. -/
import Derived.Test.YtheopadakjojkaaSkips
namespace Go.Proofs.Ytheopadakjojkaa
open Go.RowKit

set_option maxRecDepth 100000
section
set_option maxHeartbeats 3200000 in
theorem judgeCalm_any (u v : Value) (xs : List Ev) (bs : List (List UInt8)) (i : Int) (w : World) (h : IsSlice repEv w (all w) u xs) (h' : IsSlice (repSlice repByte) w (all w) v bs) :
    Calls Try.prog 12 #[u, v, .int .i64 i] w fun e w' => e = .returned (.bool true) ∧ Ext w w' := by
  cases hf : hugeB xs
  · have f1 := huge_any u xs w h
    rw [hf] at f1
    have F1 := hid f1
    cases hg : fewB bs
    · have f2 := few_any v bs w h'
      rw [hg] at f2
      have F2 := hid f2
      clear f1 f2 hf hg
      go_enter Try.func12, Try.ntmps12
      go_wp2_with (first | (go_at_call 39; refine F1.out.mono ?_; rintro e w' ⟨rfl, rfl⟩) | (go_at_call 26; refine F2.out.mono ?_; rintro e w' ⟨rfl, rfl⟩) | (go_at_call 27; refine (judgeLive_any _).mono ?_; rintro e w1 ⟨rfl, hx⟩))
      go_ret
      exact ⟨rfl, hx⟩
    · have f2 := few_any v bs w h'
      rw [hg] at f2
      have F2 := hid f2
      obtain ⟨hl, hd⟩ := hugeB_no hf
      have hmild : Mild xs := ⟨hl, hd⟩
      obtain ⟨hbl, _⟩ := fewB_yes hg
      clear f1 f2 hf hg hd
      have hv := h'
      obtain ⟨A, m, c, rfl, hmc, hcm, hrow⟩ := h'
      have hm := hrow.1
      have hmb : m ≤ 60 := by omega
      have HM := hid hm
      clear hm
      by_cases hi : 0 ≤ i ∧ i ≤ m
      · obtain ⟨hi0, hi1⟩ := hi
        obtain ⟨n, rfl⟩ : ∃ n : Nat, i = n := ⟨i.toNat, by omega⟩
        have hnm : n ≤ m := by omega
        have hnb : n ≤ bs.length := by rw [HM.out]; exact hnm
        obtain ⟨B, hrun, hcut⟩ := cut_to (P := Try.prog) Try.underlying42 info_bytes (hrow.isSlice hmc hcm) hnm
        have hP := places_self hnb
        have hV : placesV (bs.take n) bs = (List.range n).map Int.ofNat := by unfold placesV; rw [hP]; rfl
        have hpre := preB_self hnb
        have HP := hid hP
        have HV := hid hV
        have HPRE := hid hpre
        clear hP hV hpre
        go_enter Try.func12, Try.ntmps12
        go_wp2_with (first | (go_at_call 39; refine F1.out.mono ?_; rintro e w' ⟨rfl, rfl⟩) | (go_at_call 26; refine F2.out.mono ?_; rintro e w' ⟨rfl, rfl⟩) | fail)
        refine (places_any _ _ _ _ _ hcut hv (by rw [List.length_take]; omega) (by omega)).mono ?_
        rintro e w1 ⟨p, rfl, hp, hx1⟩
        rw [HP.out]
        rw [HV.out] at hp
        obtain ⟨D, n', c', rfl, hnc', hcm', hrp⟩ := hp.any
        have hn' := hrp.1
        simp at hn'
        subst hn'
        go_wp2_with fail
        refine (prefix_any _ _ _ _ _ (hcut.ext hx1) (hv.ext hx1)).mono ?_
        rw [HPRE.out]
        rintro e w' ⟨rfl, rfl⟩
        have HG : Hid (∀ k, k < n → ((List.range n).map Int.ofNat)[k]? = some (k : Int)) := fun k hk => by
          rw [List.getElem?_map, List.getElem?_eq_getElem (by simpa using hk)]; simp
        clear hp hcut hrow
        go_wp2
        go_loop [9] (fun j => ∃ k : Nat, k ≤ n ∧ j = .int .i64 k) (fun j => n - (intOf j).toNat)
        case atStart => exact ⟨0, Nat.zero_le _, rfl⟩
        case round =>
          obtain ⟨k, hk, rfl⟩ := hrel
          by_cases hlt : k < n
          · obtain ⟨b, off, x, rfl, hx, hcx, _⟩ := hrp.intE (Below.refl _ _) hlt
            obtain rfl : x = (k : Int) := by rw [HG.out k hlt] at hx; injection hx with e; exact e.symm
            have hne : ((k : Int) != (k : Int)) = false := by simp
            clear hx
            go_wp2
            go_round
            case rel => exact ⟨k + 1, by omega, by go_num⟩
            case measure => simp [intOf]; omega
          · have h1 := h.ext hx1
            clear hrp
            go_wp2_with fail
            refine (calm_any _ _ _ h1 (by omega)).mono ?_
            rintro e w2 ⟨rfl, hx2⟩
            have h2 := h1.ext hx2
            have hx12 := Ext.trans hx1 hx2
            cases hc : (nums xs 5).isEmpty
            · go_wp2_with (go_at_call 27; refine (judgeLive_any _).mono ?_; rintro e w3 ⟨rfl, hx3⟩)
              go_ret
              exact ⟨rfl, Ext.trans hx12 hx3⟩
            · have hc0 : nums xs 5 = [] := List.isEmpty_iff.1 hc
              have HC := hid hc0
              clear hc hc0
              go_wp2_with fail
              refine (skips_any _ _ _ h2 hmild).mono ?_
              rintro e w3 ⟨bk, rfl, hbk, hx3⟩
              have h3 := h2.ext hx3
              have hx13 := Ext.trans hx12 hx3
              cases bk
              · clear hbk
                go_wp2_with (go_at_call 27; refine (judgeLive_any _).mono ?_; rintro e w4 ⟨rfl, hx4⟩)
                go_ret
                exact ⟨rfl, Ext.trans hx13 hx4⟩
              · have hpr := calm_prefix HC.out (hbk.1 rfl)
                have HPR := hid hpr
                clear hpr hbk
                go_wp2_with fail
                refine (of_any _ _ _ _ h3 (by omega) hmild.data).mono ?_
                rintro e w4 ⟨u4, rfl, hu4, hx4⟩
                go_wp2_with fail
                refine (of_any _ _ _ _ (h3.ext hx4) (by omega) hmild.data).mono ?_
                rintro e w5 ⟨u5, rfl, hu5, hx5⟩
                have hx15 := Ext.trans (Ext.trans hx13 hx4) hx5
                go_wp2_with fail
                refine (prefix_any _ _ _ _ _ (hu4.any.ext hx5) hu5.any).mono ?_
                rw [HPR.out]
                rintro e w' ⟨rfl, rfl⟩
                go_wp2_with (go_at_call 27; refine (judgeLive_any _).mono ?_; rintro e w6 ⟨rfl, hx6⟩)
                go_ret
                exact ⟨rfl, Ext.trans hx15 hx6⟩
      · clear h hmild hv hrow
        by_cases hi0 : i < 0
        · go_enter Try.func12, Try.ntmps12
          go_wp2_with (first | (go_at_call 39; refine F1.out.mono ?_; rintro e w' ⟨rfl, rfl⟩) | (go_at_call 26; refine F2.out.mono ?_; rintro e w' ⟨rfl, rfl⟩) | (go_at_call 27; refine (judgeLive_any _).mono ?_; rintro e w1 ⟨rfl, hx⟩))
          go_ret
          exact ⟨rfl, hx⟩
        · have hi2 : (m : Int) < i := by omega
          go_enter Try.func12, Try.ntmps12
          go_wp2_with (first | (go_at_call 39; refine F1.out.mono ?_; rintro e w' ⟨rfl, rfl⟩) | (go_at_call 26; refine F2.out.mono ?_; rintro e w' ⟨rfl, rfl⟩) | (go_at_call 27; refine (judgeLive_any _).mono ?_; rintro e w1 ⟨rfl, hx⟩))
          go_ret
          exact ⟨rfl, hx⟩
  · have f1 := huge_any u xs w h
    rw [hf] at f1
    have F1 := hid f1
    clear f1 hf
    go_enter Try.func12, Try.ntmps12
    go_wp2_with (first | (go_at_call 39; refine F1.out.mono ?_; rintro e w' ⟨rfl, rfl⟩) | (go_at_call 27; refine (judgeLive_any _).mono ?_; rintro e w1 ⟨rfl, hx⟩))
    go_ret
    exact ⟨rfl, hx⟩
end
end Go.Proofs.Ytheopadakjojkaa
