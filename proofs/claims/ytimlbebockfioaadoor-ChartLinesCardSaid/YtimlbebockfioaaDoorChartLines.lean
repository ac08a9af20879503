/- The law ChartLines: its walk. -/
import Derived.Test.YtimlbebockfioaaDoorChartSr
import Derived.Deep.DeepCutAuto
namespace Go.Proofs.YtimlbebockfioaaDoor
open Go.RowKit

theorem RowAt.row2 {w : World} {S : Nat → Prop} {A n} {xs : List (ByteArray × Int)} (h : RowAt repRow w S A n xs) {k : Nat} (hk : k < n) :
    ∃ b off x, A = some ⟨b, off, none⟩ ∧ S b ∧ xs[k]? = some x ∧ w.cell? ⟨b, off + k * 2, none⟩ = some (.string x.1) ∧ w.cell? ⟨b, off + k * 2 + 1, none⟩ = some (.int .i64 x.2) := by
  obtain ⟨b, off, ds, x, hA, hb, hx, ⟨c, d, rfl, h1, h2⟩, hc⟩ := h.get hk
  have e1 : c = [.string x.1] := h1
  have e2 : d = [.int .i64 x.2] := h2.1
  subst e1 e2
  exact ⟨b, off, x, hA, hb, hx, hc 0 (by simp), hc 1 (by simp)⟩
set_option maxRecDepth 100000
section
set_option maxHeartbeats 4000000 in
theorem chartLines_any (v : Value) (l : List Ev) (w : World) (HL : Laid w) (h : IsSlice repEv w (all w) v l) :
    Calls Tryd.prog 6 #[v] w fun e w' => e = .returned (.bool true) ∧ Ext w w' := by
  have HV := hid h
  have HHG := hid (hugeE_any v l w h)
  obtain ⟨A, n, c, rfl, hnc, hcm, hrow⟩ := h
  have hn := hrow.1
  have HN := hid hn
  have HLL := hid HL
  have HLV := hid fun W (he : Ext w W) => live35_any W (HL.ext he)
  clear hn HL
  obtain ⟨hg, hhg⟩ : ∃ hg, hg = hugeE l := ⟨_, rfl⟩
  rw [← hhg] at HHG
  cases hg with
  | true =>
    clear hhg
    go_enter Tryd.func6, Tryd.ntmps6
    go_wp2_with (first
      | (go_at_call 15; refine HHG.out.mono ?_; rintro e w2 ⟨rfl, rfl⟩)
      | (go_at_call 7; refine (HLV.out _ (Below.refl _ _)).mono ?_; rintro e w8 ⟨rfl, hx8⟩))
    go_ret
    exact ⟨rfl, hx8⟩
  | false =>
    obtain ⟨hl1, hd1⟩ := hugeE_no hhg.symm
    have HD := hid hd1
    have hn1 : n ≤ 100 := by have := HN.out; omega
    have HRO := hid (rows_any _ l w HV.out (by omega))
    have HLI := hid fun w1 (he : Ext w w1) => lines_any _ l w1 (HLL.out.ext he) (HV.out.ext he) hl1 HD.out
    have HLR := hid fun w1 (he : Ext w w1) => linesR_any _ l w1 (HV.out.ext he) hl1 HD.out
    have HSI := hid fun w1 (he : Ext w w1) => sides_any _ l w1 (HLL.out.ext he) (HV.out.ext he) hl1 HD.out
    have HSR := hid fun w1 (he : Ext w w1) => sidesR_any _ l w1 (HV.out.ext he) hl1 HD.out
    have hrl : (rowsL l).length = 8 := by unfold rowsL; simp
    clear hhg hl1 hd1
    go_enter Tryd.func6, Tryd.ntmps6
    go_upto_region 4 with (first
      | (go_at_call 15; refine HHG.out.mono ?_; rintro e w2 ⟨rfl, rfl⟩)
      | (go_at_call 17; refine HRO.out.mono ?_; rintro e w3 ⟨u3, rfl, hu3, hx3⟩; obtain ⟨A3, c3, rfl⟩ := hu3.shape))
    have hu3a := hu3.any
    rw [hrl] at *
    have HU3 := hid hu3a
    have HX3 := hid hx3
    clear hu3 hu3a hx3 hrl HRO HHG
    go_upto_region 6 with (first
      | (go_at_call 16; refine (HLI.out _ HX3.out).mono ?_; rintro e w4 ⟨u4, rfl, hu4, hx4⟩)
      | (go_at_call 19; refine (HLR.out _ (Ext.trans HX3.out hx4)).mono ?_; rintro e w5 ⟨u5, rfl, hu5, hx5⟩; have HS1 := hid (same35_any _ _ _ w5 (hu4.any.ext hx5) hu5.any))
      | (go_at_call 18; (with_reducible refine HS1.out.mono ?_); rintro e w6 ⟨rfl, hx6⟩; have hx46 := Ext.trans hx4 (Ext.trans hx5 hx6))
      | (go_at_call 20; refine (HSI.out _ (Ext.trans HX3.out hx46)).mono ?_; rintro e w7 ⟨u7, rfl, hu7, hx7⟩; have hx47 := Ext.trans hx46 hx7)
      | (go_at_call 21; refine (HSR.out _ (Ext.trans HX3.out hx47)).mono ?_; rintro e w8 ⟨u8, rfl, hu8, hx8⟩; have HS2 := hid (same35_any _ _ _ w8 (hu7.any.ext hx8) hu8.any))
      | (go_at_call 18; (with_reducible refine HS2.out.mono ?_); rintro e w9 ⟨rfl, hx9⟩; have hx49 := Ext.trans hx47 (Ext.trans hx8 hx9)))
    have HX9 := hid hx49
    clear hx4 hx5 hx6 hx46 hx7 hx47 hx8 hx9 hx49 hu4 hu5 hu7 hu8 HS1 HS2 HLI HLR HSI HSR
    have HW := hid word_any
    go_wp2
    go_loopw [4] (fun i wr => ∃ k : Nat, k ≤ 8 ∧ i = .int .i64 (k : Int) ∧ Wall (Ext w9 wr)) (fun i _ => 8 - (intOf i).toNat)
    case atStart => exact ⟨0, by omega, rfl, hid (Below.refl _ _)⟩
    case round =>
      obtain ⟨k, hk, rfl, HP⟩ := hrel
      by_cases hk8 : k < 8
      · have hx39 := Ext.trans HX9.out HP.out
        obtain ⟨_, _, _, hsh, _, _, hr3⟩ := HU3.out
        cases hsh
        obtain ⟨bR, offR, x, rfl, hbR, hxR, s0, s1⟩ := hr3.row2 hk8
        have hxe : x = (bstr (wordK (k : Int)), (cntL (k : Int) l : Int)) := by
          unfold rowsL at hxR
          rw [List.getElem?_map, List.getElem?_range hk8] at hxR
          injection hxR with hxR
          exact hxR.symm
        subst hxe
        simp only at s0 s1
        have HRC := hid fun W (he : Ext wr W) => (⟨((hx39.trans he).cell hbR _).trans s0, ((hx39.trans he).cell hbR _).trans s1⟩ : W.cell? ⟨bR, offR + k * 2, none⟩ = some (.string (bstr (wordK (k : Int)))) ∧ W.cell? ⟨bR, offR + k * 2 + 1, none⟩ = some (.int .i64 (cntL (k : Int) l : Int)))
        have hcl := cntL_le (k : Int) l
        rw [HN.out] at hcl
        have HWW := hid (Ext.trans HX3.out hx39)
        clear s0 s1 hxR hr3 hbR hx39
        go_upto_region 11 with (fail)
        go_loop [5, 6] (fun ct i => ∃ j : Nat, j ≤ n ∧ i = .int .i64 (j : Int) ∧ ct = .int .i64 (cntL (k : Int) (l.take j) : Int)) (fun _ i => n - (intOf i).toNat)
        case atStart => exact ⟨0, Nat.zero_le _, rfl, rfl⟩
        case round =>
          obtain ⟨j, hj, rfl, rfl⟩ := hrel
          by_cases hjl : j < n
          · obtain ⟨b, off, y, A1, m1, c1, rfl, hy, hs, hm, p0, p1, p2, p3⟩ := hrow.evE HWW.out hjl
            have hct := cntL_snoc (k : Int) (l.take j) y
            rw [← take_succ_of hy] at hct
            have hcle := cntL_le (k : Int) (l.take j)
            rw [List.length_take] at hcle
            obtain ⟨ct, hct0⟩ : ∃ ct, ct = cntL (k : Int) (l.take j) := ⟨_, rfl⟩
            rw [← hct0] at hct hcle ⊢
            have hct1 : ct ≤ 100 := by omega
            clear hct0 hy hs hm hcle p0 p2 p3
            obtain ⟨xs, xk, xp, xd⟩ := y
            simp only at p1 hct
            by_cases hk1 : xk = (k : Int)
            · subst hk1
              rw [if_pos rfl] at hct
              have HCT := hid hct
              clear hct
              go_wp2
              go_round
              case rel => exact ⟨j + 1, by omega, by go_num, by rw [HCT.out]; go_num⟩
              case measure => simp [intOf]; omega
            · rw [if_neg hk1] at hct
              have HCT := hid hct
              have t1 : (xk == (k : Int)) = false := by simpa using hk1
              clear hct hk1
              go_wp2
              go_round
              case rel => exact ⟨j + 1, by omega, by go_num, by rw [HCT.out]; go_num⟩
              case measure => simp [intOf]; omega
          · obtain rfl : j = n := by omega
            rw [show l.take j = l from List.take_of_length_le (by rw [HN.out]; exact Nat.le_refl _)]
            have HWK := hid (HW.out (k : Int) (wr.drew))
            obtain ⟨ct, hct⟩ : ∃ ct, ct = cntL (k : Int) l := ⟨_, rfl⟩
            obtain ⟨WK, hWK⟩ : ∃ WK, WK = bstr (wordK (k : Int)) := ⟨_, rfl⟩
            have HW2 := hid fun W => HW.out (k : Int) W
            rw [← hct] at HRC hcl ⊢
            rw [← hWK] at HRC HW2
            obtain ⟨q0, q1⟩ := HRC.out wr (Below.refl _ _)
            have e1 : (!(WK.toList == WK.toList)) = false := by simp
            have e2 : ((ct : Int) != (ct : Int)) = false := by simp
            have e2' : (ct != ct) = false := by simp
            clear hct hWK HWK
            go_upto_region 15 with (fail)
            go_cut [66] (fun s66 wx => s66 = .bool false ∧ Wall (Ext wr wx))
            case first =>
              go_region_with (go_at_call 22; refine (HW2.out _).mono ?_; rintro e w10 ⟨rfl, hx10⟩; have hx10 := Ext.trans (ext_drewN wr 1) hx10; obtain ⟨q0, q1⟩ := HRC.out w10 hx10)
              all_goals
                have HX10 := hid hx10
                clear hx10 q0 q1
                go_wp2_with fail
                go_meet
                exact ⟨rfl, HX10⟩
            case rest =>
              obtain ⟨rfl, HX10⟩ := hcut
              clear q0 q1
              go_wp2
              go_roundw
              case rel => exact ⟨k + 1, by omega, by go_num, hid (Ext.trans HP.out HX10.out)⟩
              case measure => simp [intOf]; omega
      · obtain rfl : k = 8 := by omega
        go_wp2_with (go_at_call 7; refine (HLV.out _ (Ext.trans HX3.out (Ext.trans HX9.out HP.out))).mono ?_; rintro e w14 ⟨rfl, hx14⟩)
        go_ret
        exact ⟨rfl, Ext.trans (Ext.trans HX3.out (Ext.trans HX9.out HP.out)) hx14⟩
end
end Go.Proofs.YtimlbebockfioaaDoor
