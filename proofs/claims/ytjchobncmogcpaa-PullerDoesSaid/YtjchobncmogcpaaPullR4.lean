/- The puller's reference: tells. -/
import Derived.Test.YtjchobncmogcpaaPullR3
namespace Go.Proofs.Ytjchobncmogcpaa
open Go.RowKit

theorem pow64 {t : Nat} (h : t ≤ 63) : (2 : Nat) ^ t ≤ 9223372036854775808 := by
  have : (2 : Nat) ^ t ≤ 2 ^ 63 := Nat.pow_le_pow_right (by decide) h
  have e : (2 : Nat) ^ 63 = 9223372036854775808 := by decide
  omega
set_option maxRecDepth 100000
section
set_option maxHeartbeats 2000000 in
theorem tellsR_any (w : World) (gn gr : Nat) (c : Cfg) (s : Pu) (h : PrAt w gn gr c s) (hc : c.Ok) (hok : PuOk c s) (hs : s.ent ≤ 2000000) :
    Calls Try.prog 83 #[.pointer (some ⟨gr, 0, none⟩)] w fun e w' => ∃ u, e = .returned u ∧ IsSlice repSl w' (fresh w w') u [tellS c s] ∧ Ext w w' := by
  obtain ⟨hw1, hwl, hw64, hl2, hm1, hm2, _, _⟩ := hc
  have hbits := hok.bits hw64 hw1
  unfold tellS
  obtain ⟨hlt0, qv, lv, hb, hbn, hown, hl⟩ := h
  have hgr := hb.lt
  obtain ⟨A, n, cc, rfl, hnc, hcm, hrow⟩ := hl
  have hn := hrow.1
  obtain ⟨_, e2, _, c8, c9, _, _, _, _⟩ := prCellsAt hb
  obtain ⟨E, hEe⟩ : ∃ E : Int, E = (s.ent : Int) := ⟨_, rfl⟩
  rw [← hEe] at c9 ⊢
  have HEE := hid hEe
  have hEb : 0 ≤ E ∧ E ≤ 2000000 := by omega
  have HM := hid (fun w1 => modR_any E c.m w1 (by omega))
  obtain ⟨sq, hsq⟩ : ∃ sq, sq = modV E c.m := ⟨_, rfl⟩
  rw [← hsq] at HM ⊢
  rw [hbits.1]
  have hsum := hbits.2
  have HTK := hid (fun j => sumR_take s.ent s.ah j)
  obtain ⟨SB, hSB⟩ : ∃ SB, SB = sumR s.ent s.ah := ⟨_, rfl⟩
  rw [← hSB] at hsum HTK ⊢
  have HSB := hid hSB
  have HN := hid hn
  have HOK := hid hok
  unfold maxLen at hcm
  clear hEe hsq hSB hbits hn hb hbn hown hok hwl hl2 hm1
  go_enter Try.func83, Try.ntmps83
  go_wp2
  go_loopw [3, 4] (fun bv i wr => ∃ (j B : Nat), j ≤ n ∧ i = .int .i64 j ∧ bv = .int .u64 (B : Int) ∧ B < 18446744073709551616 ∧ Wall (B = sumR s.ent (s.ah.take j)) ∧ ∃ d, wr = w.drewN d) (fun _ i _ => n - (intOf i).toNat)
  case atStart => exact ⟨0, 0, Nat.zero_le _, rfl, rfl, by decide, hid rfl, 0, rfl⟩
  case round =>
    obtain ⟨j, B, hj, rfl, rfl, hB, hBs, d, rfl⟩ := hrel
    by_cases hlt : j < n
    · obtain ⟨b, off, x, A', c', rfl, hbS, hx, _, m0, _⟩ := hrow.late hlt
      obtain ⟨k1, k2, _⟩ := HOK.out.bnd x (List.mem_of_getElem? hx)
      obtain ⟨D, hD⟩ : ∃ D : Nat, (D : Int) = x.1 - E := ⟨(x.1 - E).toNat, by have := HEE.out; omega⟩
      have hD64 : D < 64 := by have := HEE.out; omega
      obtain ⟨k, hk⟩ : ∃ k, k = x.1 := ⟨_, rfl⟩
      rw [← hk] at m0 hD
      have hkE : k = E + D := by omega
      subst hkE
      have htk := take_succ_of hx
      have hB2 : B + 2 ^ D = sumR s.ent (s.ah.take (j + 1)) := by
        rw [htk, sumR_append, ← hBs.out]
        congr 1
        show 2 ^ D = 2 ^ (x.1 - s.ent).toNat + 0
        congr 2
        have := HEE.out
        omega
      have hle := HTK.out (j + 1)
      rw [← hB2] at hle
      have HB2 := hid hB2
      clear hx hD hk htk hB2 k1 k2
      have hpd := pow64 (t := D) (by omega)
      obtain ⟨PD, hPD⟩ : ∃ PD, PD = 2 ^ D := ⟨_, rfl⟩
      rw [← hPD] at hle HB2 hpd
      have HPD := hid hPD
      clear hPD
      go_wp2
      go_quiet (fail)
      go_wp2
      go_loop [5, 6] (fun b k => ∃ (t T : Nat), t ≤ D ∧ b = .int .u64 (T : Int) ∧ k = .int .i64 ((D : Int) - (t : Int)) ∧ T ≤ 9223372036854775808 ∧ Wall (T = 2 ^ t)) (fun _ k => (intOf k).toNat)
      case atStart => exact ⟨0, 1, Nat.zero_le _, rfl, by simp; omega, by decide, hid rfl⟩
      case round =>
        obtain ⟨t, T, ht, rfl, rfl, hT, hTe⟩ := hrel
        by_cases htD : t < D
        · have h2 := pow64 (t := t + 1) (by omega)
          have h3 : 2 ^ (t + 1) = 2 * T := by rw [hTe.out, Nat.pow_succ]; omega
          have h4 : 2 * T ≤ 9223372036854775808 := by rw [← h3]; exact h2
          have H3 := hid h3
          have hpos : decide ((0 : Int) < (D : Int) - (t : Int)) = true := decide_eq_true (by omega)
          have hpos2 : (t : Int) < (D : Int) := by omega
          clear h2 h3
          go_wp2
          go_round
          case rel => exact ⟨t + 1, by omega, 2 * T, by push_cast; rfl, by push_cast; omega, h4, hid H3.out.symm⟩
          case measure => simp [intOf]; omega
        · obtain rfl : t = D := by omega
          have hTP : T = PD := by rw [hTe.out, HPD.out]
          subst hTP
          have hpos : decide ((0 : Int) < (t : Int) - (t : Int)) = false := decide_eq_false (by omega)
          clear hTe HPD
          go_wp2
          go_roundw
          case rel => exact ⟨j + 1, B + T, by omega, by go_num, by push_cast; rfl, by omega, HB2, _, rfl⟩
          case measure => simp [intOf]; omega
    · obtain rfl : j = n := by omega
      have hBS : B = SB := by
        have := hBs.out
        rw [List.take_of_length_le (by have := HN.out; omega)] at this
        rw [this, HSB.out]
      subst hBS
      clear hBs HSB HTK hrow
      go_upto_region 11 with (fail)
      have hx1 : Ext w (w.drewN d) := ext_drewN _ _
      have f9 := (hx1.cell hgr 9).trans c9
      have f2 := (hx1.cell hgr 2).trans e2
      generalize w.drewN d = w1 at *
      clear c9 e2 c8
      go_region_law (first
        | (go_simp; go_at_call 124; refine (HM.out _).mono ?_; rintro r w2 ⟨rfl, rfl⟩; dsimp only))
      all_goals
        go_wp2
        go_ret
        have hxd : Ext w w1.drew := Ext.trans hx1 (Below.drew (Below.refl _ _))
        have how : Own repSl 42 w.heap.size (w1.drew.alloc (.cells #[.bool true, .int .i64 sq, .int .u64 (B : Int), .slice none 0 0] 42)) (.slice (some ⟨w1.drew.heap.size, 0, none⟩) 1 1) [⟨true, sq, (B : Int), []⟩] := own_lit1 (r := repSl) hxd.size ⟨_, rfl, isSlice_nil _ _ _⟩
        exact ⟨_, rfl, how.fresh, Ext.trans hxd (ext_alloc _ _)⟩
end
end Go.Proofs.Ytjchobncmogcpaa
