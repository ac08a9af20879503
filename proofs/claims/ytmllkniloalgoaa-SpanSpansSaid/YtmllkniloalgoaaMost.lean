/- The walks of span's Most and its reference's; of the law's live. -/
import Derived.Test.YtmllkniloalgoaaBars
namespace Go.Proofs.Ytmllkniloalgoaa
open Go.RowKit

theorem openB_no1 {at_ : Int} {y : Sp} (h : ¬ y.sent ≤ at_) : openB at_ y = false := by simp [openB, h]
theorem openB_yes2 {at_ : Int} {y : Sp} (h : y.sent ≤ at_) (h2 : y.ret < 0) : openB at_ y = true := by simp [openB, h, h2]
theorem openB_yes3 {at_ : Int} {y : Sp} (h : y.sent ≤ at_) (h2 : at_ < y.ret) : openB at_ y = true := by simp [openB, h, h2]
theorem openB_no3 {at_ : Int} {y : Sp} (h : ¬ y.ret < 0) (h2 : ¬ at_ < y.ret) : openB at_ y = false := by simp [openB, h, h2]
theorem cntOf_all {l : List Sp} {n : Nat} (at_ : Int) (h : l.length ≤ n) : cntOf (l.take n) at_ = cntOf l at_ := by rw [List.take_of_length_le h]
theorem mostTo_le (l : List Sp) (k : Nat) : mostTo l k ≤ l.length := by
  induction k with
  | zero => simp [mostTo]
  | succ k ih =>
    rcases Nat.lt_or_ge k l.length with h | h
    · rw [mostTo_step (List.getElem?_eq_getElem h)]
      have : cntOf l l[k].sent ≤ l.length := List.countP_le_length
      omega
    · have : mostTo l (k + 1) = mostTo l k := by unfold mostTo; rw [List.take_of_length_le h, List.take_of_length_le (by omega)]
      rw [this]; exact ih

set_option maxRecDepth 100000
section
set_option maxHeartbeats 1600000 in
theorem most_any (v : Value) (xs : List Sp) (w : World) (h : IsSlice repSp w (all w) v xs) (hl : xs.length ≤ 60) :
    Calls Try.prog 16 #[v] w fun e w' => e = .returned (.int .i64 (mostTo xs xs.length)) ∧ Ext w w' := by
  obtain ⟨A, n, c, rfl, hnc, hcm, hrow⟩ := h
  have hn := hrow.1
  have hmax : n ≤ 60 := by omega
  have HN := hid hn
  clear hn
  go_enter Try.func16, Try.ntmps16
  go_wp2
  go_loopw [3, 11] (fun m i wr => ∃ k M : Nat, k ≤ n ∧ i = .int .i64 k ∧ m = .int .i64 M ∧ M ≤ 60 ∧ Hid (M = mostTo xs k) ∧ Ext w wr) (fun _ i _ => n - (intOf i).toNat)
  case atStart => exact ⟨0, 0, Nat.zero_le _, rfl, rfl, by omega, hid (by simp [mostTo]), Below.refl _ _⟩
  case round =>
    obtain ⟨k, M, hk, rfl, rfl, hM, HM, hext⟩ := hrel
    by_cases hlt : k < n
    · obtain ⟨b, off, x, rfl, hb, hx, c0, c1, c2, c3⟩ := hrow.spE hext hlt
      have HST := hid (mostTo_step hx)
      clear hx
      go_wp2
      have hbx := Blk.new wr 35 #[.int .i64 x.place, .int .i64 x.sent, .int .i64 x.ret, .int .i64 x.told]
      have hexo : Ext w (wr.alloc (.cells #[.int .i64 x.place, .int .i64 x.sent, .int .i64 x.ret, .int .i64 x.told] 35)) := Ext.trans hext (ext_alloc _ _)
      generalize (wr.alloc (.cells #[.int .i64 x.place, .int .i64 x.sent, .int .i64 x.ret, .int .i64 x.told] 35)) = wo at *
      generalize wr.heap.size = gx at *
      go_loopw [6, 17] (fun m i wr' => ∃ j C : Nat, j ≤ n ∧ i = .int .i64 j ∧ m = .int .i64 C ∧ C ≤ j ∧ Hid (C = cntOf (xs.take j) x.sent) ∧ Ext wo wr') (fun _ i _ => n - (intOf i).toNat)
      case atStart => exact ⟨0, 0, Nat.zero_le _, rfl, rfl, Nat.le_refl _, hid (by simp [cntOf]), Below.refl _ _⟩
      case round =>
        obtain ⟨j, C, hj, rfl, rfl, hC, HC, hext2⟩ := hrel
        have hwi := Ext.trans hexo hext2
        by_cases hjn : j < n
        · obtain ⟨b', off', y, hbo, hb', hy, d0, d1, d2, d3⟩ := hrow.spE hwi hjn
          simp only [Option.some.injEq, Addr.mk.injEq, and_true] at hbo
          obtain ⟨rfl, rfl⟩ := hbo
          have HCS := hid (cntOf_step x.sent hy)
          have hbi := hbx.ext hext2
          have z1 : wr.cell? ⟨gx, 1, none⟩ = some (.int .i64 x.sent) := hbi.cell 1
          have hgl := hbi.lt
          have hop := fun w1 => open_any y x.sent w1
          obtain ⟨o, ho⟩ : ∃ o, openB x.sent y = o := ⟨_, rfl⟩
          rw [ho] at hop
          rw [ho] at HCS
          have HOP := hid hop
          clear hy hop ho
          go_wp2_with fail
          refine (HOP.out _).mono ?_
          rintro r w3 ⟨rfl, hx3⟩
          have hext3 := Ext.trans hext2 (Ext.of_alloc hx3)
          cases o
          · go_wp2
            go_roundw
            case rel => exact ⟨j + 1, C, by omega, by go_num, rfl, by omega, hid (by rw [HCS.out, ← HC.out]; rfl), hext3⟩
            case measure => simp [intOf]; omega
          · go_wp2
            go_roundw
            case rel => exact ⟨j + 1, C + 1, by omega, by go_num, by go_num, by omega, hid (by rw [HCS.out, ← HC.out]; rfl), hext3⟩
            case measure => simp [intOf]; omega
        · obtain rfl : j = n := by omega
          have hcn : C = cntOf xs x.sent := by rw [HC.out, cntOf_all _ (by rw [HN.out]; exact Nat.le_refl _)]
          have HCN := hid hcn
          clear hcn
          go_wp2
          go_roundw
          case rel => exact ⟨k + 1, max M C, by omega, by go_num, by congr 1; omega, by omega, hid (by rw [HST.out, ← HM.out, ← HCN.out]), hwi⟩
          case measure => simp [intOf]; omega
    · go_wp2
      go_ret
      have hkn : k = xs.length := by have := HN.out; omega
      exact ⟨ret_int (by rw [HM.out, hkn]), hext⟩
set_option maxHeartbeats 1600000 in
theorem mostR_any (v : Value) (xs : List Sp) (w : World) (h : IsSlice repSp w (all w) v xs) (hl : xs.length ≤ 60) :
    Calls Try.prog 17 #[v] w fun e w' => e = .returned (.int .i64 (mostTo xs xs.length)) ∧ Ext w w' := by
  obtain ⟨A, n, c, rfl, hnc, hcm, hrow⟩ := h
  have hn := hrow.1
  have hmax : n ≤ 60 := by omega
  have HN := hid hn
  clear hn
  go_enter Try.func17, Try.ntmps17
  go_wp2
  go_loopw [3, 4] (fun m i wr => ∃ k M : Nat, k ≤ n ∧ i = .int .i64 k ∧ m = .int .i64 M ∧ M ≤ 60 ∧ Hid (M = mostTo xs k) ∧ Ext w wr) (fun _ i _ => n - (intOf i).toNat)
  case atStart => exact ⟨0, 0, Nat.zero_le _, rfl, rfl, by omega, hid (by simp [mostTo]), Below.refl _ _⟩
  case round =>
    obtain ⟨k, M, hk, rfl, rfl, hM, HM, hext⟩ := hrel
    by_cases hlt : k < n
    · obtain ⟨b, off, x, rfl, hb, hx, c0, c1, c2, c3⟩ := hrow.spE hext hlt
      have HST := hid (mostTo_step hx)
      clear hx
      go_wp2
      obtain ⟨wo, rfl⟩ : ∃ wo : World, wo = wr := ⟨_, rfl⟩
      go_loopw [6, 7] (fun m i wr' => ∃ j C : Nat, j ≤ n ∧ i = .int .i64 j ∧ m = .int .i64 C ∧ C ≤ j ∧ Hid (C = cntOf (xs.take j) x.sent) ∧ Ext wo wr') (fun _ i _ => n - (intOf i).toNat)
      case atStart => exact ⟨0, 0, Nat.zero_le _, rfl, rfl, Nat.le_refl _, hid (by simp [cntOf]), Below.refl _ _⟩
      case round =>
        obtain ⟨j, C, hj, rfl, rfl, hC, HC, hext2⟩ := hrel
        have hwi := Ext.trans hext hext2
        by_cases hjn : j < n
        · obtain ⟨b', off', y, hbo, hb', hy, d0, d1, d2, d3⟩ := hrow.spE hwi hjn
          simp only [Option.some.injEq, Addr.mk.injEq, and_true] at hbo
          obtain ⟨rfl, rfl⟩ := hbo
          have HCS := hid (cntOf_step x.sent hy)
          clear hy
          by_cases h1 : y.sent ≤ x.sent
          · by_cases h2 : y.ret < 0
            · rw [openB_yes2 h1 h2] at HCS
              go_wp2
              go_roundw
              case rel => exact ⟨j + 1, C + 1, by omega, by go_num, by go_num, by omega, hid (by rw [HCS.out, ← HC.out]; rfl), hext2⟩
              case measure => simp [intOf]; omega
            · by_cases h3 : x.sent < y.ret
              · rw [openB_yes3 h1 h3] at HCS
                go_wp2
                go_roundw
                case rel => exact ⟨j + 1, C + 1, by omega, by go_num, by go_num, by omega, hid (by rw [HCS.out, ← HC.out]; rfl), hext2⟩
                case measure => simp [intOf]; omega
              · rw [openB_no3 h2 h3] at HCS
                go_wp2
                go_roundw
                case rel => exact ⟨j + 1, C, by omega, by go_num, rfl, by omega, hid (by rw [HCS.out, ← HC.out]; rfl), hext2⟩
                case measure => simp [intOf]; omega
          · rw [openB_no1 h1] at HCS
            go_wp2
            go_roundw
            case rel => exact ⟨j + 1, C, by omega, by go_num, rfl, by omega, hid (by rw [HCS.out, ← HC.out]; rfl), hext2⟩
            case measure => simp [intOf]; omega
        · obtain rfl : j = n := by omega
          have hcn : C = cntOf xs x.sent := by rw [HC.out, cntOf_all _ (by rw [HN.out]; exact Nat.le_refl _)]
          have HCN := hid hcn
          clear hcn
          by_cases hMC : M < C
          · go_wp2
            go_roundw
            case rel => exact ⟨k + 1, C, by omega, by go_num, rfl, by omega, hid (by rw [HST.out, ← HM.out, ← HCN.out]; omega), hwi⟩
            case measure => simp [intOf]; omega
          · go_wp2
            go_roundw
            case rel => exact ⟨k + 1, M, by omega, by go_num, rfl, by omega, hid (by rw [HST.out, ← HM.out, ← HCN.out]; omega), hwi⟩
            case measure => simp [intOf]; omega
    · go_wp2
      go_ret
      have hkn : k = xs.length := by have := HN.out; omega
      exact ⟨ret_int (by rw [HM.out, hkn]), hext⟩
theorem spanLive_any (w : World) : Calls Try.prog 6 #[] w fun e w' => e = .returned (.bool true) ∧ Ext w w' := by
  have hs : sortI [5, 1, 3] = [1, 3, 5] := by simp [sortI, List.mergeSort]
  have hb : barsTo 5 2 [0, 4, 9] = [2, 1] := by decide +kernel
  have hr := fun (v : Value) (w1 : World) (h : IsSlice (repInt .i64) w1 (all w1) v [5, 1, 3]) => rank_any v [5, 1, 3] 1 2 w1 h (by decide) (by unfold rankBad; simp) 1 3 (by decide) (by rw [hs]; rfl)
  have hbr := fun (v : Value) (w1 : World) (h : IsSlice (repInt .i64) w1 (all w1) v [0, 4, 9]) => bars_any v [0, 4, 9] 5 2 w1 h (by decide) (by omega) (by omega) (by omega) (by omega)
  rw [hb] at hbr
  have HR := hid hr
  have HBR := hid hbr
  clear hr hbr hs hb
  go_enter Try.func6, Try.ntmps6
  go_wp2_with fail
  refine (HR.out _ _ (isSlice_lits (r := repInt .i64) (us := [.int .i64 5, .int .i64 1, .int .i64 3]) (xs := [5, 1, 3]) rfl ⟨⟨rfl, by decide⟩, ⟨rfl, by decide⟩, ⟨rfl, by decide⟩, trivial⟩ (by simp [maxLen]) rfl rfl)).mono ?_
  rintro r w1 ⟨rfl, hx1⟩
  go_wp2_with fail
  refine (HBR.out _ _ (isSlice_lits (r := repInt .i64) (us := [.int .i64 0, .int .i64 4, .int .i64 9]) (xs := [0, 4, 9]) rfl ⟨⟨rfl, by decide⟩, ⟨rfl, by decide⟩, ⟨rfl, by decide⟩, trivial⟩ (by simp [maxLen]) rfl rfl)).mono ?_
  rintro r w2 ⟨u, rfl, hu, hx2⟩
  go_wp2_with fail
  refine (sameInts_any _ _ [2, 1] [2, 1] _ (hu.any.ext (ext_alloc _ _)) (isSlice_lits (r := repInt .i64) (us := [.int .i64 2, .int .i64 1]) (xs := [2, 1]) rfl ⟨⟨rfl, by decide⟩, ⟨rfl, by decide⟩, trivial⟩ (by simp [maxLen]) rfl rfl)).mono ?_
  rw [decide_eq_true rfl]
  rintro r w3 ⟨rfl, k3, rfl⟩
  go_wp2
  go_ret
  exact ⟨rfl, Ext.trans (Ext.of_alloc hx1) (Ext.trans (Ext.of_alloc hx2) (Ext.trans (ext_alloc _ _) (ext_drewN _ _)))⟩
end
end Go.Proofs.Ytmllkniloalgoaa
