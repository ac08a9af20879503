/- The walks of the document's Lines and Sides; are two lists of texts the same. -/
import Derived.Test.YtimlbebockfioaaDoorChartSi
namespace Go.Proofs.YtimlbebockfioaaDoor
open Go.RowKit

set_option maxRecDepth 100000
section
set_option maxHeartbeats 1000000 in
theorem same35_any (v u : Value) (xs : List ByteArray) (w : World) (h : IsSlice repString w (all w) v xs) (h' : IsSlice repString w (all w) u xs) :
    Calls Tryd.prog 18 #[v, u] w fun e w' => e = .returned (.bool true) ∧ Ext w w' := by
  obtain ⟨A, n, c, rfl, hnc, hcm, hrow⟩ := h
  obtain ⟨A', n', c', rfl, hnc', hcm', hrow'⟩ := h'
  have hn := hrow.1
  have hn' := hrow'.1
  have hmax : n ≤ 9223372036854775807 := by unfold maxLen at hcm; omega
  obtain rfl : n = n' := by omega
  clear hn hn'
  go_enter Tryd.func18, Tryd.ntmps18
  go_wp2
  go_loopw [5] (fun i wr => ∃ j : Nat, j ≤ n ∧ i = .int .i64 j ∧ Ext w wr) (fun i _ => n - (intOf i).toNat)
  case atStart => exact ⟨0, Nat.zero_le _, rfl, Below.refl _ _⟩
  case round =>
    obtain ⟨j, hj, rfl, hext⟩ := hrel
    by_cases hlt : j < n
    · obtain ⟨b, off, us, x, rfl, hb, hx, hus, hc⟩ := hrow.get1 rfl hlt
      obtain ⟨b', off', us', x', rfl, hb', hx', hus', hc'⟩ := hrow'.get1 rfl hlt
      obtain rfl : x = x' := by rw [hx] at hx'; injection hx'
      have e0 : us = .string x := by
        have : [us] = [Value.string x] := hus
        injection this
      have e0' : us' = .string x := by
        have : [us'] = [Value.string x] := hus'
        injection this
      subst e0
      subst e0'
      have q0 := (hext.cell hb _).trans hc
      have q1 := (hext.cell hb' _).trans hc'
      have e1 : (!(x.toList == x.toList)) = false := by simp
      clear hx hx' hus hus' hc hc'
      go_wp2
      go_quiet (fail)
      go_wp2
      go_roundw
      case rel => exact ⟨j + 1, by omega, by go_num, Ext.trans hext (ext_drewN _ _)⟩
      case measure => simp [intOf]; omega
    · obtain rfl : j = n := by omega
      go_wp2
      go_ret
      exact ⟨rfl, hext⟩
set_option maxHeartbeats 2000000 in
theorem linesR_any (v : Value) (l : List Ev) (w : World) (h : IsSlice repEv w (all w) v l) (hl : l.length ≤ 100) (hd : ∀ x ∈ l, x.data.length ≤ 200) :
    Calls Tryd.prog 19 #[v] w fun e w' => ∃ u, e = .returned u ∧ IsSlice repString w' (fresh w w') u (linesL l) ∧ Ext w w' := by
  obtain ⟨A, n, c, rfl, hnc, hcm, hrow⟩ := h
  have hn := hrow.1
  have HN := hid hn
  have hn1 : n ≤ 100 := by omega
  have HD := hid hd
  clear hn hl hd
  go_enter Tryd.func19, Tryd.ntmps19
  go_wp2
  go_loopw [3, 4] (fun u i wr => ∃ j : Nat, j ≤ n ∧ i = .int .i64 (j : Int) ∧ Wall (Own repString 9 w.heap.size wr u (linesL (l.take j)) ∧ Ext w wr)) (fun _ i _ => n - (intOf i).toNat)
  case atStart => exact ⟨0, Nat.zero_le _, rfl, hid ⟨own_nil _ _ _ _, Below.refl _ _⟩⟩
  case round =>
    obtain ⟨j, hj, rfl, HP⟩ := hrel
    by_cases hjl : j < n
    · obtain ⟨b, off, x, A1, m1, c1, rfl, hx, hs, hm, p0, p1, p2, p3⟩ := hrow.evE HP.out.2 hjl
      have hxd := HD.out x (List.mem_of_getElem? hx)
      have hct := linesL_snoc (l.take j) x
      rw [← take_succ_of hx] at hct
      have hll := linesL_len (l.take j)
      rw [List.length_take] at hll
      have hll2 : (linesL (l.take j)).length ≤ 100 := by omega
      have hsa : IsSlice repByte wr (all wr) (.slice A1 m1 c1) x.data := hs.ext HP.out.2
      obtain ⟨xs, xk, xp, xd⟩ := x
      simp only at p0 p1 p2 p3 hct hxd hsa hm
      have HSH := hid (showR_any xs xk xp _ xd wr hsa (by omega))
      obtain ⟨T, hT⟩ : ∃ T, T = bstr (showG ⟨xs, xk, xp, xd⟩) := ⟨_, rfl⟩
      rw [← hT] at HSH hct
      have hTl : T.toList = showG ⟨xs, xk, xp, xd⟩ := by rw [hT, bstr_list]
      obtain ⟨L, hL⟩ : ∃ L, L = linesL (l.take j) := ⟨_, rfl⟩
      rw [← hL] at HP hll2 hct
      clear hx hs hm hxd hsa hT hL hll
      by_cases hsb : showable ⟨xs, xk, xp, xd⟩ = true
      · have e0 : T.toList ≠ [] := by rw [hTl]; exact show_ne hsb
        have e1 : T.toList.isEmpty = false := by simpa using e0
        rw [if_pos hsb] at hct
        have HCT := hid hct
        clear hsb hTl hct
        go_upto_region 7 with (go_at_call 11; refine HSH.out.mono ?_; rintro e w5 ⟨rfl, hx5⟩)
        have HB := hid (⟨HP.out.1.ext hx5, Ext.trans HP.out.2 hx5⟩ : Own repString 9 w.heap.size w5 u3 L ∧ Ext w w5)
        clear hx5 HP p0 p1 p2 p3
        go_wp2_with (at_builtin; refine wpl_app1 (r := repString) (base := w.heap.size) (x := T) (cs := #[.string T]) _ _ rfl rfl Tryd.underlying36 info_str (by decide) HB.out.1 rfl rfl rfl rfl (by omega) (by simp only [maxLen]; omega) HB.out.2.size ?_; intro v' w9 hown9 hg9)
        go_roundw
        case rel => exact ⟨j + 1, by omega, by go_num, hid ⟨by rw [HCT.out]; exact hown9, Below.grown HB.out.2 hg9 HB.out.2.size (fun k hk => (HB.out.1.lt k hk).1)⟩⟩
        case measure => simp [intOf]; omega
      · have e0 : T.toList = [] := by rw [hTl]; exact showG_neg (by simpa using hsb)
        have e1 : T.toList.isEmpty = true := by rw [e0]; rfl
        rw [if_neg hsb, List.append_nil] at hct
        have HCT := hid hct
        clear hsb hTl hct
        go_wp2_with (go_at_call 11; refine HSH.out.mono ?_; rintro e w5 ⟨rfl, hx5⟩)
        go_roundw
        case rel => exact ⟨j + 1, by omega, by go_num, hid ⟨by rw [HCT.out]; exact HP.out.1.ext hx5, Ext.trans HP.out.2 hx5⟩⟩
        case measure => simp [intOf]; omega
    · obtain rfl : j = n := by omega
      rw [List.take_of_length_le (by rw [HN.out]; exact Nat.le_refl _)] at HP
      go_wp2
      go_ret
      exact ⟨_, rfl, HP.out.1.fresh, HP.out.2⟩
set_option maxHeartbeats 4000000 in
theorem sidesR_any (v : Value) (l : List Ev) (w : World) (h : IsSlice repEv w (all w) v l) (hl : l.length ≤ 100) (hd : ∀ x ∈ l, x.data.length ≤ 200) :
    Calls Tryd.prog 21 #[v] w fun e w' => ∃ u, e = .returned u ∧ IsSlice repString w' (fresh w w') u (sidesL l) ∧ Ext w w' := by
  obtain ⟨A, n, c, rfl, hnc, hcm, hrow⟩ := h
  have hn := hrow.1
  have HN := hid hn
  have hn1 : n ≤ 100 := by omega
  have HD := hid hd
  clear hn hl hd
  go_enter Tryd.func21, Tryd.ntmps21
  go_upto_region 4 with (fail)
  go_wp2
  go_loopw [4, 5] (fun u i wr => ∃ j : Nat, j ≤ n ∧ i = .int .i64 (j : Int) ∧ Wall (Own repString 9 w.heap.size wr u (sidesL (l.take j)) ∧ Ext w wr)) (fun _ i _ => n - (intOf i).toNat)
  case atStart => exact ⟨0, Nat.zero_le _, rfl, hid ⟨own_nil _ _ _ _, Below.refl _ _⟩⟩
  case round =>
    obtain ⟨j, hj, rfl, HP⟩ := hrel
    by_cases hjl : j < n
    · obtain ⟨b, off, x, A1, m1, c1, rfl, hx, hs, hm, p0, p1, p2, p3⟩ := hrow.evE HP.out.2 hjl
      have hxd := HD.out x (List.mem_of_getElem? hx)
      have hct := sidesL_snoc (l.take j) x
      rw [← take_succ_of hx] at hct
      have hll := sidesL_len (l.take j)
      rw [List.length_take] at hll
      have hll2 : (sidesL (l.take j)).length ≤ 100 := by omega
      have hsa : IsSlice repByte wr (all wr) (.slice A1 m1 c1) x.data := hs.ext HP.out.2
      obtain ⟨xs, xk, xp, xd⟩ := x
      simp only at p0 p1 p2 p3 hct hxd hsa hm
      have HE := hid fun w1 (he : Ext wr w1) => (⟨(he.cell (lt_of_cell' p1) _).trans p1, (he.cell (lt_of_cell' p2) _).trans p2⟩ : w1.cell? ⟨b, off + j * 4 + 1, none⟩ = some (.int .i64 xk) ∧ w1.cell? ⟨b, off + j * 4 + 2, none⟩ = some (.int .i64 xp))
      have HSH := hid (showR_any xs xk xp _ xd wr hsa (by omega))
      have hsl := showG_len (e := ⟨xs, xk, xp, xd⟩) hxd
      obtain ⟨LE, hLE⟩ : ∃ LE, LE = leftL ⟨xs, xk, xp, xd⟩ := ⟨_, rfl⟩
      have hsd : sideL ⟨xs, xk, xp, xd⟩ = if LE = true then bstr (showG ⟨xs, xk, xp, xd⟩) else bstr blanksL ++ bstr (showG ⟨xs, xk, xp, xd⟩) := by unfold sideL; rw [hLE]
      obtain ⟨T, hT⟩ : ∃ T, T = bstr (showG ⟨xs, xk, xp, xd⟩) := ⟨_, rfl⟩
      rw [← hT] at HSH hsd
      have hTl : T.toList = showG ⟨xs, xk, xp, xd⟩ := by rw [hT, bstr_list]
      have hTs : T.size ≤ 500 := by rw [hT, bstr_size]; exact hsl
      rw [hsd] at hct
      obtain ⟨L, hL⟩ : ∃ L, L = sidesL (l.take j) := ⟨_, rfl⟩
      rw [← hL] at HP hll2 hct
      clear hx hs hm hxd hsa hT hL hll hsd hsl
      by_cases hsb : showable ⟨xs, xk, xp, xd⟩ = true
      · have e0 : T.toList ≠ [] := by rw [hTl]; exact show_ne hsb
        have e1 : T.toList.isEmpty = false := by simpa using e0
        rw [if_pos hsb] at hct
        clear hsb hTl
        go_upto_region 7 with (go_at_call 11; refine HSH.out.mono ?_; rintro e w5 ⟨rfl, hx5⟩)
        obtain ⟨r1, r2⟩ := HE.out w5 hx5
        have HB := hid (⟨HP.out.1.ext hx5, Ext.trans HP.out.2 hx5⟩ : Own repString 9 w.heap.size w5 u4 L ∧ Ext w w5)
        clear hx5 HP p0 p1 p2 p3 HE
        have hbs : (bstr blanksL).size = 30 := rfl
        obtain ⟨BL, hBL⟩ : ∃ BL, BL = bstr blanksL := ⟨_, rfl⟩
        rw [← hBL] at hct hbs
        have hcat0 := run_catS BL T (BL ++ T) rfl (by omega)
        obtain ⟨SD, hSD⟩ : ∃ SD, SD = BL ++ T := ⟨_, rfl⟩
        rw [← hSD] at hcat0 hct
        rw [hBL] at hcat0
        have hcat : ∀ W, (Op.stringOp .add ⟨#[32, 32, 32, 32, 32, 32, 32, 32, 32, 32, 32, 32, 32, 32, 32, 32, 32, 32, 32, 32, 32, 32, 32, 32, 32, 32, 32, 32, 32, 32]⟩ T).run Tryd.prog W = .ok (.string SD) W := hcat0
        have HCT := hid hct
        have HLE := hid hLE
        clear hBL hSD hbs hcat0 hct hLE
        have hk : xk = 0 ∨ xk = 3 ∨ xk = 4 ∨ xk = 7 ∨ (xk = 5 ∧ xp = 0) ∨ (xk = 5 ∧ ¬ xp = 0) ∨ (¬ xk = 0 ∧ ¬ xk = 3 ∧ ¬ xk = 4 ∧ ¬ xk = 7 ∧ ¬ xk = 5) := by omega
        have hle2 : LE = if xk = 0 ∨ xk = 3 ∨ xk = 4 ∨ xk = 7 then true else if xk = 5 then xp == 0 else false := HLE.out
        rcases hk with rfl | rfl | rfl | rfl | ⟨rfl, rfl⟩ | ⟨rfl, hp0⟩ | ⟨h0, h3, h4, h7, h5⟩
        case' inl =>
          have hl9 : L ++ [T] = sidesL (l.take (j + 1)) := by rw [HCT.out, if_pos (by rw [hle2]; rfl)]
          clear hle2
        case' inr.inl =>
          have hl9 : L ++ [T] = sidesL (l.take (j + 1)) := by rw [HCT.out, if_pos (by rw [hle2]; rfl)]
          clear hle2
        case' inr.inr.inl =>
          have hl9 : L ++ [T] = sidesL (l.take (j + 1)) := by rw [HCT.out, if_pos (by rw [hle2]; rfl)]
          clear hle2
        case' inr.inr.inr.inl =>
          have hl9 : L ++ [T] = sidesL (l.take (j + 1)) := by rw [HCT.out, if_pos (by rw [hle2]; rfl)]
          clear hle2
        case' inr.inr.inr.inr.inl =>
          have hl9 : L ++ [T] = sidesL (l.take (j + 1)) := by rw [HCT.out, if_pos (by rw [hle2]; rfl)]
          clear hle2
        case' inr.inr.inr.inr.inr.inl =>
          have t9 : (xp == 0) = false := by simpa using hp0
          have t9b : (xp != 0) = true := by simpa using hp0
          have hl9 : L ++ [SD] = sidesL (l.take (j + 1)) := by rw [HCT.out, if_neg (by rw [hle2, if_neg (by decide), if_pos rfl, t9]; decide)]
          clear hle2 hp0
        case' inr.inr.inr.inr.inr.inr =>
          have t0 : (xk != 0) = true := by simpa using h0
          have t3 : (xk != 3) = true := by simpa using h3
          have t4 : (xk != 4) = true := by simpa using h4
          have t7 : (xk != 7) = true := by simpa using h7
          have t5 : (xk != 5) = true := by simpa using h5
          have hl9 : L ++ [SD] = sidesL (l.take (j + 1)) := by rw [HCT.out, if_neg (by rw [hle2, if_neg (by omega), if_neg h5]; decide)]
          clear hle2 h0 h3 h4 h7 h5
        all_goals
          have HL9 := hid hl9
          clear hl9 HCT HLE
          go_wp2_with (first
            | (at_builtin; (refine wpl_app1 (r := repString) (base := w.heap.size) (x := T) (cs := #[.string T]) _ _ rfl rfl Tryd.underlying36 info_str (by decide) HB.out.1 rfl rfl rfl rfl (by omega) (by simp only [maxLen]; omega) HB.out.2.size ?_); intro v' w9 hown9 hg9)
            | (at_builtin; (refine wpl_app1 (r := repString) (base := w.heap.size) (x := SD) (cs := #[.string SD]) _ _ rfl rfl Tryd.underlying36 info_str (by decide) HB.out.1 rfl rfl rfl rfl (by omega) (by simp only [maxLen]; omega) HB.out.2.size ?_); intro v' w9 hown9 hg9))
          go_roundw
          case rel => exact ⟨j + 1, by omega, by go_num, hid ⟨by rw [← HL9.out]; exact hown9, Below.grown HB.out.2 hg9 HB.out.2.size (fun k hk => (HB.out.1.lt k hk).1)⟩⟩
          case measure => simp [intOf]; omega
      · have e0 : T.toList = [] := by rw [hTl]; exact showG_neg (by simpa using hsb)
        have e1 : T.toList.isEmpty = true := by rw [e0]; rfl
        rw [if_neg hsb, List.append_nil] at hct
        have HCT := hid hct
        clear hsb hTl hct hLE
        go_upto_region 7 with (go_at_call 11; refine HSH.out.mono ?_; rintro e w5 ⟨rfl, hx5⟩)
        obtain ⟨r1, r2⟩ := HE.out w5 hx5
        have HB := hid (⟨HP.out.1.ext hx5, Ext.trans HP.out.2 hx5⟩ : Own repString 9 w.heap.size w5 u4 L ∧ Ext w w5)
        clear hx5 HP p0 p1 p2 p3 HE
        go_wp2
        go_roundw
        case rel => exact ⟨j + 1, by omega, by go_num, hid ⟨by rw [HCT.out]; exact HB.out.1, HB.out.2⟩⟩
        case measure => simp [intOf]; omega
    · obtain rfl : j = n := by omega
      rw [List.take_of_length_le (by rw [HN.out]; exact Nat.le_refl _)] at HP
      go_wp2
      go_ret
      exact ⟨_, rfl, HP.out.1.fresh, HP.out.2⟩
end
end Go.Proofs.YtimlbebockfioaaDoor
