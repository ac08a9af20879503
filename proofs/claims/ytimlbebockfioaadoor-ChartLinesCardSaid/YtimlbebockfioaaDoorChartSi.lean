/- The walks of Sides, on both sides; the document's Lines; are two lists of texts the same. -/
import Derived.Test.YtimlbebockfioaaDoorChartLi
namespace Go.Proofs.YtimlbebockfioaaDoor
open Go.RowKit

def leftL (e : Ev) : Bool := if e.kind = 0 ∨ e.kind = 3 ∨ e.kind = 4 ∨ e.kind = 7 then true else if e.kind = 5 then e.place == 0 else false
def blanksL : List UInt8 := List.replicate 30 32
def sideL (e : Ev) : ByteArray := if leftL e = true then bstr (showG e) else bstr blanksL ++ bstr (showG e)
def sidesL (l : List Ev) : List ByteArray := (l.filter showable).map sideL
theorem sidesL_snoc (l : List Ev) (e : Ev) : sidesL (l ++ [e]) = sidesL l ++ (if showable e = true then [sideL e] else []) := by
  unfold sidesL
  rw [List.filter_append, List.map_append]
  congr 1
  by_cases h : showable e = true
  · simp [h]
  · have h2 : showable e = false := by simpa using h
    simp [h2]
theorem sidesL_len (l : List Ev) : (sidesL l).length ≤ l.length := by
  unfold sidesL
  rw [List.length_map]
  exact List.length_filter_le _ _
theorem repeat_blanks : Lib.repeatL [32] 30 = blanksL := by decide
set_option maxRecDepth 100000
section
theorem repeat_any (w : World) : Calls Tryd.prog 41 #[.string ⟨#[32]⟩, .int .i64 30] w fun e w' => e = .returned (.string (bstr blanksL)) ∧ Ext w w' := by
  refine (Tryd.strings_Repeat ⟨#[32]⟩ 30 w (by decide) (by decide)).mono fun e w' ⟨he, hw⟩ => ⟨?_, hw⟩
  rw [he]
  show Ending.returned (.string (bstr (Lib.repeatL [32] 30))) = _
  rw [repeat_blanks]
set_option maxHeartbeats 1000000 in
theorem left_any (s k p : Int) (v : Value) (data : List UInt8) (w : World) (A : Option Addr) (m c : Nat) (hv : v = .slice A m c) : Calls Tryd.prog 40 #[.agg #[.int .i64 s, .int .i64 k, .int .i64 p, v]] w fun e w' => e = .returned (.bool (leftL ⟨s, k, p, data⟩)) ∧ Ext w w' := by
  subst hv
  have hk : k = 0 ∨ k = 3 ∨ k = 4 ∨ k = 7 ∨ k = 5 ∨ (¬ k = 0 ∧ ¬ k = 3 ∧ ¬ k = 4 ∧ ¬ k = 7 ∧ ¬ k = 5) := by omega
  obtain ⟨R, hR⟩ : ∃ R, R = leftL ⟨s, k, p, data⟩ := ⟨_, rfl⟩
  rw [← hR]
  unfold leftL at hR
  simp only at hR
  rcases hk with rfl | rfl | rfl | rfl | rfl | ⟨h0, h3, h4, h7, h5⟩
  case' inl => have hr : R = true := by rw [hR]; rfl
  case' inr.inl => have hr : R = true := by rw [hR]; rfl
  case' inr.inr.inl => have hr : R = true := by rw [hR]; rfl
  case' inr.inr.inr.inl => have hr : R = true := by rw [hR]; rfl
  case' inr.inr.inr.inr.inl => have hr : R = (p == 0) := by rw [hR]; rfl
  case' inr.inr.inr.inr.inr =>
    have hr : R = false := by rw [hR, if_neg (by omega), if_neg h5]
    have t0 : (k == 0) = false := by simpa using h0
    have t3 : (k == 3) = false := by simpa using h3
    have t4 : (k == 4) = false := by simpa using h4
    have t7 : (k == 7) = false := by simpa using h7
    have t5 : (k == 5) = false := by simpa using h5
    clear h0 h3 h4 h7 h5
  all_goals
    subst hr
    clear hR
    go_enter Tryd.func40, Tryd.ntmps40
    go_wp2
    go_ret
    exact ⟨rfl, ext_alloc _ _⟩
theorem run_catS (a b c : ByteArray) (hc : c = a ++ b) (h : a.size + b.size ≤ 1000000) (W : World) : (Op.stringOp .add a b).run Tryd.prog W = .ok (.string c) W := by
  subst hc
  exact run_string_add_sum W a b (by omega)
set_option maxHeartbeats 2000000 in
theorem sides_any (v : Value) (l : List Ev) (w : World) (HL : Laid w) (h : IsSlice repEv w (all w) v l) (hl : l.length ≤ 100) (hd : ∀ x ∈ l, x.data.length ≤ 200) :
    Calls Tryd.prog 20 #[v] w fun e w' => ∃ u, e = .returned u ∧ IsSlice repString w' (fresh w w') u (sidesL l) ∧ Ext w w' := by
  obtain ⟨A, n, c, rfl, hnc, hcm, hrow⟩ := h
  have hn := hrow.1
  have HN := hid hn
  have hn1 : n ≤ 100 := by omega
  have HLL := hid HL
  have HD := hid hd
  clear hn hl HL hd
  go_enter Tryd.func20, Tryd.ntmps20
  go_wp2
  go_loopw [3, 9] (fun u i wr => ∃ j : Nat, j ≤ n ∧ i = .int .i64 (j : Int) ∧ Wall (Own repString 9 w.heap.size wr u (sidesL (l.take j)) ∧ Ext w wr)) (fun _ i _ => n - (intOf i).toNat)
  case atStart => exact ⟨0, Nat.zero_le _, rfl, hid ⟨own_nil _ _ _ _, Below.refl _ _⟩⟩
  case round =>
    obtain ⟨j, hj, rfl, HP⟩ := hrel
    by_cases hjl : j < n
    · obtain ⟨b, off, x, A1, m1, c1, rfl, hx, hs, hm, p0, p1, p2, p3⟩ := hrow.evE HP.out.2 hjl
      have hxd := HD.out x (List.mem_of_getElem? hx)
      have hct := sidesL_snoc (l.take j) x
      rw [← take_succ_of hx] at hct
      have hll := sidesL_len (l.take j)
      rw [List.length_take] at hll
      have hll2 : (sidesL (l.take j)).length ≤ 100 := by omega
      have hsa : IsSlice repByte wr (all wr) (.slice A1 m1 c1) x.data := hs.ext HP.out.2
      obtain ⟨xs, xk, xp, xd⟩ := x
      simp only at p0 p1 p2 p3 hct hxd hsa hm
      have hxa := ext_alloc wr (.cells #[.int .i64 xs, .int .i64 xk, .int .i64 xp, .slice A1 m1 c1] 24)
      have HSH := hid (show_any xs xk xp _ xd _ (HLL.out.ext (Ext.trans HP.out.2 hxa)) (hsa.ext hxa) (by omega))
      have HLE := hid fun W => left_any xs xk xp (.slice A1 m1 c1) xd W A1 m1 c1 rfl
      have hsl := showG_len (e := ⟨xs, xk, xp, xd⟩) hxd
      obtain ⟨LE, hLE⟩ : ∃ LE, LE = leftL ⟨xs, xk, xp, xd⟩ := ⟨_, rfl⟩
      rw [← hLE] at HLE
      have hsd : sideL ⟨xs, xk, xp, xd⟩ = if LE = true then bstr (showG ⟨xs, xk, xp, xd⟩) else bstr blanksL ++ bstr (showG ⟨xs, xk, xp, xd⟩) := by unfold sideL; rw [hLE]
      obtain ⟨T, hT⟩ : ∃ T, T = bstr (showG ⟨xs, xk, xp, xd⟩) := ⟨_, rfl⟩
      rw [← hT] at HSH hsd
      have hTl : T.toList = showG ⟨xs, xk, xp, xd⟩ := by rw [hT, bstr_list]
      have hTs : T.size ≤ 500 := by rw [hT, bstr_size]; exact hsl
      rw [hsd] at hct
      obtain ⟨L, hL⟩ : ∃ L, L = sidesL (l.take j) := ⟨_, rfl⟩
      rw [← hL] at HP hll2 hct
      have hbE := Blk.new wr 24 #[.int .i64 xs, .int .i64 xk, .int .i64 xp, .slice A1 m1 c1]
      have HA := hid (⟨HP.out.1.ext hxa, Ext.trans HP.out.2 hxa⟩ : Own repString 9 w.heap.size (wr.alloc (.cells #[.int .i64 xs, .int .i64 xk, .int .i64 xp, .slice A1 m1 c1] 24)) u3 L ∧ Ext w (wr.alloc (.cells #[.int .i64 xs, .int .i64 xk, .int .i64 xp, .slice A1 m1 c1] 24)))
      have HBE := hid fun W (he : Ext (wr.alloc (.cells #[.int .i64 xs, .int .i64 xk, .int .i64 xp, .slice A1 m1 c1] 24)) W) => hbE.ext he
      have HRP := hid repeat_any
      clear hx hs hm hxd hsa hT hL hll hxa HP hbE hLE hsd hsl
      by_cases hsb : showable ⟨xs, xk, xp, xd⟩ = true
      · have e0 : T.toList ≠ [] := by rw [hTl]; exact show_ne hsb
        have e1 : T.toList.isEmpty = false := by simpa using e0
        rw [if_pos hsb] at hct
        have HCT := hid hct
        clear hsb hTl hct
        go_upto_region 7 with (go_at_call 10; refine HSH.out.mono ?_; rintro e w5 ⟨rfl, hx5⟩)
        have hb5 := HBE.out w5 hx5
        have r0 := hb5.cell 0
        have r1 := hb5.cell 1
        have r2 := hb5.cell 2
        have r3 := hb5.cell 3
        have HB := hid (⟨HA.out.1.ext hx5, Ext.trans HA.out.2 hx5⟩ : Own repString 9 w.heap.size w5 u3 L ∧ Ext w w5)
        clear hx5 HA p0 p1 p2 p3 hb5 HBE
        cases LE with
        | true =>
          simp only [if_true] at HCT
          go_wp2_with (first
            | (go_at_call 40; refine (HLE.out _).mono ?_; rintro e w6 ⟨rfl, hx6⟩)
            | (at_builtin; refine wpl_app1 (r := repString) (base := w.heap.size) (x := T) (cs := #[.string T]) _ _ rfl rfl Tryd.underlying36 info_str (by decide) (HB.out.1.ext hx6) rfl rfl rfl rfl (by omega) (by simp only [maxLen]; omega) (Ext.trans HB.out.2 hx6).size ?_; intro v' w9 hown9 hg9))
          go_roundw
          case rel => exact ⟨j + 1, by omega, by go_num, hid ⟨by rw [HCT.out]; exact hown9, Below.grown (Ext.trans HB.out.2 hx6) hg9 (Ext.trans HB.out.2 hx6).size (fun k hk => (HB.out.1.lt k hk).1)⟩⟩
          case measure => simp [intOf]; omega
        | false =>
          simp only [Bool.false_eq_true, if_false] at HCT
          have hbs : (bstr blanksL).size = 30 := rfl
          obtain ⟨BL, hBL⟩ : ∃ BL, BL = bstr blanksL := ⟨_, rfl⟩
          rw [← hBL] at HRP HCT hbs
          have hcat := run_catS BL T (BL ++ T) rfl (by omega)
          obtain ⟨SD, hSD⟩ : ∃ SD, SD = BL ++ T := ⟨_, rfl⟩
          rw [← hSD] at hcat HCT
          clear hBL hSD hbs
          go_wp2_with (first
            | (go_at_call 40; refine (HLE.out _).mono ?_; rintro e w6 ⟨rfl, hx6⟩)
            | (go_at_call 41; refine (HRP.out _).mono ?_; rintro e w7 ⟨rfl, hx7⟩; have hx67 := Ext.trans hx6 hx7)
            | (at_builtin; refine wpl_app1 (r := repString) (base := w.heap.size) (x := SD) (cs := #[.string SD]) _ _ rfl rfl Tryd.underlying36 info_str (by decide) (HB.out.1.ext hx67) rfl rfl rfl rfl (by omega) (by simp only [maxLen]; omega) (Ext.trans HB.out.2 hx67).size ?_; intro v' w9 hown9 hg9))
          go_roundw
          case rel => exact ⟨j + 1, by omega, by go_num, hid ⟨by rw [HCT.out]; exact hown9, Below.grown (Ext.trans HB.out.2 hx67) hg9 (Ext.trans HB.out.2 hx67).size (fun k hk => (HB.out.1.lt k hk).1)⟩⟩
          case measure => simp [intOf]; omega
      · have e0 : T.toList = [] := by rw [hTl]; exact showG_neg (by simpa using hsb)
        have e1 : T.toList.isEmpty = true := by rw [e0]; rfl
        rw [if_neg hsb, List.append_nil] at hct
        have HCT := hid hct
        clear hsb hTl hct
        go_wp2_with (go_at_call 10; refine HSH.out.mono ?_; rintro e w5 ⟨rfl, hx5⟩)
        go_roundw
        case rel => exact ⟨j + 1, by omega, by go_num, hid ⟨by rw [HCT.out]; exact HA.out.1.ext hx5, Ext.trans HA.out.2 hx5⟩⟩
        case measure => simp [intOf]; omega
    · obtain rfl : j = n := by omega
      rw [List.take_of_length_le (by rw [HN.out]; exact Nat.le_refl _)] at HP
      go_wp2
      go_ret
      exact ⟨_, rfl, HP.out.1.fresh, HP.out.2⟩
end
end Go.Proofs.YtimlbebockfioaaDoor
