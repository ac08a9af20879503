/- The walks of huge and of Lines. -/
import Derived.Test.YtimlbebockfioaaDoorChartLv
namespace Go.Proofs.YtimlbebockfioaaDoor
open Go.RowKit

def bigE (x : Ev) : Bool := decide (200 < x.data.length)
def hugeE (l : List Ev) : Bool := (l.take 200).any bigE || decide (100 < l.length)
theorem hugeE_no {l : List Ev} (h : hugeE l = false) : l.length ≤ 100 ∧ ∀ x ∈ l, x.data.length ≤ 200 := by
  unfold hugeE at h
  rw [Bool.or_eq_false_iff] at h
  have hl : l.length ≤ 100 := by have := of_decide_eq_false h.2; omega
  refine ⟨hl, fun x hx => ?_⟩
  rw [List.take_of_length_le (by omega), List.any_eq_false] at h
  have h1 := h.1 x hx
  unfold bigE at h1
  simp at h1
  exact h1
def linesL (l : List Ev) : List ByteArray := (l.filter showable).map fun e => bstr (showG e)
theorem linesL_snoc (l : List Ev) (e : Ev) : linesL (l ++ [e]) = linesL l ++ (if showable e = true then [bstr (showG e)] else []) := by
  unfold linesL
  rw [List.filter_append, List.map_append]
  congr 1
  by_cases h : showable e = true
  · simp [h]
  · have h2 : showable e = false := by simpa using h
    simp [h2]
theorem linesL_len (l : List Ev) : (linesL l).length ≤ l.length := by
  unfold linesL
  rw [List.length_map]
  exact List.length_filter_le _ _
theorem showG_len {e : Ev} (hd : e.data.length ≤ 200) : (showG e).length ≤ 500 := by
  by_cases hs : showable e = true
  · rw [showG_pos hs]
    obtain ⟨hk, hs1, hp1⟩ := showable_iff.1 hs
    have i1 := itoa_len hs1.1 hs1.2
    have i2 := itoa_len hp1.1 hp1.2
    have i3 := (wordK_ne hk).2
    have i4 := dataG_len e.data
    simp only [List.length_append, List.length_cons, List.length_nil]
    omega
  · rw [showG_neg (by simpa using hs)]
    simp
theorem info_str : ElemInfo Tryd.prog 9 1 16 := elemInfo (z := .string ByteArray.empty) (by kernel_rfl) rfl
set_option maxRecDepth 100000
section
set_option maxHeartbeats 1000000 in
theorem hugeE_any (v : Value) (l : List Ev) (w : World) (h : IsSlice repEv w (all w) v l) :
    Calls Tryd.prog 15 #[v] w fun e w' => e = .returned (.bool (hugeE l)) ∧ w = w' := by
  obtain ⟨A, n, c, rfl, hnc, hcm, hrow⟩ := h
  have hn := hrow.1
  unfold maxLen at hcm
  have HN := hid hn
  obtain ⟨R, hR⟩ : ∃ R, R = hugeE l := ⟨_, rfl⟩
  rw [← hR]
  have HR := hid hR
  clear hn hR
  go_enter Tryd.func15, Tryd.ntmps15
  go_wp2
  go_loop [3] (fun i => ∃ j : Nat, j ≤ n ∧ j ≤ 200 ∧ i = .int .i64 j ∧ Wall ((l.take j).any bigE = false)) (fun i => 200 - (intOf i).toNat)
  case atStart => exact ⟨0, Nat.zero_le _, Nat.zero_le _, rfl, hid (by simp)⟩
  case round =>
    obtain ⟨j, hj, hj2, rfl, hJ⟩ := hrel
    by_cases hlt : j < n
    · by_cases hlt2 : j < 200
      · obtain ⟨b, off, x, A1, m1, c1, rfl, hx, hs, hm1, p0, p1, p2, p3⟩ := hrow.evE (Below.refl _ _) hlt
        have htk := take_succ_of hx
        by_cases hb : 200 < m1
        · have hR1 : R = true := by
            rw [HR.out]
            unfold hugeE
            rw [Bool.or_eq_true]
            left
            rw [List.any_eq_true]
            refine ⟨x, List.mem_take_iff_getElem.2 ⟨j, by have := lt_of_get hx; omega, by rw [List.getElem?_eq_getElem (lt_of_get hx)] at hx; injection hx⟩, ?_⟩
            unfold bigE
            exact decide_eq_true (by omega)
          subst hR1
          have hB : decide (200 < m1) = true := decide_eq_true hb
          have hB2 : decide ((200 : Int) < (m1 : Int)) = true := decide_eq_true (by omega)
          clear hx htk HR hs hm1 hb
          go_wp2
          go_ret
          exact ⟨rfl, rfl⟩
        · have hJ2 : (l.take (j + 1)).any bigE = false := by
            rw [htk, List.any_append, hJ.out, Bool.false_or]
            simp only [List.any_cons, List.any_nil, Bool.or_false]
            unfold bigE
            exact decide_eq_false (by omega)
          have HJ2 := hid hJ2
          have hB : decide (200 < m1) = false := decide_eq_false hb
          have hB2 : decide ((200 : Int) < (m1 : Int)) = false := decide_eq_false (by omega)
          clear hx htk hJ2 hJ hs hm1 hb
          go_wp2
          go_round
          case rel => exact ⟨j + 1, by omega, by omega, by go_num, HJ2⟩
          case measure => simp [intOf]; omega
      · have hR1 : R = true := by
          rw [HR.out]
          unfold hugeE
          rw [decide_eq_true (show 100 < l.length by have := HN.out; omega)]
          simp
        have hB3 : decide ((j : Int) < 200) = false := decide_eq_false (by omega)
        have hB4 : decide (j < 200) = false := decide_eq_false (by omega)
        have hB1 : decide (100 < n) = true := decide_eq_true (by omega)
        have hB2 : decide ((100 : Int) < (n : Int)) = true := decide_eq_true (by omega)
        subst hR1
        clear hJ HR
        go_wp2
        go_ret
        exact ⟨rfl, rfl⟩
    · obtain rfl : j = n := by omega
      have hR1 : R = decide (100 < j) := by
        rw [HR.out]
        unfold hugeE
        rw [show l.take 200 = l.take j from by rw [List.take_of_length_le (by have := HN.out; omega), List.take_of_length_le (by have := HN.out; omega)], hJ.out, HN.out, Bool.false_or]
      have HR1 := hid hR1
      clear hR1 hJ
      by_cases hb : 100 < j
      · have hB1 : decide (100 < j) = true := decide_eq_true hb
        have hB2 : decide ((100 : Int) < (j : Int)) = true := decide_eq_true (by omega)
        go_wp2
        go_ret
        exact ⟨ret_bool (by rw [HR1.out, hB1]), rfl⟩
      · have hB1 : decide (100 < j) = false := decide_eq_false hb
        have hB2 : decide ((100 : Int) < (j : Int)) = false := decide_eq_false (by omega)
        go_wp2
        go_ret
        exact ⟨ret_bool (by rw [HR1.out, hB1]), rfl⟩
set_option maxHeartbeats 1000000 in
theorem lines_any (v : Value) (l : List Ev) (w : World) (HL : Laid w) (h : IsSlice repEv w (all w) v l) (hl : l.length ≤ 100) (hd : ∀ x ∈ l, x.data.length ≤ 200) :
    Calls Tryd.prog 16 #[v] w fun e w' => ∃ u, e = .returned u ∧ IsSlice repString w' (fresh w w') u (linesL l) ∧ Ext w w' := by
  obtain ⟨A, n, c, rfl, hnc, hcm, hrow⟩ := h
  have hn := hrow.1
  have HN := hid hn
  have hn1 : n ≤ 100 := by omega
  have HLL := hid HL
  have HD := hid hd
  clear hn hl HL hd
  go_enter Tryd.func16, Tryd.ntmps16
  go_wp2
  go_loopw [3, 9] (fun u i wr => ∃ j : Nat, j ≤ n ∧ i = .int .i64 (j : Int) ∧ Wall (Own repString 9 w.heap.size wr u (linesL (l.take j)) ∧ Ext w wr)) (fun _ i _ => n - (intOf i).toNat)
  case atStart => exact ⟨0, Nat.zero_le _, rfl, hid ⟨own_nil _ _ _ _, Below.refl _ _⟩⟩
  case round =>
    obtain ⟨j, hj, rfl, HP⟩ := hrel
    by_cases hjl : j < n
    · obtain ⟨b, off, x, A1, m1, c1, rfl, hx, hs, hm, p0, p1, p2, p3⟩ := hrow.evE HP.out.2 hjl
      have hxd := HD.out x (List.mem_of_getElem? hx)
      have hct := linesL_snoc (l.take j) x
      rw [← take_succ_of hx] at hct
      have hll := linesL_len (l.take j)
      rw [List.length_take] at hll
      have hll2 : (linesL (l.take j)).length ≤ 100 := by omega
      have hsa : IsSlice repByte wr (all wr) (.slice A1 m1 c1) x.data := hs.ext HP.out.2
      obtain ⟨xs, xk, xp, xd⟩ := x
      simp only at p0 p1 p2 p3 hct hxd hsa hm
      have hxa := ext_alloc wr (.cells #[.int .i64 xs, .int .i64 xk, .int .i64 xp, .slice A1 m1 c1] 24)
      have HSH := hid (show_any xs xk xp _ xd _ (HLL.out.ext (Ext.trans HP.out.2 hxa)) (hsa.ext hxa) (by omega))
      obtain ⟨T, hT⟩ : ∃ T, T = bstr (showG ⟨xs, xk, xp, xd⟩) := ⟨_, rfl⟩
      rw [← hT] at HSH hct
      have hTl : T.toList = showG ⟨xs, xk, xp, xd⟩ := by rw [hT, bstr_list]
      obtain ⟨L, hL⟩ : ∃ L, L = linesL (l.take j) := ⟨_, rfl⟩
      rw [← hL] at HP hll2 hct
      have hbE := Blk.new wr 24 #[.int .i64 xs, .int .i64 xk, .int .i64 xp, .slice A1 m1 c1]
      have HA := hid (⟨HP.out.1.ext hxa, Ext.trans HP.out.2 hxa⟩ : Own repString 9 w.heap.size (wr.alloc (.cells #[.int .i64 xs, .int .i64 xk, .int .i64 xp, .slice A1 m1 c1] 24)) u3 L ∧ Ext w (wr.alloc (.cells #[.int .i64 xs, .int .i64 xk, .int .i64 xp, .slice A1 m1 c1] 24)))
      clear hx hs hm hxd hsa hT hL hll hxa HP
      by_cases hsb : showable ⟨xs, xk, xp, xd⟩ = true
      · have e0 : T.toList ≠ [] := by rw [hTl]; exact show_ne hsb
        have e1 : T.toList.isEmpty = false := by simpa using e0
        rw [if_pos hsb] at hct
        have HCT := hid hct
        clear hsb hTl hct hbE
        go_upto_region 7 with (go_at_call 10; refine HSH.out.mono ?_; rintro e w5 ⟨rfl, hx5⟩)
        have HB := hid (⟨HA.out.1.ext hx5, Ext.trans HA.out.2 hx5⟩ : Own repString 9 w.heap.size w5 u3 L ∧ Ext w w5)
        clear hx5 HA p0 p1 p2 p3
        go_wp2_with (at_builtin; refine wpl_app1 (r := repString) (base := w.heap.size) (x := T) (cs := #[.string T]) _ _ rfl rfl Tryd.underlying36 info_str (by decide) HB.out.1 rfl rfl rfl rfl (by omega) (by simp only [maxLen]; omega) HB.out.2.size ?_; intro v' w9 hown9 hg9)
        go_roundw
        case rel => exact ⟨j + 1, by omega, by go_num, hid ⟨by rw [HCT.out]; exact hown9, Below.grown HB.out.2 hg9 HB.out.2.size (fun k hk => (HB.out.1.lt k hk).1)⟩⟩
        case measure => simp [intOf]; omega
      · have e0 : T.toList = [] := by rw [hTl]; exact showG_neg (by simpa using hsb)
        have e1 : T.toList.isEmpty = true := by rw [e0]; rfl
        rw [if_neg hsb, List.append_nil] at hct
        have HCT := hid hct
        clear hsb hTl hct hbE
        go_wp2_with (go_at_call 10; refine HSH.out.mono ?_; rintro e w5 ⟨rfl, hx5⟩)
        go_roundw
        case rel => exact ⟨j + 1, by omega, by go_num, hid ⟨by rw [HCT.out]; exact HA.out.1.ext hx5, Ext.trans HA.out.2 hx5⟩⟩
        case measure => simp [intOf]; omega
    · obtain rfl : j = n := by omega
      rw [List.take_of_length_le (by rw [HN.out]; exact Nat.le_refl _)] at HP
      go_wp2
      go_ret
      exact ⟨_, rfl, HP.out.1.fresh, HP.out.2⟩
end
end Go.Proofs.YtimlbebockfioaaDoor
