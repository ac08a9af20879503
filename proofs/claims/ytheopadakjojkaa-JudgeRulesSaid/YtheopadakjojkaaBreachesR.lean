/- The walks of Breaches: the other cases. -/
import Derived.Test.YtheopadakjojkaaBreaches
namespace Go.Proofs.Ytheopadakjojkaa
open Go.RowKit

set_option maxRecDepth 100000
section
theorem breaches_no6 (v : Value) (xs : List Ev) (n q : Int) (w : World) (h : IsSlice repEv w (all w) v xs) (hm : Mild xs) (h6 : (nums xs 6).isEmpty = false) :
    Calls Try.prog 75 #[v, .int .i64 n, .int .i64 q] w (SomeBr [] w) := by
  have hl := hm.few
  have hcl := clean_any v xs w h (by omega)
  rw [h6] at hcl
  have HCL := hid hcl
  clear hcl h6 hm
  obtain ⟨A0, n0, c0, rfl, _⟩ := h
  go_enter Try.func75, Try.ntmps75
  go_wp2_with fail
  refine HCL.out.mono ?_
  rintro r w1 ⟨rfl, hx1⟩
  go_wp2
  go_ret
  exact ⟨_, rfl, isSlice_nil _ _ _, hx1⟩
theorem breachesR_no6 (v : Value) (xs : List Ev) (n q : Int) (w : World) (h : IsSlice repEv w (all w) v xs) (hm : Mild xs) (h6 : (nums xs 6).isEmpty = false) :
    Calls Try.prog 76 #[v, .int .i64 n, .int .i64 q] w (SomeBr [] w) := by
  have hl := hm.few
  have hl6 := notEmpty_len h6
  have HNR := hid (numbersR_any v xs 6 w h (by omega))
  clear h6 hm
  obtain ⟨A0, n0, c0, rfl, _⟩ := h
  go_enter Try.func76, Try.ntmps76
  go_wp2_with fail
  refine HNR.out.mono ?_
  rintro r w1 ⟨u, rfl, hu, hx1⟩
  obtain ⟨B, cb, rfl⟩ := hu.shape
  clear hu
  generalize (nums xs 6).length = m6 at *
  go_wp2
  go_ret
  exact ⟨_, rfl, isSlice_nil _ _ _, hx1⟩
theorem breaches_no5 (v : Value) (xs : List Ev) (n q : Int) (w : World) (h : IsSlice repEv w (all w) v xs) (hm : Mild xs) (hn : n ≠ 3) (h6 : (nums xs 6).isEmpty = true) (h5 : (nums xs 5).isEmpty = false) :
    Calls Try.prog 75 #[v, .int .i64 n, .int .i64 q] w (SomeBr [] w) := by
  have hl := hm.few
  have hn3 : (n != 3) = true := by simpa using hn
  have hcl := clean_any v xs w h (by omega)
  rw [h6] at hcl
  have HCL := hid hcl
  have hca := fun w1 (hx : Ext w w1) => calm_any v xs w1 (h.ext hx) (by omega)
  rw [h5] at hca
  have HCA := hid hca
  clear hcl hca h6 h5 hm
  obtain ⟨A0, n0, c0, rfl, _⟩ := h
  go_enter Try.func75, Try.ntmps75
  go_wp2_with fail
  refine HCL.out.mono ?_
  rintro r w1 ⟨rfl, hx1⟩
  go_wp2_with fail
  refine (HCA.out _ hx1).mono ?_
  rintro r w2 ⟨rfl, hx2⟩
  go_wp2
  go_ret
  exact ⟨_, rfl, isSlice_nil _ _ _, Ext.trans hx1 hx2⟩
theorem breaches_other (v : Value) (xs : List Ev) (n q : Int) (w : World) (h : IsSlice repEv w (all w) v xs) (hm : Mild xs) (h1 : n ≠ 1) (h2 : n ≠ 2) (hn : n ≠ 3) (h6 : (nums xs 6).isEmpty = true) (h5 : (nums xs 5).isEmpty = true) :
    Calls Try.prog 75 #[v, .int .i64 n, .int .i64 q] w (SomeBr [] w) := by
  have hl := hm.few
  have hn3 : (n != 3) = true := by simpa using hn
  have hcl := clean_any v xs w h (by omega)
  rw [h6] at hcl
  have HCL := hid hcl
  have hca := fun w1 (hx : Ext w w1) => calm_any v xs w1 (h.ext hx) (by omega)
  rw [h5] at hca
  have HCA := hid hca
  have HR := hid (fun w => rules0_any n q w h1 h2 hn)
  clear hcl hca h6 h5 hm h1 h2 hn
  obtain ⟨A0, n0, c0, rfl, _⟩ := h
  go_enter Try.func75, Try.ntmps75
  go_wp2_with fail
  refine HCL.out.mono ?_
  rintro r w1 ⟨rfl, hx1⟩
  go_wp2_with fail
  refine (HCA.out _ hx1).mono ?_
  rintro r w2 ⟨rfl, hx2⟩
  go_wp2_with fail
  refine (HR.out _).mono ?_
  rintro r w3 ⟨rfl, hx3⟩
  go_wp2
  go_loopw [7, 26] (fun o i wr => o = .slice none 0 0 ∧ i = .int .i64 0 ∧ wr = w3) (fun _ i _ => 0)
  case atStart => exact ⟨rfl, rfl, rfl⟩
  case round =>
    obtain ⟨rfl, rfl, rfl⟩ := hrel
    go_wp2
    go_ret
    exact ⟨_, rfl, isSlice_nil _ _ _, Ext.trans (Ext.trans hx1 hx2) hx3⟩
theorem breachesR_other (v : Value) (xs : List Ev) (n q : Int) (w : World) (h : IsSlice repEv w (all w) v xs) (hm : Mild xs) (h1 : n ≠ 1) (h2 : n ≠ 2) (hn : n ≠ 3) (h6 : (nums xs 6).isEmpty = true) :
    Calls Try.prog 76 #[v, .int .i64 n, .int .i64 q] w (SomeBr [] w) := by
  have hl := hm.few
  have hl6 := isEmpty_len h6
  have b1 : (n != 1) = true := by simpa using h1
  have b2 : (n != 2) = true := by simpa using h2
  have b3 : (n == 3) = false := by simpa using hn
  have HNR := hid (numbersR_any v xs 6 w h (by omega))
  clear h6 hm h1 h2 hn
  obtain ⟨A0, n0, c0, rfl, _⟩ := h
  go_enter Try.func76, Try.ntmps76
  go_wp2_with fail
  refine HNR.out.mono ?_
  rintro r w1 ⟨u, rfl, hu, hx1⟩
  obtain ⟨B, cb, rfl⟩ := hu.shape
  rw [hl6]
  clear hu hl6
  go_wp2
  go_ret
  exact ⟨_, rfl, isSlice_nil _ _ _, hx1⟩
theorem breachesR1_no5 (v : Value) (xs : List Ev) (q : Int) (w : World) (h : IsSlice repEv w (all w) v xs) (hm : Mild xs) (h6 : (nums xs 6).isEmpty = true) (h5 : (nums xs 5).isEmpty = false) :
    Calls Try.prog 76 #[v, .int .i64 1, .int .i64 q] w (SomeBr [] w) := by
  have hl := hm.few
  have hl6 := isEmpty_len h6
  have hl5 := notEmpty_len h5
  have HNR := hid (numbersR_any v xs 6 w h (by omega))
  have HN5 := hid (fun w1 (hx : Ext w w1) => numbersR_any v xs 5 w1 (h.ext hx) (by omega))
  clear h6 h5 hm
  obtain ⟨A0, n0, c0, rfl, _⟩ := h
  go_enter Try.func76, Try.ntmps76
  go_wp2_with fail
  refine HNR.out.mono ?_
  rintro r w1 ⟨u, rfl, hu, hx1⟩
  obtain ⟨B, cb, rfl⟩ := hu.shape
  rw [hl6]
  clear hu hl6
  go_wp2_with fail
  refine (HN5.out _ hx1).mono ?_
  rintro r w2 ⟨u2, rfl, hu2, hx2⟩
  obtain ⟨B2, cb2, rfl⟩ := hu2.shape
  clear hu2
  generalize (nums xs 5).length = m5 at *
  go_wp2
  go_ret
  exact ⟨_, rfl, isSlice_nil _ _ _, Ext.trans hx1 hx2⟩
theorem breachesR2_no5 (v : Value) (xs : List Ev) (q : Int) (w : World) (h : IsSlice repEv w (all w) v xs) (hm : Mild xs) (h6 : (nums xs 6).isEmpty = true) (h5 : (nums xs 5).isEmpty = false) :
    Calls Try.prog 76 #[v, .int .i64 2, .int .i64 q] w (SomeBr [] w) := by
  have hl := hm.few
  have hl6 := isEmpty_len h6
  have hl5 := notEmpty_len h5
  have HNR := hid (numbersR_any v xs 6 w h (by omega))
  have HN5 := hid (fun w1 (hx : Ext w w1) => numbersR_any v xs 5 w1 (h.ext hx) (by omega))
  clear h6 h5 hm
  obtain ⟨A0, n0, c0, rfl, _⟩ := h
  go_enter Try.func76, Try.ntmps76
  go_wp2_with fail
  refine HNR.out.mono ?_
  rintro r w1 ⟨u, rfl, hu, hx1⟩
  obtain ⟨B, cb, rfl⟩ := hu.shape
  rw [hl6]
  clear hu hl6
  go_wp2_with fail
  refine (HN5.out _ hx1).mono ?_
  rintro r w2 ⟨u2, rfl, hu2, hx2⟩
  obtain ⟨B2, cb2, rfl⟩ := hu2.shape
  clear hu2
  generalize (nums xs 5).length = m5 at *
  go_wp2
  go_ret
  exact ⟨_, rfl, isSlice_nil _ _ _, Ext.trans hx1 hx2⟩
set_option maxHeartbeats 1600000 in
theorem breachesR1_any (v : Value) (xs : List Ev) (q : Int) (w : World) (h : IsSlice repEv w (all w) v xs) (hm : Mild xs) (h6 : (nums xs 6).isEmpty = true) (h5 : (nums xs 5).isEmpty = true) :
    Calls Try.prog 76 #[v, .int .i64 1, .int .i64 q] w (SomeBr (outAll [(sPrefix, pb (PrefP xs))]) w) := by
  have hl := hm.few
  have HM := hid hm
  have hl6 := isEmpty_len h6
  have hl5 := isEmpty_len h5
  have HNR := hid (numbersR_any v xs 6 w h (by omega))
  have HN5 := hid (fun w1 (hx : Ext w w1) => numbersR_any v xs 5 w1 (h.ext hx) (by omega))
  have hv := h
  clear h6 h5 hm
  obtain ⟨A0, n0, c0, rfl, _⟩ := h
  obtain ⟨L, hL⟩ : ∃ L : List (ByteArray × Bool), L = [(sPrefix, pb (PrefP xs))] := ⟨_, rfl⟩
  have HL0 : Hid (L[0]? = some (sPrefix, pb (PrefP xs))) := by rw [hL]; exact rfl
  have HLL : Hid (L.length = 1) := by rw [hL]; exact rfl
  have HLEQ := hid hL
  clear hL
  go_enter Try.func76, Try.ntmps76
  go_wp2_with fail
  refine HNR.out.mono ?_
  rintro r w1 ⟨u, rfl, hu, hx1⟩
  obtain ⟨B, cb, rfl⟩ := hu.shape
  rw [hl6]
  clear hu hl6
  go_wp2_with fail
  refine (HN5.out _ hx1).mono ?_
  rintro r w2 ⟨u2, rfl, hu2, hx2⟩
  obtain ⟨B2, cb2, rfl⟩ := hu2.shape
  rw [hl5]
  clear hu2 hl5
  have hx02 := Ext.trans hx1 hx2
  go_wp2_with fail
  refine (ofR_any _ _ _ _ (hv.ext hx02) (by omega) HM.out.data).mono ?_
  rintro r w3 ⟨v3, rfl, hv3, hx3⟩
  have hx03 := Ext.trans hx02 hx3
  go_wp2_with fail
  refine (ofR_any _ _ _ _ (hv.ext hx03) (by omega) HM.out.data).mono ?_
  rintro r w4 ⟨v4, rfl, hv4, hx4⟩
  have hx04 := Ext.trans hx03 hx4
  go_wp2_with fail
  refine (prefixR_any _ _ _ _ _ (hv3.any.ext hx4) hv4.any).mono ?_
  obtain ⟨b0, hb0⟩ : ∃ b0, b0 = preB (texts xs 2) (texts xs 0) := ⟨_, rfl⟩
  rw [← hb0]
  rintro r v0 ⟨rfl, k0, rfl⟩
  have hst0 := outTo_step HL0.out
  rw [pb_eq (b := b0) (P := PrefP xs) (by rw [hb0]; exact Iff.rfl)] at hst0
  have HST0 := hid hst0
  clear hst0 hb0 hv3 hv4
  have hx05 : Ext w (w4.drewN k0) := Ext.trans hx04 (ext_drewN _ _)
  generalize w4.drewN k0 = w5 at *
  have hownv0 : Own repString 9 w5.heap.size w5 (.slice none 0 0) (outTo L 0) := own_nil _ _ _ _
  have hlen0 := outTo_len L 0
  have HLEN0 := hid hlen0
  clear hlen0
  go_upto_if 56 with fail
  go_cut [7] (fun o wx => Own repString 9 w5.heap.size wx o (outTo L 1) ∧ Ext w5 wx)
  case first =>
    cases b0
    · go_wp2_with (at_builtin; refine wpl_app1 (r := repString) (base := w5.heap.size) (x := sPrefix) _ _ rfl rfl Try.underlying100 info_string (by decide) hownv0 rfl rfl rfl rfl (by have := HLEN0.out; omega) (by have := HLEN0.out; simp only [maxLen]; omega) (Nat.le_refl _) ?_; intro v6 w6 hown6 hg6)
      go_meet
      exact ⟨by rw [HST0.out]; exact hown6, Below.grown (Below.refl _ _) hg6 (Nat.le_refl _) (fun j hj => (hownv0.lt j hj).1)⟩
    · go_wp2_with fail
      go_meet
      exact ⟨by rw [HST0.out]; simpa [keepN] using hownv0, Below.refl _ _⟩
  case rest =>
  obtain ⟨hown0x, hext0x⟩ := hcut
  go_wp2
  go_ret
  exact ⟨_, rfl, by rw [← HLEQ.out, ← outTo_all (show L.length ≤ 1 by rw [HLL.out]; omega)]; exact hown0x.slice, Ext.trans hx05 hext0x⟩
set_option maxHeartbeats 1600000 in
theorem breachesR2_any (v : Value) (xs : List Ev) (q : Int) (w : World) (h : IsSlice repEv w (all w) v xs) (hm : Mild xs) (h6 : (nums xs 6).isEmpty = true) (h5 : (nums xs 5).isEmpty = true) :
    Calls Try.prog 76 #[v, .int .i64 2, .int .i64 q] w (SomeBr (outAll [(sPrefix, pb (PrefP xs)), (sWindow, pb (WinP xs q))]) w) := by
  have hl := hm.few
  have HM := hid hm
  have hl6 := isEmpty_len h6
  have hl5 := isEmpty_len h5
  have HNR := hid (numbersR_any v xs 6 w h (by omega))
  have HN5 := hid (fun w1 (hx : Ext w w1) => numbersR_any v xs 5 w1 (h.ext hx) (by omega))
  have hv := h
  clear h6 h5 hm
  obtain ⟨A0, n0, c0, rfl, _⟩ := h
  obtain ⟨L, hL⟩ : ∃ L : List (ByteArray × Bool), L = [(sPrefix, pb (PrefP xs)), (sWindow, pb (WinP xs q))] := ⟨_, rfl⟩
  have HL0 : Hid (L[0]? = some (sPrefix, pb (PrefP xs))) := by rw [hL]; exact rfl
  have HL1 : Hid (L[1]? = some (sWindow, pb (WinP xs q))) := by rw [hL]; exact rfl
  have HLL : Hid (L.length = 2) := by rw [hL]; exact rfl
  have HLEQ := hid hL
  clear hL
  go_enter Try.func76, Try.ntmps76
  go_wp2_with fail
  refine HNR.out.mono ?_
  rintro r w1 ⟨u, rfl, hu, hx1⟩
  obtain ⟨B, cb, rfl⟩ := hu.shape
  rw [hl6]
  clear hu hl6
  go_wp2_with fail
  refine (HN5.out _ hx1).mono ?_
  rintro r w2 ⟨u2, rfl, hu2, hx2⟩
  obtain ⟨B2, cb2, rfl⟩ := hu2.shape
  rw [hl5]
  clear hu2 hl5
  have hx02 := Ext.trans hx1 hx2
  go_wp2_with fail
  refine (ofR_any _ _ _ _ (hv.ext hx02) (by omega) HM.out.data).mono ?_
  rintro r w3 ⟨v3, rfl, hv3, hx3⟩
  have hx03 := Ext.trans hx02 hx3
  go_wp2_with fail
  refine (ofR_any _ _ _ _ (hv.ext hx03) (by omega) HM.out.data).mono ?_
  rintro r w4 ⟨v4, rfl, hv4, hx4⟩
  have hx04 := Ext.trans hx03 hx4
  go_wp2_with fail
  refine (prefixR_any _ _ _ _ _ (hv3.any.ext hx4) hv4.any).mono ?_
  obtain ⟨b0, hb0⟩ : ∃ b0, b0 = preB (texts xs 2) (texts xs 0) := ⟨_, rfl⟩
  rw [← hb0]
  rintro r v0 ⟨rfl, k0, rfl⟩
  have hst0 := outTo_step HL0.out
  rw [pb_eq (b := b0) (P := PrefP xs) (by rw [hb0]; exact Iff.rfl)] at hst0
  have HST0 := hid hst0
  clear hst0 hb0 hv3 hv4
  have hx05 : Ext w (w4.drewN k0) := Ext.trans hx04 (ext_drewN _ _)
  generalize w4.drewN k0 = w5 at *
  have hownv0 : Own repString 9 w5.heap.size w5 (.slice none 0 0) (outTo L 0) := own_nil _ _ _ _
  have hlen0 := outTo_len L 0
  have HLEN0 := hid hlen0
  clear hlen0
  go_upto_if 56 with fail
  go_cut [7] (fun o wx => Own repString 9 w5.heap.size wx o (outTo L 1) ∧ Ext w5 wx)
  case first =>
    cases b0
    · go_wp2_with (at_builtin; refine wpl_app1 (r := repString) (base := w5.heap.size) (x := sPrefix) _ _ rfl rfl Try.underlying100 info_string (by decide) hownv0 rfl rfl rfl rfl (by have := HLEN0.out; omega) (by have := HLEN0.out; simp only [maxLen]; omega) (Nat.le_refl _) ?_; intro v6 w6 hown6 hg6)
      go_meet
      exact ⟨by rw [HST0.out]; exact hown6, Below.grown (Below.refl _ _) hg6 (Nat.le_refl _) (fun j hj => (hownv0.lt j hj).1)⟩
    · go_wp2_with fail
      go_meet
      exact ⟨by rw [HST0.out]; simpa [keepN] using hownv0, Below.refl _ _⟩
  case rest =>
  obtain ⟨hown0x, hext0x⟩ := hcut
  have hc1 := windowR_any _ xs q _ (hv.ext (Ext.trans hx05 hext0x)) HM.out.few
  have HC1 := hid hc1
  clear hc1
  go_wp2_with fail
  refine HC1.out.mono ?_
  rintro r v1 ⟨b1, rfl, hb1, hx1'⟩
  have hst1 := outTo_step HL1.out
  rw [pb_eq hb1] at hst1
  have HST1 := hid hst1
  clear hst1 hb1
  have hextv1 := Ext.trans hext0x hx1'
  have hsv1 := hextv1.size
  have hlen1 := outTo_len L 1
  have HLEN1 := hid hlen1
  clear hlen1
  have hownv1 := hown0x.ext hx1'
  cases b1
  · go_wp2_with (at_builtin; refine wpl_app1 (r := repString) (base := w5.heap.size) (x := sWindow) _ _ rfl rfl Try.underlying100 info_string (by decide) hownv1 rfl rfl rfl rfl (by have := HLEN1.out; omega) (by have := HLEN1.out; simp only [maxLen]; omega) hsv1 ?_; intro v6 w6 hown6 hg6)
    go_ret
    exact ⟨_, rfl, by rw [← HLEQ.out, ← outTo_all (show L.length ≤ 2 by rw [HLL.out]; omega), HST1.out]; exact hown6.slice, Ext.trans hx05 (Below.grown hextv1 hg6 hsv1 (fun j hj => (hownv1.lt j hj).1))⟩
  · go_wp2
    go_ret
    exact ⟨_, rfl, by rw [← HLEQ.out, ← outTo_all (show L.length ≤ 2 by rw [HLL.out]; omega), HST1.out]; simpa [keepN] using hownv1.slice, Ext.trans hx05 hextv1⟩
theorem breaches_any (v : Value) (xs : List Ev) (n q : Int) (w : World) (h : IsSlice repEv w (all w) v xs) (hm : Mild xs) :
    Calls Try.prog 75 #[v, .int .i64 n, .int .i64 q] w (SomeBr (breachG xs n q) w) := by
  unfold breachG rulesG
  cases h6 : (nums xs 6).isEmpty
  · rw [if_pos (.inl rfl)]; exact breaches_no6 v xs n q w h hm h6
  · by_cases h3 : n = 3
    · subst h3
      rw [if_neg (by simp), if_pos rfl]
      exact breaches3_any v xs q w h hm h6
    · cases h5 : (nums xs 5).isEmpty
      · rw [if_pos (.inr ⟨h3, rfl⟩)]; exact breaches_no5 v xs n q w h hm h3 h6 h5
      · rw [if_neg (by simp), if_neg h3]
        by_cases h1 : n = 1
        · subst h1; rw [if_pos rfl]; exact breaches1_any v xs q w h hm h6 h5
        · rw [if_neg h1]
          by_cases h2 : n = 2
          · subst h2; rw [if_pos rfl]; exact breaches2_any v xs q w h hm h6 h5
          · rw [if_neg h2]; exact breaches_other v xs n q w h hm h1 h2 h3 h6 h5
theorem breachesR_any (v : Value) (xs : List Ev) (n q : Int) (w : World) (h : IsSlice repEv w (all w) v xs) (hm : Mild xs) :
    Calls Try.prog 76 #[v, .int .i64 n, .int .i64 q] w (SomeBr (breachG xs n q) w) := by
  unfold breachG rulesG
  cases h6 : (nums xs 6).isEmpty
  · rw [if_pos (.inl rfl)]; exact breachesR_no6 v xs n q w h hm h6
  · by_cases h3 : n = 3
    · subst h3
      rw [if_neg (by simp), if_pos rfl]
      exact breachesR3_any v xs q w h hm h6
    · cases h5 : (nums xs 5).isEmpty
      · rw [if_pos (.inr ⟨h3, rfl⟩)]
        by_cases h1 : n = 1
        · subst h1; exact breachesR1_no5 v xs q w h hm h6 h5
        · by_cases h2 : n = 2
          · subst h2; exact breachesR2_no5 v xs q w h hm h6 h5
          · exact breachesR_other v xs n q w h hm h1 h2 h3 h6
      · rw [if_neg (by simp), if_neg h3]
        by_cases h1 : n = 1
        · subst h1; rw [if_pos rfl]; exact breachesR1_any v xs q w h hm h6 h5
        · rw [if_neg h1]
          by_cases h2 : n = 2
          · subst h2; rw [if_pos rfl]; exact breachesR2_any v xs q w h hm h6 h5
          · rw [if_neg h2]; exact breachesR_other v xs n q w h hm h1 h2 h3 h6
end
end Go.Proofs.Ytheopadakjojkaa
