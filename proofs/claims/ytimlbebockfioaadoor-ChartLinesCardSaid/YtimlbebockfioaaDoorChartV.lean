/- The walks of an event's line. -/
import Derived.Test.YtimlbebockfioaaDoorChartL
import Derived.Test.YtimlbebockfioaaDoorObj
namespace Go.Proofs.YtimlbebockfioaaDoor
open Go.RowKit

theorem wordK_ne {k : Int} (h : knownI k = true) : wordK k ≠ [] ∧ (wordK k).length ≤ 9 := by
  have h2 := h
  unfold knownI at h
  rw [Bool.and_eq_true, decide_eq_true_iff, decide_eq_true_iff] at h
  have h8 : ∀ n, n < 8 → wordsAll.getD n [] ≠ [] ∧ (wordsAll.getD n []).length ≤ 9 := by decide
  unfold wordK
  rw [if_pos h2]
  exact h8 k.toNat (by omega)
theorem itoa_len {n : Int} (h0 : 0 ≤ n) (h1 : n ≤ 999999) : (Lib.itoa n).length ≤ 6 := by
  rw [itoa_pos h0]
  exact (decDigits_len (by omega)).2
theorem showG_pos {e : Ev} (h : showable e = true) : showG e = Lib.itoa e.step ++ [32] ++ wordK e.kind ++ [32] ++ Lib.itoa e.place ++ [32] ++ dataG e.data := by
  unfold showG
  rw [if_pos h, join4]
  simp
theorem showG_neg {e : Ev} (h : showable e = false) : showG e = [] := by
  unfold showG
  rw [if_neg (by rw [h]; decide)]
theorem showable_iff {e : Ev} : showable e = true ↔ knownI e.kind = true ∧ (0 ≤ e.step ∧ e.step ≤ 999999) ∧ (0 ≤ e.place ∧ e.place ≤ 999999) := by
  unfold showable
  rw [Bool.and_eq_true, Bool.and_eq_true, ranged_iff, ranged_iff]
theorem run_cat (a b c : ByteArray) (hc : c = a ++ b) (h : a.size + b.size ≤ 1000000) (W : World) : (Op.stringOp .add a b).run Tryd.prog W = .ok (.string c) W := by
  subst hc
  exact run_string_add_sum W a b (by omega)
/-- A line is put together, piece by piece. -/
theorem cats (IS WK IP DD R : ByteArray) (z1 : WK.size ≤ 9) (z2 : IS.size ≤ 6) (z3 : IP.size ≤ 6) (z4 : DD.size ≤ 2001) (hR : R = IS ++ ⟨#[32]⟩ ++ WK ++ ⟨#[32]⟩ ++ IP ++ ⟨#[32]⟩ ++ DD) :
    ∃ X1 X2 X3 X4 X5 : ByteArray, (∀ W, (Op.stringOp .add IS ⟨#[32]⟩).run Tryd.prog W = .ok (.string X1) W) ∧ (∀ W, (Op.stringOp .add X1 WK).run Tryd.prog W = .ok (.string X2) W) ∧ (∀ W, (Op.stringOp .add X2 ⟨#[32]⟩).run Tryd.prog W = .ok (.string X3) W) ∧
      (∀ W, (Op.stringOp .add X3 IP).run Tryd.prog W = .ok (.string X4) W) ∧ (∀ W, (Op.stringOp .add X4 ⟨#[32]⟩).run Tryd.prog W = .ok (.string X5) W) ∧ (∀ W, (Op.stringOp .add X5 DD).run Tryd.prog W = .ok (.string R) W) := by
  have s1 : (⟨#[32]⟩ : ByteArray).size = 1 := rfl
  refine ⟨_, _, _, _, _, run_cat _ _ _ rfl ?_, run_cat _ _ _ rfl ?_, run_cat _ _ _ rfl ?_, run_cat _ _ _ rfl ?_, run_cat _ _ _ rfl ?_, run_cat _ _ _ hR ?_⟩ <;> simp only [ByteArray.size_append, s1] <;> omega
set_option maxRecDepth 100000
section
set_option maxHeartbeats 2000000 in
theorem showR_any (s k p : Int) (v : Value) (data : List UInt8) (w : World) (h : IsSlice repByte w (all w) v data) (hl : data.length ≤ 1000) :
    Calls Tryd.prog 11 #[.agg #[.int .i64 s, .int .i64 k, .int .i64 p, v]] w fun e w' => e = .returned (.string (bstr (showG ⟨s, k, p, data⟩))) ∧ Ext w w' := by
  have HW := hid word_any
  have HT := hid tellI_any
  obtain ⟨A, c, rfl⟩ := h.shape
  have HX := hid fun w1 (he : Ext w w1) => hexR_any _ data w1 (h.ext he) hl
  have hb := Blk.new w 24 #[.int .i64 s, .int .i64 k, .int .i64 p, .slice A data.length c]
  have hx := ext_alloc w (.cells #[.int .i64 s, .int .i64 k, .int .i64 p, .slice A data.length c] 24)
  have HBX := hid fun w1 (he : Ext (w.alloc (.cells #[.int .i64 s, .int .i64 k, .int .i64 p, .slice A data.length c] 24)) w1) => hb.ext he
  clear hb
  by_cases hs : showable ⟨s, k, p, data⟩ = true
  · obtain ⟨R, hR⟩ : ∃ R, R = bstr (showG ⟨s, k, p, data⟩) := ⟨_, rfl⟩
    rw [← hR]
    rw [showG_pos hs] at hR
    simp only at hR
    obtain ⟨hk, ⟨s0, s1⟩, p0, p1⟩ := showable_iff.1 hs
    simp only at hk s0 s1 p0 p1
    have hwk := wordK_ne hk
    have hdl := dataG_len data
    have hi1 := itoa_len s0 s1
    have hi2 := itoa_len p0 p1
    obtain ⟨WK, hWK⟩ : ∃ WK, WK = bstr (wordK k) := ⟨_, rfl⟩
    obtain ⟨IS, hIS⟩ : ∃ IS, IS = bstr (Lib.itoa s) := ⟨_, rfl⟩
    obtain ⟨IP, hIP⟩ : ∃ IP, IP = bstr (Lib.itoa p) := ⟨_, rfl⟩
    obtain ⟨DD, hDD⟩ : ∃ DD, DD = bstr (dataG data) := ⟨_, rfl⟩
    have z1 : WK.size ≤ 9 := by rw [hWK, bstr_size]; exact hwk.2
    have z2 : IS.size ≤ 6 := by rw [hIS, bstr_size]; exact hi1
    have z3 : IP.size ≤ 6 := by rw [hIP, bstr_size]; exact hi2
    have z4 : DD.size ≤ 2001 := by rw [hDD, bstr_size]; omega
    have e1 : WK.toList ≠ [] := by rw [hWK, bstr_list]; exact hwk.1
    have e2 : WK.toList.isEmpty = false := by simpa using e1
    have HW2 := hid (fun W => HW.out k W)
    rw [← hWK] at HW2
    have HTS := hid (fun W => HT.out s W s0 s1)
    rw [← hIS] at HTS
    have HTP := hid (fun W => HT.out p W p0 p1)
    rw [← hIP] at HTP
    have HRR : Wall (R = IS ++ ⟨#[32]⟩ ++ WK ++ ⟨#[32]⟩ ++ IP ++ ⟨#[32]⟩ ++ DD) := hid (by
      rw [hR, hIS, hWK, hIP, hDD]
      have e : (⟨#[32]⟩ : ByteArray) = bstr [32] := rfl
      rw [e]
      simp only [bstr_app])
    have HB0 := HBX.out _ (Below.refl _ _)
    have b0 := HB0.cell 0
    have b1 := HB0.cell 1
    have b2 := HB0.cell 2
    have b3 := HB0.cell 3
    have t1 : decide (s < 0) = false := decide_eq_false (by omega)
    have t2 : decide (999999 < s) = false := decide_eq_false (by omega)
    have t3 : decide (p < 0) = false := decide_eq_false (by omega)
    have t4 : decide (999999 < p) = false := decide_eq_false (by omega)
    have hdd : DD = bstr (if data = [] then [45] else hexL data) := hDD
    have HCAT := hid (cats IS WK IP DD R z1 z2 z3 z4 HRR.out)
    have HXL := hid hx
    clear HT HRR z1 z2 z3 z4 HW hWK hIS hIP hwk hi1 hi2 hdl hR hs hk HB0 hx hDD
    by_cases hd : data = []
    · subst hd
      rw [if_pos rfl] at hdd
      have hd9 : DD = ⟨#[45]⟩ := hdd
      subst hd9
      obtain ⟨X1, X2, X3, X4, X5, c1, c2, c3, c4, c5, c6⟩ := HCAT.out
      clear hdd HX HCAT
      simp only [List.length_nil] at b3 HBX
      go_enter Tryd.func11, Tryd.ntmps11
      go_upto_region 6 with (first
        | (go_at_call 22; refine (HW2.out _).mono ?_; rintro e w2 ⟨rfl, hx2⟩; have hb2 := HBX.out _ hx2; have b0 := hb2.cell 0; have b1 := hb2.cell 1; have b2 := hb2.cell 2; have b3 := hb2.cell 3; clear hb2))
      have HC := hid fun w1 (he : Ext (w.alloc (.cells #[.int .i64 s, .int .i64 k, .int .i64 p, .slice A 0 c] 24)) w1) => (⟨(HBX.out w1 he).cell 0, (HBX.out w1 he).cell 1, (HBX.out w1 he).cell 2, he⟩ : w1.cell? ⟨w.heap.size, 0, none⟩ = some (.int .i64 s) ∧ w1.cell? ⟨w.heap.size, 1, none⟩ = some (.int .i64 k) ∧ w1.cell? ⟨w.heap.size, 2, none⟩ = some (.int .i64 p) ∧ Ext (w.alloc (.cells #[.int .i64 s, .int .i64 k, .int .i64 p, .slice A 0 c] 24)) w1)
      have xd : Ext w2 w2.drew := ext_drewN w2 1
      clear HBX e1 e2 t1 t2 t3 t4 b3
      go_region_held3 (fun w' => w'.cell? ⟨w.heap.size, 0, none⟩ = some (.int .i64 s) ∧ w'.cell? ⟨w.heap.size, 1, none⟩ = some (.int .i64 k) ∧ w'.cell? ⟨w.heap.size, 2, none⟩ = some (.int .i64 p) ∧ Ext (w.alloc (.cells #[.int .i64 s, .int .i64 k, .int .i64 p, .slice A 0 c] 24)) w')
        (first | with_reducible exact HC.out _ (Ext.trans hx2 xd))
        (first
          | (go_at_call 22; refine (HW2.out _).mono ?_; rintro e w3 ⟨rfl, hx3⟩; have xd := Ext.trans xd hx3)
          | (go_at_call 38; (with_reducible refine (HTS.out _).mono ?_); rintro e w3 ⟨rfl, rfl⟩)
          | (go_at_call 38; (with_reducible refine (HTP.out _).mono ?_); rintro e w3 ⟨rfl, rfl⟩))
      clear c1 c2 c3 c4 c5 c6
      go_wp2
      go_ret
      exact ⟨rfl, Ext.trans HXL.out (Ext.trans hx2 xd)⟩
    · rw [if_neg hd] at hdd
      have HX2 := hid fun w1 he => HX.out w1 he
      rw [← hdd] at HX2
      obtain ⟨X1, X2, X3, X4, X5, c1, c2, c3, c4, c5, c6⟩ := HCAT.out
      have hdl : 0 < data.length := List.length_pos_iff.2 hd
      obtain ⟨dl, hdle⟩ : ∃ dl, dl = data.length := ⟨_, rfl⟩
      rw [← hdle] at HX2 HBX HXL b3 hdl b0 b1 b2 hl ⊢
      clear hdd HX HCAT hd h hdle
      go_enter Tryd.func11, Tryd.ntmps11
      go_upto_region 6 with (first
        | (go_at_call 22; refine (HW2.out _).mono ?_; rintro e w2 ⟨rfl, hx2⟩; have hb2 := HBX.out _ hx2; have b0 := hb2.cell 0; have b1 := hb2.cell 1; have b2 := hb2.cell 2; have b3 := hb2.cell 3; clear hb2)
        | (go_at_call 37; refine (HX2.out _ (Ext.trans HXL.out hx2)).mono ?_; rintro e w4 ⟨rfl, hx4⟩; have hx2 := Ext.trans hx2 hx4; have hb2 := HBX.out _ hx2; have b0 := hb2.cell 0; have b1 := hb2.cell 1; have b2 := hb2.cell 2; clear hb2))
      have HC := hid fun w1 (he : Ext (w.alloc (.cells #[.int .i64 s, .int .i64 k, .int .i64 p, .slice A dl c] 24)) w1) => (⟨(HBX.out w1 he).cell 0, (HBX.out w1 he).cell 1, (HBX.out w1 he).cell 2, he⟩ : w1.cell? ⟨w.heap.size, 0, none⟩ = some (.int .i64 s) ∧ w1.cell? ⟨w.heap.size, 1, none⟩ = some (.int .i64 k) ∧ w1.cell? ⟨w.heap.size, 2, none⟩ = some (.int .i64 p) ∧ Ext (w.alloc (.cells #[.int .i64 s, .int .i64 k, .int .i64 p, .slice A dl c] 24)) w1)
      have xd : Ext w4 w4.drew := ext_drewN w4 1
      clear HBX e1 e2 t1 t2 t3 t4 b3
      go_region_held3 (fun w' => w'.cell? ⟨w.heap.size, 0, none⟩ = some (.int .i64 s) ∧ w'.cell? ⟨w.heap.size, 1, none⟩ = some (.int .i64 k) ∧ w'.cell? ⟨w.heap.size, 2, none⟩ = some (.int .i64 p) ∧ Ext (w.alloc (.cells #[.int .i64 s, .int .i64 k, .int .i64 p, .slice A dl c] 24)) w')
        (first | with_reducible exact HC.out _ (Ext.trans hx2 xd))
        (first
          | (go_at_call 22; refine (HW2.out _).mono ?_; rintro e w3 ⟨rfl, hx3⟩; have xd := Ext.trans xd hx3)
          | (go_at_call 38; (with_reducible refine (HTS.out _).mono ?_); rintro e w3 ⟨rfl, rfl⟩)
          | (go_at_call 38; (with_reducible refine (HTP.out _).mono ?_); rintro e w3 ⟨rfl, rfl⟩))
      clear c1 c2 c3 c4 c5 c6
      go_wp2
      go_ret
      exact ⟨rfl, Ext.trans HXL.out (Ext.trans hx2 xd)⟩
  · obtain ⟨R, hR⟩ : ∃ R, R = bstr (showG ⟨s, k, p, data⟩) := ⟨_, rfl⟩
    rw [← hR]
    have hr : R = ⟨#[]⟩ := by rw [hR, showG_neg (by simpa using hs)]; rfl
    subst hr
    rw [showable_iff] at hs
    clear hR
    have HB0 := HBX.out _ (Below.refl _ _)
    have b0 := HB0.cell 0
    have b1 := HB0.cell 1
    have b2 := HB0.cell 2
    generalize data.length = dl at *
    clear HT HX HB0
    obtain ⟨WK, hWK⟩ : ∃ WK, WK = bstr (wordK k) := ⟨_, rfl⟩
    have HW2 := hid (fun W => HW.out k W)
    rw [← hWK] at HW2
    by_cases hk : knownI k = true
    · have hne := (wordK_ne hk).1
      have e1 : WK.toList ≠ [] := by rw [hWK, bstr_list]; exact hne
      have e2 : WK.toList.isEmpty = false := by simpa using e1
      have hbad : s < 0 ∨ (¬ s < 0 ∧ 999999 < s) ∨ (¬ s < 0 ∧ ¬ 999999 < s ∧ p < 0) ∨ (¬ s < 0 ∧ ¬ 999999 < s ∧ ¬ p < 0 ∧ 999999 < p) := by
        by_cases g1 : 0 ≤ s ∧ s ≤ 999999
        · by_cases g2 : 0 ≤ p ∧ p ≤ 999999
          · exact absurd ⟨hk, g1, g2⟩ hs
          · omega
        · omega
      clear hs hk hne hWK HW
      rcases hbad with h1 | ⟨h1, h2⟩ | ⟨h1, h2, h3⟩ | ⟨h1, h2, h3, h4⟩
      case' inl => have t1 : decide (s < 0) = true := decide_eq_true h1
      case' inr.inl =>
        have t1 : decide (s < 0) = false := decide_eq_false h1
        have t2 : decide (999999 < s) = true := decide_eq_true h2
      case' inr.inr.inl =>
        have t1 : decide (s < 0) = false := decide_eq_false h1
        have t2 : decide (999999 < s) = false := decide_eq_false h2
        have t3 : decide (p < 0) = true := decide_eq_true h3
      case' inr.inr.inr =>
        have t1 : decide (s < 0) = false := decide_eq_false h1
        have t2 : decide (999999 < s) = false := decide_eq_false h2
        have t3 : decide (p < 0) = false := decide_eq_false h3
        have t4 : decide (999999 < p) = true := decide_eq_true h4
      all_goals
        go_enter Tryd.func11, Tryd.ntmps11
        go_wp2_with (first
          | (go_at_call 22; refine (HW2.out _).mono ?_; rintro e w2 ⟨rfl, hx2⟩; have hb2 := HBX.out _ hx2; have b0 := hb2.cell 0; have b1 := hb2.cell 1; have b2 := hb2.cell 2; clear hb2))
        go_ret
        exact ⟨rfl, Ext.trans hx hx2⟩
    · have hwk : WK = ⟨#[]⟩ := by
        rw [hWK]
        unfold wordK
        rw [if_neg hk]
        rfl
      subst hwk
      clear hs hk hWK HW
      go_enter Tryd.func11, Tryd.ntmps11
      go_wp2_with (first
        | (go_at_call 22; refine (HW2.out _).mono ?_; rintro e w2 ⟨rfl, hx2⟩; have hb2 := HBX.out _ hx2; have b0 := hb2.cell 0; have b1 := hb2.cell 1; have b2 := hb2.cell 2; clear hb2))
      go_ret
      exact ⟨rfl, Ext.trans hx hx2⟩
end
end Go.Proofs.YtimlbebockfioaaDoor
