/- The walk of the program's line of an event. -/
import Derived.Test.YtimlbebockfioaaDoorChartV
namespace Go.Proofs.YtimlbebockfioaaDoor
open Go.RowKit

def namesA : Array Value := (wordsAll.map fun l => Value.string (bstr l)).toArray
set_option maxRecDepth 100000
theorem run_name {k : Int} (h : knownI k = true) (W : World) : (Instr.index 59 (.agg namesA) (.int .i64 k)).run Tryd.prog W = .ok (.string (bstr (wordK k))) W := by
  unfold knownI at h
  rw [Bool.and_eq_true, decide_eq_true_iff, decide_eq_true_iff] at h
  have hk : k = 0 ∨ k = 1 ∨ k = 2 ∨ k = 3 ∨ k = 4 ∨ k = 5 ∨ k = 6 ∨ k = 7 := by omega
  rcases hk with rfl | rfl | rfl | rfl | rfl | rfl | rfl | rfl <;> rfl
section
theorem names_any (w : World) : Calls Tryd.prog 36 #[] w fun e w' => e = .returned (.agg namesA) ∧ Ext w w' := by
  go_enter Tryd.func36, Tryd.ntmps36
  go_wp2
  exact bodyPost_ret (results_cell_row rfl _ _ w.heap.size _ _ (0, 0) _ rfl (Blk.new w 59 namesA) Tryd.underlying59 rfl (by kernel_rfl)) rfl ⟨rfl, ext_alloc _ _⟩
theorem join4_any (a b c d : ByteArray) (R : ByteArray) (w : World) (g : Nat) (h0 : w.cell? ⟨g, 0, none⟩ = some (.string a)) (h1 : w.cell? ⟨g, 1, none⟩ = some (.string b)) (h2 : w.cell? ⟨g, 2, none⟩ = some (.string c)) (h3 : w.cell? ⟨g, 3, none⟩ = some (.string d))
    (hs : a.size + b.size + c.size + d.size ≤ 100000) (hR : R = bstr (joinW [a.data.toList, b.data.toList, c.data.toList, d.data.toList])) :
    Calls Tryd.prog 34 #[.slice (some ⟨g, 0, none⟩) 4 4, .string ⟨#[32]⟩] w fun e w' => e = .returned (.string R) ∧ Ext w w' := by
  have hj : Lib.join ([a, b, c, d].map (·.data.toList)) [32] = joinW [a.data.toList, b.data.toList, c.data.toList, d.data.toList] := joinW_lib _
  have hsz : ∀ x : ByteArray, x.data.toList.length = x.size := fun x => rfl
  refine (Tryd.strings_Join g 0 4 [a, b, c, d] ⟨#[32]⟩ w (fun j x hx => ?_) (lt_of_cell' h0) (by simp) (by simp) ?_).mono fun e w' ⟨he, hw⟩ => ⟨?_, hw⟩
  · match j, hx with
    | 0, hx => injection hx with hx; subst hx; exact h0
    | 1, hx => injection hx with hx; subst hx; exact h1
    | 2, hx => injection hx with hx; subst hx; exact h2
    | 3, hx => injection hx with hx; subst hx; exact h3
    | j + 4, hx => cases hx
  · show (Lib.join ([a, b, c, d].map (·.data.toList)) [32]).length ≤ _
    rw [hj, join4]
    simp only [List.length_append, List.length_cons, hsz]
    omega
  · rw [he, hR]
    show Ending.returned (.string (bstr (Lib.join ([a, b, c, d].map (·.data.toList)) [32]))) = _
    rw [hj]
set_option maxHeartbeats 2000000 in
theorem show_any (s k p : Int) (v : Value) (data : List UInt8) (w : World) (HL : Laid w) (h : IsSlice repByte w (all w) v data) (hl : data.length ≤ 1000) :
    Calls Tryd.prog 10 #[.agg #[.int .i64 s, .int .i64 k, .int .i64 p, v]] w fun e w' => e = .returned (.string (bstr (showG ⟨s, k, p, data⟩))) ∧ Ext w w' := by
  obtain ⟨A, c, rfl⟩ := h.shape
  have HX := hid fun w1 (he : Ext w w1) => hex_any _ data w1 (h.ext he) hl
  have hb := Blk.new w 24 #[.int .i64 s, .int .i64 k, .int .i64 p, .slice A data.length c]
  have hx := ext_alloc w (.cells #[.int .i64 s, .int .i64 k, .int .i64 p, .slice A data.length c] 24)
  have HBX := hid fun w1 (he : Ext (w.alloc (.cells #[.int .i64 s, .int .i64 k, .int .i64 p, .slice A data.length c] 24)) w1) => hb.ext he
  clear hb
  have HB0 := HBX.out _ (Below.refl _ _)
  have b0 := HB0.cell 0
  have b1 := HB0.cell 1
  have b2 := HB0.cell 2
  have b3 := HB0.cell 3
  clear HB0
  have HK := hid known_any
  have HRG := hid ranged_any
  by_cases hs : showable ⟨s, k, p, data⟩ = true
  · obtain ⟨R, hR⟩ : ∃ R, R = bstr (showG ⟨s, k, p, data⟩) := ⟨_, rfl⟩
    rw [← hR]
    obtain ⟨hk, ⟨s0, s1⟩, p0, p1⟩ := showable_iff.1 hs
    simp only at hk s0 s1 p0 p1
    have hwk := wordK_ne hk
    have hdl := dataG_len data
    have hi1 := itoa_len s0 s1
    have hi2 := itoa_len p0 p1
    have HI := hid HL.itoa
    have hrs : rangedI s = true := ranged_iff.2 ⟨s0, s1⟩
    have hrp : rangedI p = true := ranged_iff.2 ⟨p0, p1⟩
    have hRJ : R = bstr (joinW [Lib.itoa s, wordK k, Lib.itoa p, dataG data]) := by
      rw [hR]
      unfold showG
      rw [if_pos hs]
    have hix := run_name hk
    obtain ⟨WK, hWK⟩ : ∃ WK, WK = bstr (wordK k) := ⟨_, rfl⟩
    obtain ⟨IS, hIS⟩ : ∃ IS, IS = bstr (Lib.itoa s) := ⟨_, rfl⟩
    obtain ⟨IP, hIP⟩ : ∃ IP, IP = bstr (Lib.itoa p) := ⟨_, rfl⟩
    obtain ⟨DD, hDD⟩ : ∃ DD, DD = bstr (dataG data) := ⟨_, rfl⟩
    rw [← hWK] at hix
    have HJ := hid fun (w1 : World) (g : Nat) h0 h1 h2 h3 => join4_any IS WK IP DD R w1 g h0 h1 h2 h3 (by rw [hIS, hWK, hIP, hDD, bstr_size, bstr_size, bstr_size, bstr_size]; omega) (by rw [hRJ, hIS, hWK, hIP, hDD]; rfl)
    have HTS := hid (fun W (he : Ext w W) => HI.out W he s s0 s1)
    rw [← hIS] at HTS
    have HTP := hid (fun W (he : Ext w W) => HI.out W he p p0 p1)
    rw [← hIP] at HTP
    obtain ⟨NA, hNA⟩ : ∃ NA, NA = namesA := ⟨_, rfl⟩
    have HN := hid names_any
    rw [← hNA] at HN hix
    have HKK := hid (fun W => hk ▸ HK.out k W)
    have HRS := hid (fun W => hrs ▸ HRG.out s W)
    have HRP := hid (fun W => hrp ▸ HRG.out p W)
    have hdd : DD = bstr (if data = [] then [45] else hexL data) := hDD
    have HXL := hid hx
    clear hWK hIS hIP hwk hi1 hi2 hdl hR hRJ hs hk hx hDD hNA HI HL hrs hrp HRG HK
    by_cases hd : data = []
    · subst hd
      rw [if_pos rfl] at hdd
      have hd9 : DD = ⟨#[45]⟩ := hdd
      subst hd9
      clear hdd HX
      simp only [List.length_nil] at b3 HBX HXL
      go_enter Tryd.func10, Tryd.ntmps10
      go_upto_region 6 with (first
        | (go_at_call 31; refine (HKK.out _).mono ?_; rintro e w2 ⟨rfl, rfl⟩)
        | (go_at_call 32; (with_reducible refine (HRS.out _).mono ?_); rintro e w2 ⟨rfl, rfl⟩)
        | (go_at_call 32; (with_reducible refine (HRP.out _).mono ?_); rintro e w2 ⟨rfl, rfl⟩))
      have HC := hid fun w1 (he : Ext (w.alloc (.cells #[.int .i64 s, .int .i64 k, .int .i64 p, .slice A 0 c] 24)) w1) => (⟨(HBX.out w1 he).cell 0, (HBX.out w1 he).cell 1, (HBX.out w1 he).cell 2, he⟩ : w1.cell? ⟨w.heap.size, 0, none⟩ = some (.int .i64 s) ∧ w1.cell? ⟨w.heap.size, 1, none⟩ = some (.int .i64 k) ∧ w1.cell? ⟨w.heap.size, 2, none⟩ = some (.int .i64 p) ∧ Ext (w.alloc (.cells #[.int .i64 s, .int .i64 k, .int .i64 p, .slice A 0 c] 24)) w1)
      have xd : Ext (w.alloc (.cells #[.int .i64 s, .int .i64 k, .int .i64 p, .slice A 0 c] 24)) (w.alloc (.cells #[.int .i64 s, .int .i64 k, .int .i64 p, .slice A 0 c] 24)).drew := ext_drewN _ 1
      clear HBX b3
      go_region_held3 (fun w' => w'.cell? ⟨w.heap.size, 0, none⟩ = some (.int .i64 s) ∧ w'.cell? ⟨w.heap.size, 1, none⟩ = some (.int .i64 k) ∧ w'.cell? ⟨w.heap.size, 2, none⟩ = some (.int .i64 p) ∧ Ext (w.alloc (.cells #[.int .i64 s, .int .i64 k, .int .i64 p, .slice A 0 c] 24)) w')
        (first | with_reducible exact HC.out _ xd | exact HC.out _ (Ext.trans xd (ext_alloc _ _)))
        (first
          | (go_at_call 35; (with_reducible refine (HTS.out _ (Ext.trans HXL.out xd)).mono ?_); rintro e w3 ⟨rfl, hx3⟩; have xd := Ext.trans xd hx3)
          | (go_at_call 35; (with_reducible refine (HTP.out _ (Ext.trans HXL.out xd)).mono ?_); rintro e w3 ⟨rfl, hx3⟩; have xd := Ext.trans xd hx3)
          | (go_at_call 36; refine (HN.out _).mono ?_; rintro e w3 ⟨rfl, hx3⟩; have xd := Ext.trans xd hx3)
          | (go_at_call 34; refine (HJ.out _ _ (by exact box_cell _ _ _ 0) (by exact box_cell _ _ _ 1) (by exact box_cell _ _ _ 2) (by exact box_cell _ _ _ 3)).mono ?_; rintro e w9 ⟨rfl, hx9⟩; have xd := Ext.trans xd (Ext.of_alloc hx9)))
      all_goals
        have hfin := Ext.trans HXL.out xd
        have HFIN := hid hfin
        clear hfin hix hx9 xd
        go_wp2
        go_ret
        exact ⟨rfl, HFIN.out⟩
    · rw [if_neg hd] at hdd
      have HX2 := hid fun w1 he => HX.out w1 he
      rw [← hdd] at HX2
      have hdl : 0 < data.length := List.length_pos_iff.2 hd
      obtain ⟨dl, hdle⟩ : ∃ dl, dl = data.length := ⟨_, rfl⟩
      rw [← hdle] at HX2 HBX HXL b3 hdl b0 b1 b2 hl ⊢
      clear hdd HX hd h hdle
      go_enter Tryd.func10, Tryd.ntmps10
      go_upto_region 6 with (first
        | (go_at_call 31; refine (HKK.out _).mono ?_; rintro e w2 ⟨rfl, rfl⟩)
        | (go_at_call 32; (with_reducible refine (HRS.out _).mono ?_); rintro e w2 ⟨rfl, rfl⟩)
        | (go_at_call 32; (with_reducible refine (HRP.out _).mono ?_); rintro e w2 ⟨rfl, rfl⟩)
        | (go_at_call 33; refine (HX2.out _ HXL.out).mono ?_; rintro e w4 ⟨rfl, hx4⟩; have hb2 := HBX.out _ hx4; have b0 := hb2.cell 0; have b1 := hb2.cell 1; have b2 := hb2.cell 2; clear hb2))
      have HC := hid fun w1 (he : Ext (w.alloc (.cells #[.int .i64 s, .int .i64 k, .int .i64 p, .slice A dl c] 24)) w1) => (⟨(HBX.out w1 he).cell 0, (HBX.out w1 he).cell 1, (HBX.out w1 he).cell 2, he⟩ : w1.cell? ⟨w.heap.size, 0, none⟩ = some (.int .i64 s) ∧ w1.cell? ⟨w.heap.size, 1, none⟩ = some (.int .i64 k) ∧ w1.cell? ⟨w.heap.size, 2, none⟩ = some (.int .i64 p) ∧ Ext (w.alloc (.cells #[.int .i64 s, .int .i64 k, .int .i64 p, .slice A dl c] 24)) w1)
      have xd : Ext (w.alloc (.cells #[.int .i64 s, .int .i64 k, .int .i64 p, .slice A dl c] 24)) w4.drew := Ext.trans hx4 (ext_drewN w4 1)
      clear HBX b3
      go_region_held3 (fun w' => w'.cell? ⟨w.heap.size, 0, none⟩ = some (.int .i64 s) ∧ w'.cell? ⟨w.heap.size, 1, none⟩ = some (.int .i64 k) ∧ w'.cell? ⟨w.heap.size, 2, none⟩ = some (.int .i64 p) ∧ Ext (w.alloc (.cells #[.int .i64 s, .int .i64 k, .int .i64 p, .slice A dl c] 24)) w')
        (first | with_reducible exact HC.out _ xd | exact HC.out _ (Ext.trans xd (ext_alloc _ _)))
        (first
          | (go_at_call 35; (with_reducible refine (HTS.out _ (Ext.trans HXL.out xd)).mono ?_); rintro e w3 ⟨rfl, hx3⟩; have xd := Ext.trans xd hx3)
          | (go_at_call 35; (with_reducible refine (HTP.out _ (Ext.trans HXL.out xd)).mono ?_); rintro e w3 ⟨rfl, hx3⟩; have xd := Ext.trans xd hx3)
          | (go_at_call 36; refine (HN.out _).mono ?_; rintro e w3 ⟨rfl, hx3⟩; have xd := Ext.trans xd hx3)
          | (go_at_call 34; refine (HJ.out _ _ (by exact box_cell _ _ _ 0) (by exact box_cell _ _ _ 1) (by exact box_cell _ _ _ 2) (by exact box_cell _ _ _ 3)).mono ?_; rintro e w9 ⟨rfl, hx9⟩; have xd := Ext.trans xd (Ext.of_alloc hx9)))
      all_goals
        have hfin := Ext.trans HXL.out xd
        have HFIN := hid hfin
        clear hfin hix hx9 xd
        go_wp2
        go_ret
        exact ⟨rfl, HFIN.out⟩
  · obtain ⟨R, hR⟩ : ∃ R, R = bstr (showG ⟨s, k, p, data⟩) := ⟨_, rfl⟩
    rw [← hR]
    have hr : R = ⟨#[]⟩ := by rw [hR, showG_neg (by simpa using hs)]; rfl
    subst hr
    have hsf : (knownI k && (rangedI s && rangedI p)) = false := by simpa [showable] using hs
    generalize data.length = dl at *
    clear hR hs HX HBX HL h b3
    obtain ⟨B1, hB1⟩ : ∃ B, B = knownI k := ⟨_, rfl⟩
    obtain ⟨B2, hB2⟩ : ∃ B, B = rangedI s := ⟨_, rfl⟩
    obtain ⟨B3, hB3⟩ : ∃ B, B = rangedI p := ⟨_, rfl⟩
    have HKK := hid (fun W => HK.out k W)
    have HRS := hid (fun W => HRG.out s W)
    have HRP := hid (fun W => HRG.out p W)
    rw [← hB1] at HKK hsf
    rw [← hB2] at HRS hsf
    rw [← hB3] at HRP hsf
    clear hB1 hB2 hB3 HRG HK
    cases B1 <;> cases B2 <;> cases B3 <;> first | (cases hsf; done) | skip
    all_goals
      clear hsf
      go_enter Tryd.func10, Tryd.ntmps10
      go_wp2_with (first
        | (go_at_call 31; refine (HKK.out _).mono ?_; rintro e w2 ⟨rfl, rfl⟩)
        | (go_at_call 32; (with_reducible refine (HRS.out _).mono ?_); rintro e w2 ⟨rfl, rfl⟩)
        | (go_at_call 32; (with_reducible refine (HRP.out _).mono ?_); rintro e w2 ⟨rfl, rfl⟩))
      go_ret
      exact ⟨rfl, hx⟩
end
end Go.Proofs.YtimlbebockfioaaDoor
