/- The law ChartShows: its walk. -/
import Derived.Test.YtimlbebockfioaaDoorChartLv
import Derived.Test.YtimlbebockfioaaDoorChartPR
import Derived.Test.YtimlbebockfioaaDoorChartSE
import Derived.Deep.DeepCutAuto
namespace Go.Proofs.YtimlbebockfioaaDoor
open Go.RowKit

/-- What two readings of one line come to. -/
theorem parse_two {l : List UInt8} {ev ev' : Ev} {n n' : Int} (h : (n = 0 ∧ parseG l = some ev) ∨ (n = 320 ∧ parseG l = none ∧ ev = ⟨0, 0, 0, []⟩)) (h' : (n' = 0 ∧ parseG l = some ev') ∨ (n' = 320 ∧ parseG l = none ∧ ev' = ⟨0, 0, 0, []⟩)) : ev' = ev ∧ n' = n := by
  rcases h with ⟨h1, h2⟩ | ⟨h1, h2, h3⟩ <;> rcases h' with ⟨k1, k2⟩ | ⟨k1, k2, k3⟩
  · rw [h2] at k2
    injection k2 with k2
    exact ⟨k2.symm, k1.trans h1.symm⟩
  · rw [h2] at k2; cases k2
  · rw [h2] at k2; cases k2
  · exact ⟨k3.trans h3.symm, k1.trans h1.symm⟩
/-- A list of one event, in a new block. -/
theorem lit_ev (W W' : World) (ev : Ev) (A : Option Addr) (n c g : Nat) (hn : n = ev.data.length) (hs : IsSlice repByte W (all W) (.slice A ev.data.length c) ev.data) (hg : g = W.heap.size)
    (hW : W' = W.alloc (.cells #[.int .i64 ev.step, .int .i64 ev.kind, .int .i64 ev.place, .slice A n c] 24)) : IsSlice repEv W' (all W') (.slice (some ⟨g, 0, none⟩) 1 1) [ev] := by
  subst hn
  subst hg
  subst hW
  exact (own_lit1 (r := repEv) (base := 0) (w := W) (e := 24) (x := ev) (cs := #[.int .i64 ev.step, .int .i64 ev.kind, .int .i64 ev.place, .slice A ev.data.length c]) (Nat.zero_le _) ⟨_, rfl, hs.keep fun k hk => ⟨⟨Nat.zero_le _, hk⟩, fun _ => rfl⟩⟩).slice
set_option maxRecDepth 100000
section
set_option maxHeartbeats 4000000 in
theorem chartShows_big (s k p : Int) (v : Value) (data l : List UInt8) (w : World) (HL : Laid w) (h : IsSlice repByte w (all w) v data) (hl : l.length ≤ 9223372036854775807) (hb : 200 < data.length ∨ 400 < l.length) :
    Calls Tryd.prog 3 #[.agg #[.int .i64 s, .int .i64 k, .int .i64 p, v], .string (bstr l)] w fun e w' => e = .returned (.bool true) ∧ Ext w w' := by
  obtain ⟨A, c, rfl⟩ := h.shape
  obtain ⟨S, hS⟩ : ∃ S, S = bstr l := ⟨_, rfl⟩
  have hsz : S.size = l.length := by rw [hS, bstr_size]
  have hx := ext_alloc w (.cells #[.int .i64 s, .int .i64 k, .int .i64 p, .slice A data.length c] 24)
  have HLV := hid (live35_any _ (HL.ext hx))
  rw [← hS]
  clear hS
  generalize data.length = dl at *
  generalize l.length = ll at *
  by_cases h1 : 200 < dl
  · have t1 : decide (200 < dl) = true := decide_eq_true h1
    have t1' : decide ((200 : Int) < (dl : Int)) = true := decide_eq_true (by omega)
    clear hb h HL h1
    go_enter Tryd.func3, Tryd.ntmps3
    go_wp2_with (go_at_call 7; refine HLV.out.mono ?_; rintro e w8 ⟨rfl, hx8⟩)
    go_ret
    exact ⟨rfl, Ext.trans hx hx8⟩
  · have t1 : decide (200 < dl) = false := decide_eq_false h1
    have t1' : decide ((200 : Int) < (dl : Int)) = false := decide_eq_false (by omega)
    have t2 : decide (400 < ll) = true := decide_eq_true (by omega)
    have t2' : decide ((400 : Int) < (ll : Int)) = true := decide_eq_true (by omega)
    clear hb h HL h1
    go_enter Tryd.func3, Tryd.ntmps3
    go_wp2_with (go_at_call 7; refine HLV.out.mono ?_; rintro e w8 ⟨rfl, hx8⟩)
    go_ret
    exact ⟨rfl, Ext.trans hx hx8⟩
set_option maxHeartbeats 4000000 in
theorem chartShows_main (s k p : Int) (v : Value) (data l : List UInt8) (w : World) (HL : Laid w) (h : IsSlice repByte w (all w) v data) (h1 : data.length ≤ 200) (h2 : l.length ≤ 400) :
    Calls Tryd.prog 3 #[.agg #[.int .i64 s, .int .i64 k, .int .i64 p, v], .string (bstr l)] w fun e w' => e = .returned (.bool true) ∧ Ext w w' := by
  obtain ⟨A, c, rfl⟩ := h.shape
  have HLL := hid HL
  have HV := hid h
  have hx := ext_alloc w (.cells #[.int .i64 s, .int .i64 k, .int .i64 p, .slice A data.length c] 24)
  have hb2 := Blk.new w 24 #[.int .i64 s, .int .i64 k, .int .i64 p, .slice A data.length c]
  have HPA := hid fun (w1 : World) (he : Ext w w1) => parse_any l w1 (HL.ext he) (by omega)
  have HPR := hid fun (w1 : World) => parseR_any l w1 (by omega)
  have HSA := hid fun (w1 : World) (he : Ext w w1) => show_any s k p _ data w1 (HL.ext he) (h.ext he) (by omega)
  have HSR := hid fun (w1 : World) (he : Ext w w1) => showR_any s k p _ data w1 (h.ext he) (by omega)
  obtain ⟨S, hS⟩ : ∃ S, S = bstr l := ⟨_, rfl⟩
  have hsz : S.size = l.length := by rw [hS, bstr_size]
  rw [← hS] at HPA HPR ⊢
  clear hS
  obtain ⟨T, hT⟩ : ∃ T, T = bstr (showG ⟨s, k, p, data⟩) := ⟨_, rfl⟩
  rw [← hT] at HSA HSR
  have HT := hid hT
  clear hT HL h
  obtain ⟨dl, hdl⟩ : ∃ dl, dl = data.length := ⟨_, rfl⟩
  rw [← hdl] at HSA HSR hx hb2 h1 HV ⊢
  have HDL := hid hdl
  obtain ⟨ll, hll⟩ : ∃ ll, ll = l.length := ⟨_, rfl⟩
  rw [← hll] at hsz h2
  clear hdl hll
  have c0 := hb2.cell 0
  have c1 := hb2.cell 1
  have c2 := hb2.cell 2
  have c3 := hb2.cell 3
  go_enter Tryd.func3, Tryd.ntmps3
  obtain ⟨g2, hg2⟩ : ∃ g2, g2 = w.heap.size := ⟨_, rfl⟩
  rw [← hg2] at hb2 c0 c1 c2 c3
  have HB2 := hid fun w1 (he : Ext (w.alloc (.cells #[.int .i64 s, .int .i64 k, .int .i64 p, .slice A dl c] 24)) w1) => hb2.ext he
  have HX := hid hx
  clear hb2 hx
  go_upto_region 4 with (go_at_call 8; refine (HPA.out _ HX.out).mono ?_; rintro e w2 ⟨ev, u2, n2, rfl, ho2, hs2, hx2⟩; obtain ⟨A2, c2', rfl⟩ := hs2.shape)
  rw [← hg2]
  -- the first reading lies in a block of its own
  obtain ⟨m2, hm2⟩ : ∃ m2, m2 = ev.data.length := ⟨_, rfl⟩
  have hs2a := hs2.any
  have hxA := Ext.trans hx2 (ext_alloc w2 (.cells #[.int .i64 ev.step, .int .i64 ev.kind, .int .i64 ev.place, .slice A2 m2 c2'] 24))
  have hb5 := Blk.new w2 24 #[.int .i64 ev.step, .int .i64 ev.kind, .int .i64 ev.place, .slice A2 m2 c2']
  have hs5 : IsSlice repByte (w2.alloc (.cells #[.int .i64 ev.step, .int .i64 ev.kind, .int .i64 ev.place, .slice A2 m2 c2'] 24)) (all (w2.alloc (.cells #[.int .i64 ev.step, .int .i64 ev.kind, .int .i64 ev.place, .slice A2 m2 c2'] 24))) (.slice A2 ev.data.length c2') ev.data := hs2a.ext (ext_alloc _ _)
  rw [← hm2]
  obtain ⟨g5, hg5⟩ : ∃ g5, g5 = w2.heap.size := ⟨_, rfl⟩
  rw [← hg5] at hb5 ⊢
  generalize w2.alloc (.cells #[.int .i64 ev.step, .int .i64 ev.kind, .int .i64 ev.place, .slice A2 m2 c2'] 24) = w3 at *
  have HA := hid (⟨hxA, hb5, hs5⟩ : Ext (w.alloc (.cells #[.int .i64 s, .int .i64 k, .int .i64 p, .slice A dl c] 24)) w3 ∧ Blk w3 g5 24 #[.int .i64 ev.step, .int .i64 ev.kind, .int .i64 ev.place, .slice A2 m2 c2'] ∧ IsSlice repByte w3 (all w3) (.slice A2 ev.data.length c2') ev.data)
  have HO2 := hid ho2
  have HM2 := hid hm2
  clear hxA hb5 hs5 hs2 hs2a hx2 ho2 hm2 hg5 hg2 c0 c1 c2 c3
  -- the second one
  go_upto_region 5 with (go_at_call 9; refine (HPR.out _).mono ?_; rintro e w4 ⟨ev', u4, n4, rfl, ho4, hs4, hx4⟩; obtain ⟨A4, c4', rfl⟩ := hs4.shape)
  obtain ⟨he4, hn4⟩ := parse_two HO2.out ho4
  subst he4
  subst hn4
  rw [← HM2.out]
  have hs4a := hs4.any
  have hxB := Ext.trans hx4 (ext_alloc w4 (.cells #[.int .i64 ev'.step, .int .i64 ev'.kind, .int .i64 ev'.place, .slice A4 m2 c4'] 24))
  have hb7 := Blk.new w4 24 #[.int .i64 ev'.step, .int .i64 ev'.kind, .int .i64 ev'.place, .slice A4 m2 c4']
  have hs7 : IsSlice repByte (w4.alloc (.cells #[.int .i64 ev'.step, .int .i64 ev'.kind, .int .i64 ev'.place, .slice A4 m2 c4'] 24)) (all (w4.alloc (.cells #[.int .i64 ev'.step, .int .i64 ev'.kind, .int .i64 ev'.place, .slice A4 m2 c4'] 24))) (.slice A4 ev'.data.length c4') ev'.data := hs4a.ext (ext_alloc _ _)
  obtain ⟨g7, hg7⟩ : ∃ g7, g7 = w4.heap.size := ⟨_, rfl⟩
  rw [← hg7] at hb7 ⊢
  generalize w4.alloc (.cells #[.int .i64 ev'.step, .int .i64 ev'.kind, .int .i64 ev'.place, .slice A4 m2 c4'] 24) = w5 at *
  have HB := hid (⟨Ext.trans HA.out.1 hxB, HA.out.2.1.ext hxB, hb7, HA.out.2.2.ext hxB, hs7⟩ : Ext (w.alloc (.cells #[.int .i64 s, .int .i64 k, .int .i64 p, .slice A dl c] 24)) w5 ∧ Blk w5 g5 24 #[.int .i64 ev'.step, .int .i64 ev'.kind, .int .i64 ev'.place, .slice A2 m2 c2'] ∧ Blk w5 g7 24 #[.int .i64 ev'.step, .int .i64 ev'.kind, .int .i64 ev'.place, .slice A4 m2 c4'] ∧ IsSlice repByte w5 (all w5) (.slice A2 ev'.data.length c2') ev'.data ∧ IsSlice repByte w5 (all w5) (.slice A4 ev'.data.length c4') ev'.data)
  clear hxB hb7 hs7 hs4 hs4a hx4 ho4 hg7 HA HO2 HPR
  -- both lines
  have hbb := HB2.out _ HB.out.1
  have c0 := hbb.cell 0
  have c1 := hbb.cell 1
  have c2 := hbb.cell 2
  have c3 := hbb.cell 3
  clear hbb
  go_upto_region 6 with (go_at_call 10; refine (HSA.out _ (Ext.trans HX.out HB.out.1)).mono ?_; rintro e w6 ⟨rfl, hx6⟩)
  clear c0 c1 c2 c3
  have hbb := HB2.out _ (Ext.trans HB.out.1 hx6)
  have c0 := hbb.cell 0
  have c1 := hbb.cell 1
  have c2 := hbb.cell 2
  have c3 := hbb.cell 3
  have hw6 := Ext.trans HX.out (Ext.trans HB.out.1 hx6)
  have HH6 := hid (⟨hx6, hw6⟩ : Ext w5 w6 ∧ Ext w w6)
  clear hbb hx6 hw6 HSA
  have e1 : (n4 != n4) = false := by simp
  have e2 : (!(T.toList == T.toList)) = false := by simp
  have HLIT := hid lit_ev
  go_upto_region 8 with (first
    | (go_at_call 11; refine (HSR.out _ HH6.out.2).mono ?_; rintro e w7 ⟨rfl, hx7⟩; have hx57 := Ext.trans HH6.out.1 hx7; have b5 := HB.out.2.1.ext hx57; have b7 := HB.out.2.2.1.ext hx57; have s5 := HB.out.2.2.2.1.ext hx57; have s7 := HB.out.2.2.2.2.ext hx57; have d0 := b5.cell 0; have d1 := b5.cell 1; have d2 := b5.cell 2; have d3 := b5.cell 3; have f0 := b7.cell 0; have f1 := b7.cell 1; have f2 := b7.cell 2; have f3 := b7.cell 3; have l5 := b5.lt; have l7 := b7.lt)
    | (go_at_call 12; refine (cnum_any _ _).mono ?_; rintro e w8 ⟨rfl, rfl⟩)
    | (go_at_call 13; refine (sameEv_any _ _ [ev'] _ ((HLIT.out w7 _ ev' A2 m2 c2' _ HM2.out s5 rfl rfl).ext (ext_alloc _ _)) (HLIT.out _ _ ev' A4 m2 c4' _ HM2.out (s7.ext (ext_alloc _ _)) (by simp) rfl)).mono ?_; rintro e w9 ⟨rfl, hx9⟩))
  have hx69 := Ext.trans hx57 (Ext.trans (Ext.trans (ext_alloc w7 (.cells #[.int .i64 ev'.step, .int .i64 ev'.kind, .int .i64 ev'.place, .slice A2 m2 c2'] 24)) (ext_alloc _ (.cells #[.int .i64 ev'.step, .int .i64 ev'.kind, .int .i64 ev'.place, .slice A4 m2 c4'] 24))) hx9)
  have H9 := hid (⟨Ext.trans HB.out.1 hx69, Ext.trans HX.out (Ext.trans HB.out.1 hx69)⟩ : Ext (w.alloc (.cells #[.int .i64 s, .int .i64 k, .int .i64 p, .slice A dl c] 24)) w9 ∧ Ext w w9)
  clear hx69 hx9 hx57 hx7 b5 b7 s5 s7 d0 d1 d2 d3 f0 f1 f2 f3 l5 l7 c0 c1 c2 c3 HB e1 e2 HSR HH6
  by_cases hs : showable ⟨s, k, p, data⟩ = true
  · have hTl : T.toList = showG ⟨s, k, p, data⟩ := by rw [HT.out, bstr_list]
    have hne : T.toList ≠ [] := by rw [hTl]; exact show_ne hs
    have e3 : T.toList.isEmpty = false := by simpa using hne
    have hlen : (showG ⟨s, k, p, data⟩).length ≤ 1000 := by
      rw [showG_pos hs]
      obtain ⟨hk, hs1, hp1⟩ := showable_iff.1 hs
      have i1 := itoa_len hs1.1 hs1.2
      have i2 := itoa_len hp1.1 hp1.2
      have i3 := (wordK_ne hk).2
      have i4 := dataG_len data
      have i5 := HDL.out
      simp only at i1 i2 i3
      simp only [List.length_append, List.length_cons, List.length_nil]
      omega
    have HPT : Wall (Calls Tryd.prog 8 #[.string T] w9 (ParseRes (showG ⟨s, k, p, data⟩) w9)) := hid (by rw [HT.out]; exact parse_any _ w9 (HLL.out.ext H9.out.2) hlen)
    have hps := parse_show hs
    have HPS := hid hps
    have HLV := hid fun W (he : Ext w W) => live35_any W (HLL.out.ext he)
    clear hTl hlen hs hps
    go_upto_region 11 with (go_at_call 8; refine HPT.out.mono ?_; rintro e w10 ⟨ev3, u3, n3, rfl, ho3, hs3, hx10⟩; obtain ⟨A3, c3', rfl⟩ := hs3.shape)
    obtain ⟨hn3, he3⟩ : n3 = 0 ∧ ev3 = ⟨s, k, p, data⟩ := by
      rcases ho3 with ⟨h1, h2⟩ | ⟨_, h2, _⟩
      · rw [HPS.out] at h2
        injection h2 with h2
        exact ⟨h1, h2.symm⟩
      · rw [HPS.out] at h2
        cases h2
    subst hn3
    subst he3
    simp only at hs3 ⊢
    have hs3a : IsSlice repByte w10 (all w10) (.slice A3 data.length c3') data := hs3.any
    rw [← HDL.out]
    have hxC := Ext.trans hx10 (ext_alloc w10 (.cells #[.int .i64 s, .int .i64 k, .int .i64 p, .slice A3 dl c3'] 24))
    have hbC := Blk.new w10 24 #[.int .i64 s, .int .i64 k, .int .i64 p, .slice A3 dl c3']
    have hsC : IsSlice repByte (w10.alloc (.cells #[.int .i64 s, .int .i64 k, .int .i64 p, .slice A3 dl c3'] 24)) (all (w10.alloc (.cells #[.int .i64 s, .int .i64 k, .int .i64 p, .slice A3 dl c3'] 24))) (.slice A3 data.length c3') data := hs3a.ext (ext_alloc _ _)
    obtain ⟨gC, hgC⟩ : ∃ gC, gC = w10.heap.size := ⟨_, rfl⟩
    rw [← hgC] at hbC ⊢
    generalize w10.alloc (.cells #[.int .i64 s, .int .i64 k, .int .i64 p, .slice A3 dl c3'] 24) = w11 at *
    have hw11 := Ext.trans H9.out.2 hxC
    have hb2 := HB2.out _ (Ext.trans H9.out.1 hxC)
    have hvs : IsSlice repByte w11 (all w11) (.slice A data.length c) data := by
      have := HV.out.ext hw11
      rwa [HDL.out] at this
    have HW11 := hid hw11
    have c0 := hb2.cell 0
    have c1 := hb2.cell 1
    have c2 := hb2.cell 2
    have c3 := hb2.cell 3
    have d0 := hbC.cell 0
    have d1 := hbC.cell 1
    have d2 := hbC.cell 2
    have d3 := hbC.cell 3
    have l2 := hb2.lt
    have lC := hbC.lt
    have HVS := hid hvs
    have HSC := hid hsC
    clear hs3 hs3a ho3 hx10 hxC hbC hsC hgC hw11 hb2 hvs
    go_wp2_with (first
      | (go_at_call 12; refine (cnum_any _ _).mono ?_; rintro e w12 ⟨rfl, rfl⟩)
      | (go_at_call 13; refine (sameEv_any _ _ [⟨s, k, p, data⟩] _ ((HLIT.out w11 _ ⟨s, k, p, data⟩ A3 dl c3' _ HDL.out HSC.out rfl rfl).ext (ext_alloc _ _)) (HLIT.out _ _ ⟨s, k, p, data⟩ A dl c _ HDL.out (HVS.out.ext (ext_alloc _ _)) (by simp) rfl)).mono ?_; rintro e w13 ⟨rfl, hx13⟩; have hx13b := Ext.trans HW11.out (Ext.trans (Ext.trans (ext_alloc w11 (.cells #[.int .i64 s, .int .i64 k, .int .i64 p, .slice A3 dl c3'] 24)) (ext_alloc _ (.cells #[.int .i64 s, .int .i64 k, .int .i64 p, .slice A dl c] 24))) hx13))
      | (go_at_call 7; refine (HLV.out _ hx13b).mono ?_; rintro e w14 ⟨rfl, hx14⟩))
    go_ret
    exact ⟨rfl, Ext.trans hx13b hx14⟩
  · have hTl : T.toList = [] := by rw [HT.out, bstr_list]; exact showG_neg (by simpa using hs)
    have e3 : T.toList.isEmpty = true := by rw [hTl]; rfl
    have HLV := hid (live35_any w9 (HLL.out.ext H9.out.2))
    clear hs
    go_wp2_with (go_at_call 7; refine HLV.out.mono ?_; rintro e w14 ⟨rfl, hx14⟩)
    go_ret
    exact ⟨rfl, Ext.trans H9.out.2 hx14⟩
end
end Go.Proofs.YtimlbebockfioaaDoor
