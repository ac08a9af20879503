/- The asker: Take. -/
import Derived.Test.YtimlbebockfioaaAsk5
namespace Go.Proofs.Ytimlbebockfioaa
open Go.RowKit

set_option maxRecDepth 100000
section
variable {col : Nat → Nat} {w : World} {ga gq gt b gs : Nat} {most room : Int} {s : Ak}
set_option maxHeartbeats 2000000 in
theorem akTakeQ_any (h : AkAt col w ga gq gt b gs most room s) (hq : s.q = []) (kd t c r : Int) (A : Option Addr) (n cv : Nat) :
    Calls Try.prog 27 #[.pointer (some ⟨ga, 0, none⟩), .agg #[.int .i64 kd, .int .u64 t, .int .u64 c, .int .u64 r, .slice A n cv]] w fun e w' => e = .returned (.slice none 0 0) ∧ Ext w w' := by
  have hx1 := ext_alloc w (.cells #[.int .i64 kd, .int .u64 t, .int .u64 c, .int .u64 r, .slice A n cv] 69)
  have h1 := h.ext hx1
  have HI := hid fun n => akIs_any (h1.ext (ext_drewN _ n))
  have hl := h1.q
  rw [hq] at hl
  have HL := hid fun n => lenF_any (hl.ext (ext_drewN _ n))
  obtain ⟨tv, hb, _⟩ := h1.is
  obtain ⟨c0, _⟩ := akCellsAt hb
  clear h hb hq h1 hl
  go_enter Try.func27, Try.ntmps27
  go_upto_region 1 with (fail)
  generalize w.alloc (.cells #[.int .i64 kd, .int .u64 t, .int .u64 c, .int .u64 r, .slice A n cv] 69) = w1 at *
  go_quiet (first
    | (go_at_call 51; first | exact q_same (HI.out _) | exact q_same2 (HI.out _))
    | (go_at_call 52; first | exact q_same (HL.out _) | exact q_same2 (HL.out _)))
  go_wp2
  go_ret
  exact ⟨rfl, Ext.trans hx1 (ext_drewN _ _)⟩
set_option maxHeartbeats 4000000 in
theorem akTake_any (h : AkAt col w ga gq gt b gs most room s) (ok : AkOk most room s) (hD : s.D.length ≤ 1000) (hacc : s.acc ≤ 900) (x : Tk) (A : Option Addr) (n cv : Nat) :
    Calls Try.prog 27 #[.pointer (some ⟨ga, 0, none⟩), .agg #[.int .i64 x.kind, .int .u64 x.t, .int .u64 x.c, .int .u64 x.r, .slice A n cv]] w fun e w' => ∃ u, e = .returned u ∧ AkRes col w ga gq gt b gs most room (takeK s x).1 u (takeK s x).2 w' := by
  cases hq : s.q with
  | nil =>
    have htk : takeK s x = (s, []) := by unfold takeK; rw [if_pos (.inl hq)]
    rw [htk]
    refine (akTakeQ_any h hq x.kind x.t x.c x.r A n cv).mono ?_
    rintro e w' ⟨rfl, hx⟩
    exact ⟨_, rfl, AkRes.nil (h.ext hx) (fun k => .inl rfl) (Out.of_ext hx)⟩
  | cons m q =>
    obtain ⟨kd, xt, xc, xr, data⟩ := x
    simp only
    have hx1 := ext_alloc w (.cells #[.int .i64 kd, .int .u64 xt, .int .u64 xc, .int .u64 xr, .slice A n cv] 69)
    have h1 := h.ext hx1
    have HI := hid fun n => akIs_any (h1.ext (ext_drewN _ n))
    have HL := hid fun n => lenF_any (h1.q.ext (ext_drewN _ n))
    have hqn : s.q ≠ [] := by rw [hq]; simp
    obtain ⟨tv, hb, _⟩ := h1.is
    obtain ⟨c0, _, _, _, _, c5, c6, c7, _⟩ := akCellsAt hb
    have hbx := Blk.new w 69 #[.int .i64 kd, .int .u64 xt, .int .u64 xc, .int .u64 xr, .slice A n cv]
    obtain ⟨QL, hQL⟩ : ∃ QL, QL = s.q.length := ⟨_, rfl⟩
    rw [← hQL] at HL
    have hz : 0 < QL := by rw [hQL, hq]; simp
    have hzB : (QL == 0) = false := by simp; omega
    have hzB2 : ((QL : Int) == 0) = false := by simp; omega
    have HA := hid h
    have HOK := hid ok
    have HON := hid fun (w1 : World) (h1 : AkAt col w1 ga gq gt b gs most room s) (o : Int) (ho : (Lit.int .i64 o).wf = true) => akOn_any h1 ok hD hacc m q hq o ho
    obtain ⟨ST, hST⟩ : ∃ ST, ST = s.t := ⟨_, rfl⟩
    obtain ⟨SR, hSR⟩ : ∃ SR, SR = s.r := ⟨_, rfl⟩
    obtain ⟨SB, hSB⟩ : ∃ SB, SB = s.bound := ⟨_, rfl⟩
    have htk : takeK s ⟨kd, xt, xc, xr, data⟩ = if xt ≠ ST then (s, []) else if kd = 3 then onK s 1 else if kd = 1 then (if SB = true ∧ xr ≠ SR then onK s 2 else (⟨s.q, s.T, s.D, s.U, s.acc, s.t, xr, true, s.told⟩, [⟨2, ST, xc, 0, m⟩])) else (s, []) := by
      unfold takeK
      simp only [← hST, ← hSR, ← hSB, hq, List.headD_cons, reduceCtorEq, false_or]
    have HTK := hid htk
    rw [← hST] at c5
    rw [← hSR] at c6
    rw [← hSB] at c7
    have HB := hid hb
    have HQ := hid hq
    have HSTT := hid hST
    have HSRR := hid hSR
    have HSBB := hid hSB
    clear h hb h1 hqn hQL hz hST hSR hSB htk ok hq
    go_enter Try.func27, Try.ntmps27
    go_upto_region 1 with (fail)
    generalize w.alloc (.cells #[.int .i64 kd, .int .u64 xt, .int .u64 xc, .int .u64 xr, .slice A n cv] 69) = w1 at *
    obtain ⟨gx, hgx⟩ : ∃ gx, gx = w.heap.size := ⟨_, rfl⟩
    rw [← hgx] at hbx ⊢
    have HGX := hid hgx
    clear hgx
    have b0 := hbx.cell 0
    have b1 := hbx.cell 1
    have b2 := hbx.cell 2
    have b3 := hbx.cell 3
    by_cases ht : xt = ST
    · subst ht
      have htB : (xt != xt) = false := by simp
      go_quiet (first
        | (go_at_call 51; first | exact q_same (HI.out _) | exact q_same2 (HI.out _))
        | (go_at_call 52; first | exact q_same (HL.out _) | exact q_same2 (HL.out _)))
      have hxw := Ext.trans hx1 (ext_drewN w1 nq)
      have hbx2 := hbx.drewN nq
      have hb2 := HB.out.drewN nq
      have hA2 := HA.out.ext hxw
      clear hx1 hbx c0 c5 c6 c7 b0 b1 b2 b3 HB HI HL
      generalize w1.drewN nq = w2 at *
      have b0 := hbx2.cell 0
      have b2 := hbx2.cell 2
      have b3 := hbx2.cell 3
      obtain ⟨c0, _, _, _, _, c5, c6, c7, _⟩ := akCellsAt hb2
      rw [← HSTT.out] at c5
      rw [← HSRR.out] at c6
      rw [← HSBB.out] at c7
      have htk := HTK.out
      rw [if_neg (by simp)] at htk
      by_cases hk3 : kd = 3
      · subst hk3
        rw [if_pos rfl] at htk
        have HTK2 := hid htk
        have HO := hid (HON.out w2 hA2 1 (by decide))
        clear htk HTK hA2
        go_wp2_with (go_at_call 56; refine HO.out.mono ?_; rintro e w3 ⟨u, rfl, hres⟩)
        go_ret
        rw [HTK2.out]
        exact ⟨u, rfl, hres.after HA.out.lt (fun k => .inl rfl) (Out.of_ext hxw)⟩
      · have q3 : (kd == 3) = false := by simpa using hk3
        rw [if_neg hk3] at htk
        by_cases hk1 : kd = 1
        · subst hk1
          rw [if_pos rfl] at htk
          by_cases hbr : SB = true ∧ xr ≠ SR
          · rw [if_pos hbr] at htk
            obtain ⟨rfl, hne⟩ := hbr
            have hrB : (xr != SR) = true := by simpa using hne
            have HTK2 := hid htk
            have HO := hid (HON.out w2 hA2 2 (by decide))
            clear htk HTK hA2 hk3 hne
            go_wp2
            go_quiet (fail)
            have HO2 := hid (HO.out.mono fun e w' h => h)
            have hx3 := ext_drewN w2 nq
            have HO3 := hid (HON.out _ (HA.out.ext (Ext.trans hxw hx3)) 2 (by decide))
            go_wp2_with (go_at_call 56; refine HO3.out.mono ?_; rintro e w3 ⟨u, rfl, hres⟩)
            go_ret
            rw [HTK2.out]
            exact ⟨u, rfl, hres.after HA.out.lt (fun k => .inl rfl) (Out.of_ext (Ext.trans hxw hx3))⟩
          · rw [if_neg hbr] at htk
            have hcs : SB = false ∨ (SB = true ∧ (xr != SR) = false) := by
              cases hSB : SB with
              | false => exact .inl rfl
              | true => exact .inr ⟨rfl, by simpa using fun h => hbr ⟨hSB, h⟩⟩
            have HTK2 := hid htk
            have hga2 := hb2.lt
            clear htk HTK hk3 hbr hA2 HON
            go_upto_region 8 with (fail)
            have hq8 : ∀ (K : Prop), K → K := fun _ h => h
            rcases hcs with hsb | ⟨hsb, hrB⟩
            case' inl =>
              subst hsb
              go_quiet (fail)
            case' inr =>
              subst hsb
              go_quiet (fail)
            all_goals
              go_upto_region 10 with (fail)
              have hx3 := ext_drewN w2 nq
              have hb3 := hb2.ext hx3
              have hbx3 := hbx2.ext hx3
              have hA3 := HA.out.ext (Ext.trans hxw hx3)
              clear c0 c5 c6 c7 b0 b2 b3 hq8
              generalize w2.drewN nq = w3 at *
              obtain ⟨c0, _, _, _, _, c5, c6, c7, _⟩ := akCellsAt hb3
              have b2 := hbx3.cell 2
              have b3 := hbx3.cell 3
              have y6 := hb3.frozen 6
              have y7 := hb3.frozen 7
              have ho4 : Only ga w3 ((w3.setCell ⟨ga, 7, none⟩ (.bool true)).setCell ⟨ga, 6, none⟩ (.int .u64 xr)).drew := (((Only.refl _ _).set_ _ _).set_ _ _).then (Below.drew (Below.refl _ _))
              have hb4 : Blk ((w3.setCell ⟨ga, 7, none⟩ (.bool true)).setCell ⟨ga, 6, none⟩ (.int .u64 xr)).drew ga 112 (akCells gq gt gs s.acc s.told.length s.t xr true tv) := (hb3.set_ 7 (.bool true)).set_ 6 (.int .u64 xr)
              have hA4 := hA3.own ho4 (akCellsAt hb3).2.2.2.2.2.2.2.2 hb4
              have hbx4 := hbx3.grown ho4 (fun e => by injection e with e; have := HA.out.lt ga (by rw [HA.out.ca]; omega); have := HGX.out; omega)
              have HA4 := hid hA4
              have HO4 := hid ho4
              have HB4 := hid hb4
              have HBX4 := hid hbx4
              have hq4 := hA4.q
              simp only at hq4
              rw [HQ.out] at hq4
              have HFR := hid (frontF_any hq4)
              have hx03 := Ext.trans hxw hx3
              clear hA4 hA3 hb3 hbx3 hq4 hb2 hbx2
              go_region_law (fail)
              all_goals
                clear ho4 hb4 hbx4 c0 c5 c6 c7 b2 b3 y6 y7
                generalize ((w3.setCell ⟨ga, 7, none⟩ (.bool true)).setCell ⟨ga, 6, none⟩ (.int .u64 xr)).drew = w4 at *
                have c0 := (akCellsAt HB4.out).1
                go_upto_region 12 with (go_at_call 57; refine HFR.out.mono ?_; rintro e w5 ⟨u5, rfl, hu5, hx5⟩)
                obtain ⟨A5, c5', rfl⟩ := hu5.shape
                have HU5 := hid hu5
                have hgx4 := HBX4.out.lt
                have hga4 := HB4.out.lt
                clear hu5
                refine still_tailT 9 (by kernel_rfl) (by kernel_rfl) ?_
                intro w6 hw6
                have hx46 : Ext w4 w6 := by rw [hw6]; exact Ext.trans hx5 (ext_drewN _ 1)
                have hx56 : Ext w5 w6 := by rw [hw6]; exact ext_drewN _ 1
                clear hw6
                have i5 : w6.cell? ⟨ga, 5, none⟩ = some (.int .u64 xt) := by
                  have h5 := (akCellsAt (HB4.out.ext hx46)).2.2.2.2.2.1
                  rwa [← HSTT.out] at h5
                have i2 : w6.cell? ⟨gx, 2, none⟩ = some (.int .u64 xc) := (HBX4.out.ext hx46).cell 2
                simp only [List.take_succ_cons, List.take_zero, List.drop_succ_cons, List.drop_zero]
                repeat still_step
                refine wpStill_nil ?_
                go_wp2
                go_ret
                rw [HTK2.out]
                have hz5 := hx5.size
                have hz6 := hx56.size
                have hz4 := HO4.out.size
                have hz3 := hx03.size
                have hLL := own_lit1 (r := repTk) (base := w4.heap.size) (w := w6) (e := 69) (x := ⟨2, xt, xc, 0, m⟩) (cs := #[.int .i64 2, .int .u64 xt, .int .u64 xc, .int .u64 0, .slice A5 m.length c5']) (Nat.le_trans hz5 hz6) ⟨_, rfl, (HU5.out.later hx56).keep fun k hk => ⟨hk, fun _ => rfl⟩⟩
                have hxa := ext_alloc w6 (.cells #[.int .i64 2, .int .u64 xt, .int .u64 xc, .int .u64 0, .slice A5 m.length c5'] 69)
                refine ⟨_, rfl, col, HA4.out.ext (Ext.trans hx46 hxa), fun k => .inl rfl, hLL.own.keep fun k hk => ⟨⟨⟨by have := hk.1; omega, hk.2⟩, Classical.byContradiction fun hc => by have := HA.out.lt k hc; have := hk.1; omega⟩, fun _ => rfl⟩, ?_⟩
                exact (((Out.of_ext (X := fun k => col k ≠ 0) hx03).trans (Out.of_only HO4.out (by rw [HA.out.ca]; omega))).then hx46).then hxa
        · have q1 : (kd == 1) = false := by simpa using hk1
          rw [if_neg hk1] at htk
          have HTK2 := hid htk
          clear htk HTK hk1 hk3
          by_cases hk0 : kd = 0
          · subst hk0
            go_wp2
            go_ret
            rw [HTK2.out]
            exact ⟨_, rfl, AkRes.nil hA2 (fun k => .inl rfl) (Out.of_ext hxw)⟩
          · have q0 : (kd == 0) = false := by simpa using hk0
            clear hk0
            go_wp2
            go_ret
            rw [HTK2.out]
            exact ⟨_, rfl, AkRes.nil hA2 (fun k => .inl rfl) (Out.of_ext hxw)⟩
    · have htB : (xt != ST) = true := by simpa using ht
      go_quiet (first
        | (go_at_call 51; first | exact q_same (HI.out _) | exact q_same2 (HI.out _))
        | (go_at_call 52; first | exact q_same (HL.out _) | exact q_same2 (HL.out _)))
      go_wp2
      go_ret
      rw [HTK.out, if_pos ht]
      have hx := Ext.trans hx1 (ext_drewN w1 nq)
      exact ⟨_, rfl, AkRes.nil (HA.out.ext hx) (fun k => .inl rfl) (Out.of_ext hx)⟩
end
end Go.Proofs.Ytimlbebockfioaa
