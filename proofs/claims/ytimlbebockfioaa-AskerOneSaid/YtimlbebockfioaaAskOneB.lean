/- The law AskerOne: the settings that may not be, and what is huge; all inputs. -/
import Derived.Test.YtimlbebockfioaaAskOne
namespace Go.Proofs.Ytimlbebockfioaa
open Go.RowKit

set_option maxRecDepth 100000
section
set_option maxHeartbeats 1000000 in
theorem askOne_live (c : Cfg) (vd v : Value) (D : List Int) (acts : List Aa) (W : World) (od : IsSlice (repInt .u64) W (all W) vd D) (hdl : D.length ≤ 17592186044416) (o1 : IsSlice repAa W (all W) v acts)
    (hbad : (c.b < 1 ∨ 64 < c.b) ∨ (1 ≤ c.b ∧ c.b ≤ 64 ∧ (c.room < 1 ∨ 16 < c.room)) ∨ hugeK acts D.length = true) :
    Calls Try.prog 5 #[.agg (cfgVals c).toArray, vd, v] W fun e w' => e = .returned (.bool true) ∧ Ext W w' := by
  have HLV := hid askLive_any
  have hb := Blk.new W 24 (cfgVals c).toArray
  have hx := ext_alloc W (.cells (cfgVals c).toArray 24)
  have HNS := hid fun (w1 : World) (he : Ext (W.alloc (.cells (cfgVals c).toArray 24)) w1) => newSrc_any vd D w1 (od.ext (Ext.trans hx he)) hdl
  obtain ⟨Ad, cd, rfl⟩ := od.shape
  have HHG := hid fun W1 (he : Ext W W1) => hugeK_any v acts W1 (o1.ext he) Ad D.length cd
  obtain ⟨A, n, cc, rfl, _, _, _⟩ := o1
  obtain ⟨hg, hhg⟩ : ∃ hg, hg = hugeK acts D.length := ⟨_, rfl⟩
  rw [← hhg] at HHG hbad
  clear hhg
  have hNP : ∃ nn : Int, (nn ≠ 0 ∨ hg = true) ∧ ∀ w1 gs FD, SrcAt FD (fun _ => False) w1 gs D [] → Calls Try.prog 19 #[.agg (cfgVals c).toArray, .pointer (some ⟨gs, 0, none⟩)] w1 fun e w' => (∃ q, e = .returned (.tuple #[.pointer q, .int .i64 nn])) ∧ Ext w1 w' := by
    by_cases h1 : c.b < 1 ∨ 64 < c.b
    · exact ⟨1, .inl (by decide), fun w1 gs FD _ => (newAkB_any w1 c gs h1).mono fun e w' ⟨h, hx⟩ => ⟨⟨_, h⟩, hx⟩⟩
    · by_cases h2 : c.room < 1 ∨ 16 < c.room
      · exact ⟨1, .inl (by decide), fun w1 gs FD _ => (newAkRoom_any w1 c gs (by omega) (by omega) h2).mono fun e w' ⟨h, hx⟩ => ⟨⟨_, h⟩, hx⟩⟩
      · refine ⟨0, .inr ?_, fun w1 gs FD hs => (newAk_any w1 c gs FD D (by omega) (by omega) (by omega) (by omega) hs).mono fun e w' ⟨ga, gq, gt, b, col, h, _, _, hx⟩ => ⟨⟨_, h⟩, hx⟩⟩
        rcases hbad with h | h | h
        · exact absurd h h1
        · exact absurd h.2.2 h2
        · exact h
  obtain ⟨nn, hnn, hNP⟩ := hNP
  unfold cfgVals at *
  have HNA := hid hNP
  have HBX := hid (fun w1 (he : Ext (W.alloc (.cells #[.int .i64 c.e, .int .i64 c.w, .int .i64 c.m, .int .i64 c.l, .int .i64 c.b, .int .i64 c.room, .int .u64 c.begin_] 24)) w1) => (hb.ext he))
  have b0 := hb.cell 0
  have b1 := hb.cell 1
  have b2 := hb.cell 2
  have b3 := hb.cell 3
  have b4 := hb.cell 4
  have b5 := hb.cell 5
  have b6 := hb.cell 6
  obtain ⟨dl, hdl2⟩ : ∃ dl, dl = D.length := ⟨_, rfl⟩
  rw [← hdl2] at HNS HHG ⊢
  clear hNP hbad hb hdl2 hdl od
  have hsz1 := hx.size
  go_enter Try.func5, Try.ntmps5
  go_upto_region 1 with (fail)
  obtain ⟨w0, hw0⟩ : ∃ w0, w0 = W.alloc (.cells #[.int .i64 c.e, .int .i64 c.w, .int .i64 c.m, .int .i64 c.l, .int .i64 c.b, .int .i64 c.room, .int .u64 c.begin_] 24) := ⟨_, rfl⟩
  rw [← hw0] at b0 b1 b2 b3 b4 b5 b6 HBX HNS hx hsz1 ⊢
  clear hw0
  have HX0 := hid hx
  have HNN := hid hnn
  clear hx hnn
  go_cut [7, 8] (fun s7 s8 wx => ∃ q, s7 = .pointer q ∧ s8 = .int .i64 nn ∧ Wall (Ext w0 wx))
  case first =>
    go_region_with (first
      | (go_at_call 20; have hxd : Ext w0 w0.drew := ext_drewN w0 1; refine (HNS.out _ hxd).mono ?_; rintro e w1 ⟨gs, FD, rfl, hs1, hf1, hl1, hx1'⟩; have hx1 := Ext.trans hxd hx1'; have hbb1 := HBX.out _ hx1; have i0 := hbb1.cell 0; have i1 := hbb1.cell 1; have i2 := hbb1.cell 2; have i3 := hbb1.cell 3; have i4 := hbb1.cell 4; have i5 := hbb1.cell 5; have i6 := hbb1.cell 6)
      | (go_at_call 19; refine (HNA.out _ _ _ hs1).mono ?_; rintro e w2 ⟨⟨q, rfl⟩, hx2⟩))
    all_goals
      have hxx := Ext.trans hx1 hx2
      clear hf1 hs1 hx1 hx1' hxd hx2 hbb1 i0 i1 i2 i3 i4 i5 i6
      go_wp2_with fail
      go_meet
      exact ⟨q, rfl, rfl, hid hxx⟩
  case rest =>
    obtain ⟨q, rfl, rfl, HXC⟩ := hcut
    clear b0 b1 b2 b3 b4 b5 b6 HNS HNA HBX
    cases hg with
    | true =>
      go_wp2_with (first
        | (go_at_call 21; refine (HHG.out _ (Ext.trans HX0.out HXC.out)).mono ?_; rintro e w4 ⟨rfl, rfl⟩)
        | (go_at_call 22; refine (knum_any _ _).mono ?_; rintro e w5 ⟨rfl, rfl⟩)
        | (go_at_call 23; refine (HLV.out _).mono ?_; rintro e w8 ⟨rfl, hx8⟩))
      go_ret
      exact ⟨rfl, Ext.trans (Ext.trans HX0.out HXC.out) hx8⟩
    | false =>
      have hnB : (nn != 0) = true := by
        rcases HNN.out with h | h
        · simpa using h
        · cases h
      clear HNN
      go_wp2_with (first
        | (go_at_call 21; refine (HHG.out _ (Ext.trans HX0.out HXC.out)).mono ?_; rintro e w4 ⟨rfl, rfl⟩)
        | (go_at_call 22; refine (knum_any _ _).mono ?_; rintro e w5 ⟨rfl, rfl⟩)
        | (go_at_call 23; refine (HLV.out _).mono ?_; rintro e w8 ⟨rfl, hx8⟩))
      go_ret
      exact ⟨rfl, Ext.trans (Ext.trans HX0.out HXC.out) hx8⟩
theorem askerOne_main (c : Cfg) (vd v : Value) (D : List Int) (acts : List Aa) (W : World) (od : IsSlice (repInt .u64) W (all W) vd D) (hdl : D.length ≤ 17592186044416) (o1 : IsSlice repAa W (all W) v acts) :
    Calls Try.prog 5 #[.agg (cfgVals c).toArray, vd, v] W fun e w' => e = .returned (.bool true) ∧ Ext W w' := by
  by_cases h2 : c.b < 1 ∨ 64 < c.b
  · exact askOne_live c vd v D acts W od hdl o1 (.inl h2)
  · by_cases h3 : c.room < 1 ∨ 16 < c.room
    · exact askOne_live c vd v D acts W od hdl o1 (.inr (.inl ⟨by omega, by omega, h3⟩))
    · cases h4 : hugeK acts D.length with
      | true => exact askOne_live c vd v D acts W od hdl o1 (.inr (.inr h4))
      | false => exact askOne_main c (by omega) (by omega) (by omega) (by omega) vd v D acts W od o1 h4
end
end Go.Proofs.Ytimlbebockfioaa
