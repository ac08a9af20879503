/- The pusher: a place as it is sent. -/
import Derived.Test.YtimlbebockfioaaPusher
import Derived.Deep.DeepCutAuto
namespace Go.Proofs.Ytimlbebockfioaa
open Go.RowKit

set_option maxRecDepth 100000
section
set_option maxHeartbeats 2000000 in
theorem psSlide_any (F : Nat → Prop) (w : World) (gp gt b : Nat) (c : Cfg) (s : Ps) (h : PsAt F w gp gt b c s) (hc : c.m ≤ 65536) (place : Nat) (hp1 : s.base ≤ place) (x : List UInt8) (hx : s.acc[place]? = some x) (hl : s.acc.length ≤ 1000000) (h64 : x.length ≤ 64) (gx : Nat) (hbox : w.cell? ⟨gx, 0, none⟩ = some (.pointer (some ⟨gp, 0, none⟩))) :
    Calls Try.prog 70 #[.int .i64 (place : Int), .pointer (some ⟨gx, 0, none⟩)] w fun e w' => ∃ v, e = .returned (.agg #[.bool false, .int .i64 (modV place c.m), .int .u64 0, v]) ∧ IsSlice repByte w' (fresh w w') v x ∧ Ext w w' := by
  obtain ⟨lv, hbk, hrow⟩ := h.is
  have hsl := hrow.slice
  obtain ⟨A, n, cc, rfl, hn1, hn2, hr⟩ := hsl
  have hn := hr.1
  rw [List.length_drop] at hn
  have hpl := lt_of_get hx
  obtain ⟨d, hd⟩ : ∃ d, d = place - s.base := ⟨_, rfl⟩
  have hdn : d < n := by omega
  have hxd : (s.acc.drop s.base)[d]? = some x := by rw [List.getElem?_drop, show s.base + d = place from by omega]; exact hx
  obtain ⟨bk, off, A', m, c', y, rfl, hbS, hy, hm1, hm2, hry, hcy⟩ := hr.slice hdn
  obtain rfl : x = y := by rw [hxd] at hy; injection hy
  have hsy : IsSlice repByte w (all w) (.slice A' m c') x := IsSlice.keep ⟨A', m, c', rfl, hm1, hm2, hry⟩ fun b hb => ⟨hb.2, fun _ => rfl⟩
  obtain ⟨_, c2, _, c7, c8, _, _, _, _, _⟩ := psCellsAt hbk
  have hgp := hbk.lt
  have hgx := lt_of_cell' hbox
  have hbk2 := hbS.2
  obtain ⟨B, hB⟩ : ∃ B : Int, B = (s.base : Int) := ⟨_, rfl⟩
  obtain ⟨PL, hPL⟩ : ∃ PL : Int, PL = (place : Int) := ⟨_, rfl⟩
  rw [← hB] at c8
  rw [← hPL]
  have hsub : PL - B = (d : Int) := by omega
  have hPB : 0 ≤ B ∧ B ≤ PL ∧ PL ≤ 1000000 := by omega
  have hwr : IntKind.i64.wrap (PL - B) = (d : Int) := by rw [hsub]; exact IntWalk.i64_in _ (by omega)
  have HM := hid (fun (W : World) => mod_any PL c.m W (by omega))
  obtain ⟨sq, hsq⟩ : ∃ sq, sq = modV PL c.m := ⟨_, rfl⟩
  rw [← hsq] at HM ⊢
  have hx1 := ext_alloc w (.cells #[.bool false, .int .i64 0, .int .u64 0, .slice none 0 0] 41)
  have hb1 := Blk.new w 41 #[.bool false, .int .i64 0, .int .u64 0, .slice none 0 0]
  obtain ⟨gs, hgs⟩ : ∃ gs, gs = w.heap.size := ⟨_, rfl⟩
  have HGS := hid hgs
  have HS := hid (fun (W : World) (he : Ext w W) => (⟨(he.cell hgx 0).trans hbox, (he.cell hgp 2).trans c2, (he.cell hgp 7).trans c7, (he.cell hgp 8).trans c8, (he.cell hbk2 _).trans hcy⟩ :
    W.cell? ⟨gx, 0, none⟩ = some (.pointer (some ⟨gp, 0, none⟩)) ∧ W.cell? ⟨gp, 2, none⟩ = some (.int .i64 c.m) ∧ W.cell? ⟨gp, 7, none⟩ = some (.slice (some ⟨bk, off, none⟩) n cc) ∧ W.cell? ⟨gp, 8, none⟩ = some (.int .i64 B) ∧ W.cell? ⟨bk, off + d, none⟩ = some (.slice A' m c')))
  have HJ := hid (fun (W : World) (v : Value) (hW : IsSlice (repSlice repByte) W (all W) v [x]) => join_any v [x] W hW (by simp; omega))
  have HSY := hid hsy
  have hdlt : (d : Int) < (n : Int) := by omega
  have hd0 : 0 ≤ (d : Int) := by omega
  clear hgs hsq hsy hsub hPL hB hy hxd hd hn hrow hr hry hbk h hx hpl hp1 hcy c2 c7 c8 hbox hbS
  go_enter Try.func70, Try.ntmps70
  go_upto_region 1 with (fail)
  generalize w.alloc (.cells #[.bool false, .int .i64 0, .int .u64 0, .slice none 0 0] 41) = w1 at *
  have HB1 := hid hb1
  have hgs1 := hb1.lt
  clear hb1
  have xd : Ext w w1.drew := Ext.trans hx1 (Below.drew (Below.refl _ _))
  have hlit := (isSlice_lit1 (r := repSlice repByte) (w := w1) (cs := #[.slice A' m c']) (e := 39) (isSlice_single (HSY.out.ext hx1))).ext (w' := (w1.alloc (.cells #[.slice A' m c'] 39)).drew) (Below.drew (Below.refl _ _))
  have xa : Ext w (w1.alloc (.cells #[.slice A' m c'] 39)).drew := Below.drew (Ext.trans hx1 (ext_alloc _ _))
  have HL := hid hlit
  clear hlit
  go_region_held3 (fun W => W.cell? ⟨gx, 0, none⟩ = some (.pointer (some ⟨gp, 0, none⟩)) ∧ W.cell? ⟨gp, 2, none⟩ = some (.int .i64 c.m) ∧ W.cell? ⟨gp, 7, none⟩ = some (.slice (some ⟨bk, off, none⟩) n cc) ∧ W.cell? ⟨gp, 8, none⟩ = some (.int .i64 B) ∧ W.cell? ⟨bk, off + d, none⟩ = some (.slice A' m c'))
    (first | with_reducible exact HS.out _ xd | with_reducible exact HS.out _ xa | with_reducible exact HS.out _ x3 | (refine HS.out _ ?_; repeat (first | exact xd | exact x3 | exact hx1 | refine Below.drew ?_ | refine Below.setCell ?_ (by simp) _ | refine Below.alloc ?_ (by simp) _)))
    (first
      | (go_at_call 71; refine (HM.out _).mono ?_; rintro r w2 ⟨rfl, rfl⟩)
      | (go_at_call 39; refine (HJ.out _ _ HL.out).mono ?_; rintro r w3 ⟨u, rfl, hu, hx3⟩; have x3 := Ext.trans xa hx3; have hu' : IsSlice repByte w3 (fresh (w1.alloc (.cells #[.slice A' m c'] 39)).drew w3) u x := (by simpa using hu); obtain ⟨Au, cu, rfl⟩ := hu'.shape; clear hu; have hb3 := HB1.out.ext (Ext.trans (Below.drew (ext_alloc w1 (.cells #[.slice A' m c'] 39))) hx3); have z0 := hb3.cell 0; have z1 := hb3.cell 1; have z2 := hb3.cell 2; have z3 := hb3.cell 3; have y0 := hb3.frozen 0; have y1 := hb3.frozen 1; have y2 := hb3.frozen 2; have y3 := hb3.frozen 3))
  all_goals
    have hb6 := (((hb3.set_ 0 (.bool false)).set_ 1 (.int .i64 sq)).set_ 2 (.int .u64 0)).set_ 3 (.slice Au x.length cu)
    have ho6 : Only w.heap.size w3 ((((w3.setCell ⟨w.heap.size, 0, none⟩ (.bool false)).setCell ⟨w.heap.size, 1, none⟩ (.int .i64 sq)).setCell ⟨w.heap.size, 2, none⟩ (.int .u64 0)).setCell ⟨w.heap.size, 3, none⟩ (.slice Au x.length cu)) := ((((Only.refl _ _).set_ _ _).set_ _ _).set_ _ _).set_ _ _
    have hb7 : Blk ((((w3.setCell ⟨w.heap.size, 0, none⟩ (.bool false)).setCell ⟨w.heap.size, 1, none⟩ (.int .i64 sq)).setCell ⟨w.heap.size, 2, none⟩ (.int .u64 0)).setCell ⟨w.heap.size, 3, none⟩ (.slice Au x.length cu)) w.heap.size 41 #[.bool false, .int .i64 sq, .int .u64 0, .slice Au x.length cu] := hb6
    have hx6 := ho6.ext_new x3 (Nat.le_refl _)
    have hszu : w1.heap.size ≤ (w1.alloc (.cells #[.slice A' m c'] 39)).drew.heap.size := by simp
    have hu7 : IsSlice repByte ((((w3.setCell ⟨w.heap.size, 0, none⟩ (.bool false)).setCell ⟨w.heap.size, 1, none⟩ (.int .i64 sq)).setCell ⟨w.heap.size, 2, none⟩ (.int .u64 0)).setCell ⟨w.heap.size, 3, none⟩ (.slice Au x.length cu)) (fresh w _) (.slice Au x.length cu) x := hu'.keep fun k hk => ⟨⟨by have := hk.1; omega, Nat.lt_of_lt_of_le hk.2 ho6.size⟩, fun o => ho6.cell hk.2 (by have := hk.1; omega) o⟩
    clear hb6 ho6 z0 z1 z2 z3 y0 y1 y2 y3 hb3
    go_wp2_with fail
    exact bodyPost_ret (results_cell_row rfl _ _ w.heap.size _ _ (0, 0) _ rfl hb7 Try.underlying41 rfl (by kernel_rfl)) rfl ⟨_, rfl, hu7, hx6⟩
end
end Go.Proofs.Ytimlbebockfioaa
