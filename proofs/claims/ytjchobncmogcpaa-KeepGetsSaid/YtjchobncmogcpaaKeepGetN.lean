/- KeepGets: the law's walk. -/
import Derived.Test.YtjchobncmogcpaaKeepGets
namespace Go.Proofs.Ytjchobncmogcpaa
open Go.RowKit
set_option maxRecDepth 100000
section
set_option maxHeartbeats 8000000 in
theorem keepGets_any (v : Value) (xs : List UInt8) (x y : KRun) (u1 u2 z1 z2 : Value) (W : World) (o0 : IsSlice repByte W (all W) v xs)
    (o1 : IsSlice (repInt .u64) W (all W) u1 x.draws) (o2 : IsSlice repCh W (all W) u2 x.chs) (k1 : IsSlice (repInt .u64) W (all W) z1 y.draws) (k2 : IsSlice repCh W (all W) z2 y.chs) :
    Calls Try.prog 7 #[v, .agg (kVals x u1 u2), .agg (kVals y z1 z2)] W fun e w' => e = .returned (.bool true) ∧ Ext W w' := by
  have HLV := hid keepLive_any
  have HHX := hid (fun (V : World) (h : Ext W V) => huge42_any V x _ _ (o1.ext h) (o2.ext h))
  have HHY := hid (fun (V : World) (h : Ext W V) => huge42_any V y _ _ (k1.ext h) (k2.ext h))
  have HS := hid (fun (V : World) (h : Ext W V) => sameRun_any x y _ _ _ _ V (o1.ext h) (o2.ext h) (k1.ext h) (k2.ext h))
  have HSR := hid (fun (V : World) (h : Ext W V) => sameR42_any x y _ _ _ _ V (o1.ext h) (o2.ext h) (k1.ext h) (k2.ext h))
  have HSX := hid (fun (V : World) (h : Ext W V) => by have := sameRun_any x x _ _ _ _ V (o1.ext h) (o2.ext h) (o1.ext h) (o2.ext h); rw [eqB_t (rfl : x = x)] at this; exact this)
  have HGK := hid (fun (V : World) (h : Ext W V) (hl : xs.length ≤ 1000000) => kGot_any v xs V (o0.ext h) hl)
  have HGR := hid (fun (V : World) (h : Ext W V) (hl : xs.length ≤ 1000000) => rGot_any v xs V (o0.ext h) hl)
  have HNum := hid num42_any
  obtain ⟨A0, d0, rfl⟩ := o0.shape
  obtain ⟨A1, d1, rfl⟩ := o1.shape
  obtain ⟨A2, d2, rfl⟩ := o2.shape
  obtain ⟨A3, d3, rfl⟩ := k1.shape
  obtain ⟨A4, d4, rfl⟩ := k2.shape
  obtain ⟨w1, hw1⟩ : ∃ w1, W.alloc (.cells (kVals x (.slice A1 x.draws.length d1) (.slice A2 x.chs.length d2)) 69) = w1 := ⟨_, rfl⟩
  obtain ⟨w2, hw2⟩ : ∃ w2, w1.alloc (.cells (kVals y (.slice A3 y.draws.length d3) (.slice A4 y.chs.length d4)) 69) = w2 := ⟨_, rfl⟩
  have hx1 : Ext W w1 := hw1 ▸ ext_alloc _ _
  have hx2 : Ext w1 w2 := hw2 ▸ ext_alloc _ _
  have hb1 : Blk w1 W.heap.size 69 (kVals x (.slice A1 x.draws.length d1) (.slice A2 x.chs.length d2)) := by rw [← hw1]; exact Blk.new _ _ _
  have hb2 : Blk w2 w1.heap.size 69 (kVals y (.slice A3 y.draws.length d3) (.slice A4 y.chs.length d4)) := by rw [← hw2]; exact Blk.new _ _ _
  have HOX := hid (fun V => of42_any x A1 A2 x.draws.length d1 x.chs.length d2 V)
  have HOY := hid (fun V => of42_any y A3 A4 y.draws.length d3 y.chs.length d4 V)
  have hx := Ext.trans hx1 hx2
  have hb1' := hb1.ext hx2
  have HKX := hid (fun (V : World) (h : Ext w2 V) => kCells (hb1'.ext h))
  have HKY := hid (fun (V : World) (h : Ext w2 V) => kCells (hb2.ext h))
  obtain ⟨p0, p1, p2, p3, p4, p5, p6, p7, p8⟩ := HKX.out _ (Below.refl _ _)
  obtain ⟨q0, q1, q2, q3, q4, q5, q6, q7, q8⟩ := HKY.out _ (Below.refl _ _)
  clear o1 o2 k1 k2 o0 hb1 hb1' hb2
  obtain ⟨G, hG⟩ : ∃ G, G = gotR (crcCheck xs) := ⟨_, rfl⟩
  rw [← hG] at HGK HGR
  clear hG
  unfold kVals at *
  generalize x.draws.length = n1 at *
  generalize x.chs.length = n2 at *
  generalize y.draws.length = n3 at *
  generalize y.chs.length = n4 at *
  by_cases hl : xs.length ≤ 20000
  · replace HGK := hid (fun (V : World) (h : Ext W V) => HGK.out V h (by omega))
    replace HGR := hid (fun (V : World) (h : Ext W V) => HGR.out V h (by omega))
    have hl1 : decide (20000 < xs.length) = false := by simp; omega
    have hl2 : decide ((20000 : Int) < (xs.length : Int)) = false := by simp; omega
    generalize xs.length = n0 at *
    clear hl
    go_enter Try.func7, Try.ntmps7
    go_upto_if 21 with (first
      | (go_at_call 29
         with_reducible refine (HHX.out _ hx).mono ?_
         rintro e w3 ⟨b1, rfl, _, hx3⟩
         obtain ⟨q0, q1, q2, q3, q4, q5, q6, q7, q8⟩ := HKY.out _ hx3
         cases b1)
      | (go_at_call 29
         have _t := hx3
         with_reducible refine (HHY.out _ (Ext.trans hx hx3)).mono ?_
         rintro e w4 ⟨b2, rfl, _, hx4⟩
         cases b2))
    · have xe := Ext.trans (Ext.trans hx hx3) hx4
      obtain ⟨g, en⟩ := G
      go_upto_region 5 with (first
        | (go_at_call 36
           have _t := xA
           refine (HGR.out _ (Ext.trans xe xA)).mono ?_
           rintro e w6 ⟨B3, m3, f3, B4, m4, f4, rfl, hr1, hr2, hx6⟩
           unfold kVals
           have hb9 := Blk.new w6 69 #[.int .i64 g.eng, .int .i64 g.w, .int .i64 g.m, .int .i64 g.l, .int .i64 g.b, .int .i64 g.room, .int .u64 g.beg, .slice B3 m3 f3, .slice B4 m4 f4]
           generalize hwB : w6.alloc (.cells #[.int .i64 g.eng, .int .i64 g.w, .int .i64 g.m, .int .i64 g.l, .int .i64 g.b, .int .i64 g.room, .int .u64 g.beg, .slice B3 m3 f3, .slice B4 m4 f4] 69) = wB
           have hxB : Ext w6 wB := hwB ▸ ext_alloc _ _
           rw [hwB] at hb9
           dsimp only at *)
        | (go_at_call 35
           refine (HGK.out _ xe).mono ?_
           rintro e w5 ⟨B1, m1, f1, B2, m2, f2, rfl, hg1, hg2, hx5⟩
           unfold kVals
           have hb7 := Blk.new w5 73 #[.int .i64 g.eng, .int .i64 g.w, .int .i64 g.m, .int .i64 g.l, .int .i64 g.b, .int .i64 g.room, .int .u64 g.beg, .slice B1 m1 f1, .slice B2 m2 f2]
           have xA := Ext.trans hx5 (ext_alloc w5 (.cells #[.int .i64 g.eng, .int .i64 g.w, .int .i64 g.m, .int .i64 g.l, .int .i64 g.b, .int .i64 g.room, .int .u64 g.beg, .slice B1 m1 f1, .slice B2 m2 f2] 73))
           dsimp only at *))
      have x5B : Ext w5 wB := Ext.trans (Ext.trans (ext_alloc w5 (.cells #[.int .i64 g.eng, .int .i64 g.w, .int .i64 g.m, .int .i64 g.l, .int .i64 g.b, .int .i64 g.room, .int .u64 g.beg, .slice B1 m1 f1, .slice B2 m2 f2] 73)) hx6) hxB
      have xeB : Ext W wB := Ext.trans (Ext.trans xe hx5) x5B
      have x2B : Ext w2 wB := Ext.trans (Ext.trans (Ext.trans hx3 hx4) hx5) x5B
      have hb7B := hb7.ext (Ext.trans hx6 hxB)
      have HSt := hid (fun (w' : World) (he : Ext wB w') => (⟨HKX.out w' (Ext.trans x2B he), HKY.out w' (Ext.trans x2B he), kCells (r := g) (hb7B.ext he), kCells (r := g) (hb9.ext he), he⟩ : (fun w' => (w'.cell? ⟨W.heap.size, 0, none⟩ = some (.int .i64 x.eng) ∧ w'.cell? ⟨W.heap.size, 1, none⟩ = some (.int .i64 x.w) ∧ w'.cell? ⟨W.heap.size, 2, none⟩ = some (.int .i64 x.m) ∧ w'.cell? ⟨W.heap.size, 3, none⟩ = some (.int .i64 x.l) ∧ w'.cell? ⟨W.heap.size, 4, none⟩ = some (.int .i64 x.b) ∧ w'.cell? ⟨W.heap.size, 5, none⟩ = some (.int .i64 x.room) ∧ w'.cell? ⟨W.heap.size, 6, none⟩ = some (.int .u64 x.beg) ∧ w'.cell? ⟨W.heap.size, 7, none⟩ = some (.slice A1 n1 d1) ∧ w'.cell? ⟨W.heap.size, 8, none⟩ = some (.slice A2 n2 d2)) ∧ (w'.cell? ⟨w1.heap.size, 0, none⟩ = some (.int .i64 y.eng) ∧ w'.cell? ⟨w1.heap.size, 1, none⟩ = some (.int .i64 y.w) ∧ w'.cell? ⟨w1.heap.size, 2, none⟩ = some (.int .i64 y.m) ∧ w'.cell? ⟨w1.heap.size, 3, none⟩ = some (.int .i64 y.l) ∧ w'.cell? ⟨w1.heap.size, 4, none⟩ = some (.int .i64 y.b) ∧ w'.cell? ⟨w1.heap.size, 5, none⟩ = some (.int .i64 y.room) ∧ w'.cell? ⟨w1.heap.size, 6, none⟩ = some (.int .u64 y.beg) ∧ w'.cell? ⟨w1.heap.size, 7, none⟩ = some (.slice A3 n3 d3) ∧ w'.cell? ⟨w1.heap.size, 8, none⟩ = some (.slice A4 n4 d4)) ∧ (w'.cell? ⟨w5.heap.size, 0, none⟩ = some (.int .i64 g.eng) ∧ w'.cell? ⟨w5.heap.size, 1, none⟩ = some (.int .i64 g.w) ∧ w'.cell? ⟨w5.heap.size, 2, none⟩ = some (.int .i64 g.m) ∧ w'.cell? ⟨w5.heap.size, 3, none⟩ = some (.int .i64 g.l) ∧ w'.cell? ⟨w5.heap.size, 4, none⟩ = some (.int .i64 g.b) ∧ w'.cell? ⟨w5.heap.size, 5, none⟩ = some (.int .i64 g.room) ∧ w'.cell? ⟨w5.heap.size, 6, none⟩ = some (.int .u64 g.beg) ∧ w'.cell? ⟨w5.heap.size, 7, none⟩ = some (.slice B1 m1 f1) ∧ w'.cell? ⟨w5.heap.size, 8, none⟩ = some (.slice B2 m2 f2)) ∧ (w'.cell? ⟨w6.heap.size, 0, none⟩ = some (.int .i64 g.eng) ∧ w'.cell? ⟨w6.heap.size, 1, none⟩ = some (.int .i64 g.w) ∧ w'.cell? ⟨w6.heap.size, 2, none⟩ = some (.int .i64 g.m) ∧ w'.cell? ⟨w6.heap.size, 3, none⟩ = some (.int .i64 g.l) ∧ w'.cell? ⟨w6.heap.size, 4, none⟩ = some (.int .i64 g.b) ∧ w'.cell? ⟨w6.heap.size, 5, none⟩ = some (.int .i64 g.room) ∧ w'.cell? ⟨w6.heap.size, 6, none⟩ = some (.int .u64 g.beg) ∧ w'.cell? ⟨w6.heap.size, 7, none⟩ = some (.slice B3 m3 f3) ∧ w'.cell? ⟨w6.heap.size, 8, none⟩ = some (.slice B4 m4 f4)) ∧ Ext wB w') w'))
      have HTold := hid (fun V => told42_any g B1 B2 m1 f1 m2 f2 V)
      have HRR := hid (fun (V : World) (h : Ext wB V) => by have := sameR42_any g g _ _ _ _ V (hg1.ext (Ext.trans x5B h)) (hg2.ext (Ext.trans x5B h)) (hr1.ext (Ext.trans hxB h)) (hr2.ext (Ext.trans hxB h)); rw [eqB_t (rfl : g = g)] at this; exact this)
      unfold kVals at HTold HRR
      generalize eqB x y = BB at HS HSR
      have hBB : (BB == BB) = true := by simp
      have xd : Ext wB wB.drew := Below.drew (Below.refl _ _)
      clear hg1 hg2 hr1 hr2 hb7 hb9 hb7B hwB
      go_region_held3 (fun w' => (w'.cell? ⟨W.heap.size, 0, none⟩ = some (.int .i64 x.eng) ∧ w'.cell? ⟨W.heap.size, 1, none⟩ = some (.int .i64 x.w) ∧ w'.cell? ⟨W.heap.size, 2, none⟩ = some (.int .i64 x.m) ∧ w'.cell? ⟨W.heap.size, 3, none⟩ = some (.int .i64 x.l) ∧ w'.cell? ⟨W.heap.size, 4, none⟩ = some (.int .i64 x.b) ∧ w'.cell? ⟨W.heap.size, 5, none⟩ = some (.int .i64 x.room) ∧ w'.cell? ⟨W.heap.size, 6, none⟩ = some (.int .u64 x.beg) ∧ w'.cell? ⟨W.heap.size, 7, none⟩ = some (.slice A1 n1 d1) ∧ w'.cell? ⟨W.heap.size, 8, none⟩ = some (.slice A2 n2 d2)) ∧ (w'.cell? ⟨w1.heap.size, 0, none⟩ = some (.int .i64 y.eng) ∧ w'.cell? ⟨w1.heap.size, 1, none⟩ = some (.int .i64 y.w) ∧ w'.cell? ⟨w1.heap.size, 2, none⟩ = some (.int .i64 y.m) ∧ w'.cell? ⟨w1.heap.size, 3, none⟩ = some (.int .i64 y.l) ∧ w'.cell? ⟨w1.heap.size, 4, none⟩ = some (.int .i64 y.b) ∧ w'.cell? ⟨w1.heap.size, 5, none⟩ = some (.int .i64 y.room) ∧ w'.cell? ⟨w1.heap.size, 6, none⟩ = some (.int .u64 y.beg) ∧ w'.cell? ⟨w1.heap.size, 7, none⟩ = some (.slice A3 n3 d3) ∧ w'.cell? ⟨w1.heap.size, 8, none⟩ = some (.slice A4 n4 d4)) ∧ (w'.cell? ⟨w5.heap.size, 0, none⟩ = some (.int .i64 g.eng) ∧ w'.cell? ⟨w5.heap.size, 1, none⟩ = some (.int .i64 g.w) ∧ w'.cell? ⟨w5.heap.size, 2, none⟩ = some (.int .i64 g.m) ∧ w'.cell? ⟨w5.heap.size, 3, none⟩ = some (.int .i64 g.l) ∧ w'.cell? ⟨w5.heap.size, 4, none⟩ = some (.int .i64 g.b) ∧ w'.cell? ⟨w5.heap.size, 5, none⟩ = some (.int .i64 g.room) ∧ w'.cell? ⟨w5.heap.size, 6, none⟩ = some (.int .u64 g.beg) ∧ w'.cell? ⟨w5.heap.size, 7, none⟩ = some (.slice B1 m1 f1) ∧ w'.cell? ⟨w5.heap.size, 8, none⟩ = some (.slice B2 m2 f2)) ∧ (w'.cell? ⟨w6.heap.size, 0, none⟩ = some (.int .i64 g.eng) ∧ w'.cell? ⟨w6.heap.size, 1, none⟩ = some (.int .i64 g.w) ∧ w'.cell? ⟨w6.heap.size, 2, none⟩ = some (.int .i64 g.m) ∧ w'.cell? ⟨w6.heap.size, 3, none⟩ = some (.int .i64 g.l) ∧ w'.cell? ⟨w6.heap.size, 4, none⟩ = some (.int .i64 g.b) ∧ w'.cell? ⟨w6.heap.size, 5, none⟩ = some (.int .i64 g.room) ∧ w'.cell? ⟨w6.heap.size, 6, none⟩ = some (.int .u64 g.beg) ∧ w'.cell? ⟨w6.heap.size, 7, none⟩ = some (.slice B3 m3 f3) ∧ w'.cell? ⟨w6.heap.size, 8, none⟩ = some (.slice B4 m4 f4)) ∧ Ext wB w')
        (first | with_reducible exact HSt.out _ xd)
        (first
          | (go_at_call 34; refine (HNum.out _ _).mono ?_; rintro e y1 ⟨rfl, rfl⟩)
          | (go_at_call 38; refine (HTold.out _).mono ?_; rintro e y1 ⟨rfl, hz1⟩; have xd := Ext.trans xd hz1)
          | (go_at_call 37; with_reducible refine (HRR.out _ xd).mono ?_; rintro e y1 ⟨rfl, hz1⟩; have xd := Ext.trans xd hz1)
          | (go_at_call 37; with_reducible refine (HSR.out _ (Ext.trans xeB xd)).mono ?_; rintro e y1 ⟨rfl, hz1⟩; have xd := Ext.trans xd hz1)
          | (go_at_call 32; with_reducible refine (HOX.out _).mono ?_; rintro e y1 ⟨rfl, hz1⟩; have xd := Ext.trans xd hz1)
          | (go_at_call 32; with_reducible refine (HOY.out _).mono ?_; rintro e y1 ⟨rfl, hz1⟩; have xd := Ext.trans xd hz1)
          | (go_at_call 39; with_reducible refine (HS.out _ (Ext.trans xeB xd)).mono ?_; rintro e y1 ⟨rfl, hz1⟩; have xd := Ext.trans xd hz1)
          | (go_at_call 39; with_reducible refine (HSX.out _ (Ext.trans xeB xd)).mono ?_; rintro e y1 ⟨rfl, hz1⟩; have xd := Ext.trans xd hz1)
          | (go_at_call 30; refine (HLV.out _).mono ?_; rintro e y1 ⟨rfl, hz1⟩; have xd := Ext.trans xd hz1))
      all_goals
        go_wp2_with fail
        go_ret
        exact ⟨rfl, Ext.trans xeB xd⟩
    · go_wp2_with (go_at_call 30; refine (HLV.out _).mono ?_; rintro e w8 ⟨rfl, hx8⟩)
      go_ret
      exact ⟨rfl, Ext.trans (Ext.trans (Ext.trans hx hx3) hx4) hx8⟩
    · go_wp2_with (go_at_call 30; refine (HLV.out _).mono ?_; rintro e w8 ⟨rfl, hx8⟩)
      go_ret
      exact ⟨rfl, Ext.trans (Ext.trans hx hx3) hx8⟩
  · have hl1 : decide (20000 < xs.length) = true := by simp; omega
    have hl2 : decide ((20000 : Int) < (xs.length : Int)) = true := by simp; omega
    generalize xs.length = n0 at *
    clear hl
    go_enter Try.func7, Try.ntmps7
    go_wp2_with (go_at_call 30; refine (HLV.out _).mono ?_; rintro e w8 ⟨rfl, hx8⟩)
    go_ret
    exact ⟨rfl, Ext.trans hx hx8⟩
theorem keepGets_frame (v : Value) (xs : List UInt8) (cs1 cs2 : Array Value) (x y : KRun) (W : World) (o0 : IsSlice repByte W (all W) v xs) (h1 : repRun.holds W (all W) (Value.agg cs1).cells.toList x) (h2 : repRun.holds W (all W) (Value.agg cs2).cells.toList y) :
    Calls Try.prog 7 #[v, .agg cs1, .agg cs2] W fun e w' => e = .returned (.bool true) ∧ Ext W w' := by
  obtain ⟨u1, u2, rfl, _, a1, a2⟩ := run_open h1
  obtain ⟨z1, z2, rfl, _, b1, b2⟩ := run_open h2
  exact keepGets_any v xs x y u1 u2 z1 z2 W o0 a1 a2 b1 b2
end
end Go.Proofs.Ytjchobncmogcpaa
