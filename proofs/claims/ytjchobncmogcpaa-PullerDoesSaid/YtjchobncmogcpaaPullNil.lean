/- The walk of PullerNil: what a nil puller makes; which settings may not be. -/
import Derived.WalkLawsBesides
import Derived.Test.YtjchobncmogcpaaPullLive
namespace Go.Proofs.Ytjchobncmogcpaa
open Go.RowKit

set_option maxRecDepth 100000
section
theorem recvZ_any (w : World) : Calls Try.prog 17 #[.pointer none] w fun e w' => e = .returned (.tuple #[.slice none 0 0, .slice none 0 0, .bool false]) ∧ w = w' := by
  go_enter Try.func17, Try.ntmps17
  go_wp2_with (go_at_call 70; refine (isPNil_any _).mono ?_; rintro e w2 ⟨rfl, rfl⟩)
  refine bodyPost_ret (results3 rfl _ _ _) rfl ⟨rfl, rfl⟩
theorem takeZ_any (w : World) (a : Bool) (q t : Int) (v : Value) : Calls Try.prog 19 #[.pointer none, .agg #[.bool a, .int .i64 q, .int .u64 t, v]] w fun e w' => e = .returned (.slice none 0 0) ∧ Ext w w' := by
  go_enter Try.func19, Try.ntmps19
  go_wp2_with (go_at_call 70; refine (isPNil_any _).mono ?_; rintro e w2 ⟨rfl, rfl⟩)
  go_ret
  exact ⟨rfl, ext_alloc _ _⟩
theorem keptZ_any (w : World) : Calls Try.prog 20 #[.pointer none] w fun e w' => e = .returned (.slice none 0 0) ∧ w = w' := by
  go_enter Try.func20, Try.ntmps20
  go_wp2_with (go_at_call 70; refine (isPNil_any _).mono ?_; rintro e w2 ⟨rfl, rfl⟩)
  go_ret
  exact ⟨rfl, rfl⟩
theorem aheadZ_any (w : World) : Calls Try.prog 28 #[.pointer none] w fun e w' => e = .returned (.slice none 0 0) ∧ w = w' := by
  go_enter Try.func28, Try.ntmps28
  go_wp2_with (go_at_call 70; refine (isPNil_any _).mono ?_; rintro e w2 ⟨rfl, rfl⟩)
  go_ret
  exact ⟨rfl, rfl⟩
theorem stateZ_any (w : World) : Calls Try.prog 18 #[.pointer none] w fun e w' => e = .returned (.agg #[.int .i64 0, .int .i64 0]) ∧ Ext w w' := by
  have hb := Blk.new w 38 #[.int .i64 0, .int .i64 0]
  have b0 := hb.cell 0
  have b1 := hb.cell 1
  have k0 := hb.frozen 0
  have k1 := hb.frozen 1
  go_enter Try.func18, Try.ntmps18
  go_wp2_with (go_at_call 70; refine (isPNil_any _).mono ?_; rintro e w2 ⟨rfl, rfl⟩)
  exact bodyPost_ret (results_cell_row rfl _ _ w.heap.size _ _ (0, 0) _ rfl (Blk.new w 38 #[.int .i64 0, .int .i64 0]) Try.underlying38 rfl (by kernel_rfl)) rfl ⟨rfl, ext_alloc _ _⟩
theorem checkRingR_any (w m l : Int) (W : World) (hw : (Lit.int .i64 w).wf = true) :
    Calls Try.prog 77 #[.int .i64 w, .int .i64 m, .int .i64 l] W fun e w' => e = .returned (.int .i64 (checkV w m l)) ∧ W = w' := by
  have hwb := bounds_i64 hw
  clear hw
  by_cases h1 : l < 1
  · have he : checkV w m l = 222 := by unfold checkV; rw [if_pos (.inl h1)]
    rw [he]; clear he
    go_enter Try.func77, Try.ntmps77
    go_wp2
    go_ret
    exact ⟨rfl, rfl⟩
  by_cases h2 : 4096 < l
  · have he : checkV w m l = 222 := by unfold checkV; rw [if_pos (.inr h2)]
    rw [he]; clear he
    go_enter Try.func77, Try.ntmps77
    go_wp2
    go_ret
    exact ⟨rfl, rfl⟩
  by_cases h3 : w < 1
  · have he : checkV w m l = 220 := by unfold checkV; rw [if_neg (by omega), if_pos (.inl h3)]
    rw [he]; clear he
    go_enter Try.func77, Try.ntmps77
    go_wp2
    go_ret
    exact ⟨rfl, rfl⟩
  by_cases h4 : l < w
  · have he : checkV w m l = 220 := by unfold checkV; rw [if_neg (by omega), if_pos (by omega)]
    rw [he]; clear he
    go_enter Try.func77, Try.ntmps77
    go_wp2
    go_ret
    exact ⟨rfl, rfl⟩
  by_cases h5 : 64 < w
  · have he : checkV w m l = 220 := by unfold checkV; rw [if_neg (by omega), if_pos (by omega)]
    rw [he]; clear he
    go_enter Try.func77, Try.ntmps77
    go_wp2
    go_ret
    exact ⟨rfl, rfl⟩
  by_cases h6 : m ≤ 2 * (w + l)
  · have he : checkV w m l = 221 := by unfold checkV; rw [if_neg (by omega), if_neg (by omega), if_pos (.inr h6)]
    rw [he]; clear he
    go_enter Try.func77, Try.ntmps77
    go_wp2
    go_ret
    exact ⟨rfl, rfl⟩
  by_cases h7 : 65536 < m
  · have he : checkV w m l = 221 := by unfold checkV; rw [if_neg (by omega), if_neg (by omega), if_pos (.inl h7)]
    rw [he]; clear he
    go_enter Try.func77, Try.ntmps77
    go_wp2
    go_ret
    exact ⟨rfl, rfl⟩
  · have he : checkV w m l = 0 := by unfold checkV; rw [if_neg (by omega), if_neg (by omega), if_neg (by omega)]
    rw [he]; clear he
    go_enter Try.func77, Try.ntmps77
    go_wp2
    go_ret
    exact ⟨rfl, rfl⟩
theorem newQRBad_any (room : Int) (w : World) (h : room < 1 ∨ 16 < room) :
    Calls Try.prog 78 #[.int .i64 room] w fun e w' => e = .returned (.tuple #[.pointer none, .int .i64 1]) ∧ w = w' := by
  by_cases h1 : room < 1
  · clear h
    go_enter Try.func78, Try.ntmps78
    go_wp2
    go_ret2
    exact ⟨rfl, rfl⟩
  · have h2 : 16 < room := by omega
    clear h
    go_enter Try.func78, Try.ntmps78
    go_wp2
    go_ret2
    exact ⟨rfl, rfl⟩
theorem newQR_any (room : Int) (w : World) (h1 : 1 ≤ room) (h2 : room ≤ 16) :
    Calls Try.prog 78 #[.int .i64 room] w fun e w' => e = .returned (.tuple #[.pointer (some ⟨w.heap.size, 0, none⟩), .int .i64 0]) ∧ Blk w' w.heap.size 61 #[.int .i64 room, .slice none 0 0] ∧ Ext w w' := by
  go_enter Try.func78, Try.ntmps78
  go_wp2
  go_ret2
  exact ⟨rfl, Blk.new w _ _, ext_alloc _ _⟩
/-- What is told of settings. -/
def newE (c : Cfg) : Int := if checkV c.w c.m c.l ≠ 0 then checkV c.w c.m c.l else if c.room < 1 ∨ 16 < c.room then 1 else 0
def puRCells (c : Cfg) (gq : Nat) : Array Value :=
  #[.int .i64 c.e, .int .i64 c.w, .int .i64 c.m, .int .i64 c.l, .int .i64 c.b, .int .i64 c.room, .int .u64 c.begin_, .pointer (some ⟨gq, 0, none⟩), .slice none 0 0, .int .i64 0, .int .i64 0]
theorem newRBad_any (w : World) (c : Cfg) (hw : (Lit.int .i64 c.w).wf = true) (hb : checkV c.w c.m c.l ≠ 0) :
    Calls Try.prog 23 #[.agg (cfgVals c).toArray] w fun e w' => e = .returned (.tuple #[.pointer none, .int .i64 (checkV c.w c.m c.l)]) ∧ Ext w w' := by
  have HC := hid (fun W => checkRingR_any c.w c.m c.l W hw)
  have hbB : (checkV c.w c.m c.l != 0) = true := by simpa using hb
  unfold cfgVals
  generalize checkV c.w c.m c.l = cv at *
  clear hw hb
  go_enter Try.func23, Try.ntmps23
  go_wp2_with (go_at_call 77; refine (HC.out _).mono ?_; rintro e w2 ⟨rfl, rfl⟩)
  go_ret2
  exact ⟨rfl, ext_alloc _ _⟩
theorem newRRoom_any (w : World) (c : Cfg) (hw : (Lit.int .i64 c.w).wf = true) (hb : checkV c.w c.m c.l = 0) (hr : c.room < 1 ∨ 16 < c.room) :
    Calls Try.prog 23 #[.agg (cfgVals c).toArray] w fun e w' => e = .returned (.tuple #[.pointer none, .int .i64 1]) ∧ Ext w w' := by
  have HC := hid (fun W => checkRingR_any c.w c.m c.l W hw)
  have HQ := hid (fun W => newQRBad_any c.room W hr)
  rw [hb] at HC
  unfold cfgVals
  clear hw hb hr
  go_enter Try.func23, Try.ntmps23
  go_wp2_with (first
    | (go_at_call 77; refine (HC.out _).mono ?_; rintro e w2 ⟨rfl, rfl⟩)
    | (go_at_call 78; refine (HQ.out _).mono ?_; rintro e w2 ⟨rfl, rfl⟩))
  go_ret2
  exact ⟨rfl, ext_alloc _ _⟩
theorem newR_any (w : World) (c : Cfg) (hw : (Lit.int .i64 c.w).wf = true) (hb : checkV c.w c.m c.l = 0) (h1 : 1 ≤ c.room) (h2 : c.room ≤ 16) :
    Calls Try.prog 23 #[.agg (cfgVals c).toArray] w fun e w' => ∃ gp gq, e = .returned (.tuple #[.pointer (some ⟨gp, 0, none⟩), .int .i64 0]) ∧ Blk w' gp 59 (puRCells c gq) ∧ Blk w' gq 61 #[.int .i64 c.room, .slice none 0 0] ∧ gq < gp ∧ Ext w w' ∧ w.heap.size ≤ gp ∧ w.heap.size ≤ gq := by
  have HC := hid (fun W => checkRingR_any c.w c.m c.l W hw)
  have HQ := hid (fun W => newQR_any c.room W h1 h2)
  rw [hb] at HC
  unfold cfgVals
  have hb1 := Blk.new w 24 (cfgVals c).toArray
  unfold cfgVals at hb1
  have hx1 := ext_alloc w (.cells (cfgVals c).toArray 24)
  unfold cfgVals at hx1
  clear hw hb
  go_enter Try.func23, Try.ntmps23
  go_wp2_with (first
    | (go_at_call 77; refine (HC.out _).mono ?_; rintro e w2 ⟨rfl, rfl⟩)
    | (go_at_call 78; refine (HQ.out _).mono ?_; rintro e w2 ⟨rfl, hq2, hx2⟩; have hb2 := hb1.ext hx2; have b0 := hb2.cell 0; have b1 := hb2.cell 1; have b2 := hb2.cell 2; have b3 := hb2.cell 3; have b4 := hb2.cell 4; have b5 := hb2.cell 5; have b6 := hb2.cell 6))
  go_ret2
  have hq3 : Blk w2 (w.heap.size + 1) 61 #[.int .i64 c.room, .slice none 0 0] := by simpa using hq2
  have hlt := hq3.lt
  have hbp := Blk.new w2 59 (puRCells c (w.heap.size + 1))
  have hx4 := ext_alloc w2 (.cells (puRCells c (w.heap.size + 1)) 59)
  exact ⟨w2.heap.size, w.heap.size + 1, rfl, hbp, hq3.ext hx4, by omega, Ext.trans (Ext.trans hx1 hx2) hx4, by omega, by omega⟩
set_option maxHeartbeats 1000000 in
theorem nilMain_any (c : Cfg) (hw : (Lit.int .i64 c.w).wf = true) (a : Bool) (q t : Int) (v : Value) (hv : ∃ A n m, v = .slice A n m) (W : World) :
    Calls Try.prog 5 #[.agg (cfgVals c).toArray, .agg #[.bool a, .int .i64 q, .int .u64 t, v]] W fun e w' => e = .returned (.bool true) ∧ Ext W w' := by
  obtain ⟨A, n, m, rfl⟩ := hv
  have HLV := hid pullLive_any
  have hb := Blk.new W 24 (cfgVals c).toArray
  have hx := ext_alloc W (.cells (cfgVals c).toArray 24)
  have hx' := ext_alloc (W.alloc (.cells (cfgVals c).toArray 24)) (.cells #[.bool a, .int .i64 q, .int .u64 t, .slice A n m] 42)
  have hb' := Blk.new (W.alloc (.cells (cfgVals c).toArray 24)) 42 #[.bool a, .int .i64 q, .int .u64 t, .slice A n m]
  have hsz : (W.alloc (.cells (cfgVals c).toArray 24)).heap.size = W.heap.size + 1 := by simp
  rw [hsz] at hb'
  have hbb := hb.ext hx'
  have hxx := Ext.trans hx hx'
  clear hb hx hx' hsz
  by_cases hc : checkV c.w c.m c.l ≠ 0
  · have HN := hid (fun W1 => newPBad_any W1 c hw hc)
    have HR := hid (fun W1 => newRBad_any W1 c hw hc)
    clear hc hw
    generalize checkV c.w c.m c.l = cv at *
    unfold cfgVals at *
    go_enter Try.func5, Try.ntmps5
    have b0 := hbb.cell 0
    have b1 := hbb.cell 1
    have b2 := hbb.cell 2
    have b3 := hbb.cell 3
    have b4 := hbb.cell 4
    have b5 := hbb.cell 5
    have b6 := hbb.cell 6
    go_wp2_with (first
      | (go_at_call 17; refine (recvZ_any _).mono ?_; rintro e w2 ⟨rfl, rfl⟩)
      | (go_at_call 14; refine (HN.out _).mono ?_; rintro e w3 ⟨rfl, hx3⟩; have hbb3 := hbb.ext hx3; have b0 := hbb3.cell 0; have b1 := hbb3.cell 1; have b2 := hbb3.cell 2; have b3 := hbb3.cell 3; have b4 := hbb3.cell 4; have b5 := hbb3.cell 5; have b6 := hbb3.cell 6)
      | (go_at_call 23; refine (HR.out _).mono ?_; rintro e w4 ⟨rfl, hx4⟩; have hs4 := hb'.ext (Ext.trans hx3 hx4); have d0 := hs4.cell 0; have d1 := hs4.cell 1; have d2 := hs4.cell 2; have d3 := hs4.cell 3)
      | (go_at_call 19; refine (takeZ_any _ _ _ _ _).mono ?_; rintro e w5 ⟨rfl, hx5⟩)
      | (go_at_call 20; refine (keptZ_any _).mono ?_; rintro e w6 ⟨rfl, rfl⟩)
      | (go_at_call 28; refine (aheadZ_any _).mono ?_; rintro e w6 ⟨rfl, rfl⟩)
      | (go_at_call 18; refine (stateZ_any _).mono ?_; rintro e w7 ⟨rfl, hx7⟩)
      | (go_at_call 15; refine (pnum_any _ _).mono ?_; rintro e w5 ⟨rfl, rfl⟩)
      | (go_at_call 16; refine (HLV.out _).mono ?_; rintro e w8 ⟨rfl, hx8⟩))
    go_ret
    exact ⟨rfl, Ext.trans (Ext.trans (Ext.trans (Ext.trans (Ext.trans hxx hx3) hx4) hx5) hx7) hx8⟩
  · have hc : checkV c.w c.m c.l = 0 := by simpa using hc
    by_cases hr : c.room < 1 ∨ 16 < c.room
    · have HN := hid (fun W1 => newPRoom_any W1 c hw hc hr)
      have HR := hid (fun W1 => newRRoom_any W1 c hw hc hr)
      clear hc hw hr
      unfold cfgVals at *
      go_enter Try.func5, Try.ntmps5
      have b0 := hbb.cell 0
      have b1 := hbb.cell 1
      have b2 := hbb.cell 2
      have b3 := hbb.cell 3
      have b4 := hbb.cell 4
      have b5 := hbb.cell 5
      have b6 := hbb.cell 6
      go_wp2_with (first
        | (go_at_call 17; refine (recvZ_any _).mono ?_; rintro e w2 ⟨rfl, rfl⟩)
        | (go_at_call 14; refine (HN.out _).mono ?_; rintro e w3 ⟨rfl, hx3⟩; have hbb3 := hbb.ext hx3; have b0 := hbb3.cell 0; have b1 := hbb3.cell 1; have b2 := hbb3.cell 2; have b3 := hbb3.cell 3; have b4 := hbb3.cell 4; have b5 := hbb3.cell 5; have b6 := hbb3.cell 6)
        | (go_at_call 23; refine (HR.out _).mono ?_; rintro e w4 ⟨rfl, hx4⟩; have hs4 := hb'.ext (Ext.trans hx3 hx4); have d0 := hs4.cell 0; have d1 := hs4.cell 1; have d2 := hs4.cell 2; have d3 := hs4.cell 3)
        | (go_at_call 19; refine (takeZ_any _ _ _ _ _).mono ?_; rintro e w5 ⟨rfl, hx5⟩)
        | (go_at_call 20; refine (keptZ_any _).mono ?_; rintro e w6 ⟨rfl, rfl⟩)
        | (go_at_call 28; refine (aheadZ_any _).mono ?_; rintro e w6 ⟨rfl, rfl⟩)
        | (go_at_call 18; refine (stateZ_any _).mono ?_; rintro e w7 ⟨rfl, hx7⟩)
        | (go_at_call 15; refine (pnum_any _ _).mono ?_; rintro e w5 ⟨rfl, rfl⟩)
        | (go_at_call 16; refine (HLV.out _).mono ?_; rintro e w8 ⟨rfl, hx8⟩))
      go_ret
      exact ⟨rfl, Ext.trans (Ext.trans (Ext.trans (Ext.trans (Ext.trans hxx hx3) hx4) hx5) hx7) hx8⟩
    · have HN := hid (fun W1 => newP_any W1 c hw hc (by omega) (by omega))
      have HR := hid (fun W1 => newR_any W1 c hw hc (by omega) (by omega))
      clear hc hw hr
      unfold cfgVals at *
      go_enter Try.func5, Try.ntmps5
      have b0 := hbb.cell 0
      have b1 := hbb.cell 1
      have b2 := hbb.cell 2
      have b3 := hbb.cell 3
      have b4 := hbb.cell 4
      have b5 := hbb.cell 5
      have b6 := hbb.cell 6
      go_wp2_with (first
        | (go_at_call 17; refine (recvZ_any _).mono ?_; rintro e w2 ⟨rfl, rfl⟩)
        | (go_at_call 14; refine (HN.out _).mono ?_; rintro e w3 ⟨gp, gq, gm, rfl, _, hx3, _⟩; have hbb3 := hbb.ext hx3; have b0 := hbb3.cell 0; have b1 := hbb3.cell 1; have b2 := hbb3.cell 2; have b3 := hbb3.cell 3; have b4 := hbb3.cell 4; have b5 := hbb3.cell 5; have b6 := hbb3.cell 6)
        | (go_at_call 23; refine (HR.out _).mono ?_; rintro e w4 ⟨gr, gs, rfl, _, _, _, hx4, _⟩; have hs4 := hb'.ext (Ext.trans hx3 hx4); have d0 := hs4.cell 0; have d1 := hs4.cell 1; have d2 := hs4.cell 2; have d3 := hs4.cell 3)
        | (go_at_call 19; refine (takeZ_any _ _ _ _ _).mono ?_; rintro e w5 ⟨rfl, hx5⟩)
        | (go_at_call 20; refine (keptZ_any _).mono ?_; rintro e w6 ⟨rfl, rfl⟩)
        | (go_at_call 28; refine (aheadZ_any _).mono ?_; rintro e w6 ⟨rfl, rfl⟩)
        | (go_at_call 18; refine (stateZ_any _).mono ?_; rintro e w7 ⟨rfl, hx7⟩)
        | (go_at_call 15; refine (pnum_any _ _).mono ?_; rintro e w5 ⟨rfl, rfl⟩)
        | (go_at_call 16; refine (HLV.out _).mono ?_; rintro e w8 ⟨rfl, hx8⟩))
      go_ret
      exact ⟨rfl, Ext.trans (Ext.trans (Ext.trans (Ext.trans (Ext.trans hxx hx3) hx4) hx5) hx7) hx8⟩
end
end Go.Proofs.Ytjchobncmogcpaa
