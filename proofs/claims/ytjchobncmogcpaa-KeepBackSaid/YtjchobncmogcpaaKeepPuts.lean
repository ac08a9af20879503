/- The walk of KeepPuts. -/
import Derived.Test.YtjchobncmogcpaaKeepHuge
namespace Go.Proofs.Ytjchobncmogcpaa
open Go.RowKit

theorem run0_body : (bodyB run0).length = 82 - 8 := by simp [bodyB, headB, magicB, nums8_len, run0, nums8, wide8_len, chsB]
theorem run0_right : rightB run0 = true := rfl
theorem check_one : crcCheck [1] = none := by decide
set_option maxRecDepth 100000
section
set_option maxHeartbeats 4000000 in
theorem keepLive_any (w : World) : Calls Try.prog 30 #[] w fun e w' => e = .returned (.bool true) ∧ Ext w w' := by
  have HP := hid (kput_any w run0 (.slice none 0 0) (.slice none 0 0) (isSlice_nil _ _ _) (isSlice_nil _ _ _) run0_right (by rw [run0_body]; omega))
  have HG := hid (fun (W : World) (v : Value) (h : IsSlice repByte W (all W) v [1]) => kgetNo_any v [1] W h (by simp) check_one)
  have HS := hid (fun W : World => sameRun_any run0 run0 (.slice none 0 0) (.slice none 0 0) (.slice none 0 0) (.slice none 0 0) W (isSlice_nil _ _ _) (isSlice_nil _ _ _) (isSlice_nil _ _ _) (isSlice_nil _ _ _))
  rw [eqB_t rfl] at HS
  have HNum := hid num42_any
  have hlen : (crcPut (bodyB run0)).length = 78 := by unfold crcPut; rw [List.length_append, layB_len, run0_body]
  have HL := hid hlen
  clear hlen
  go_enter Try.func30, Try.ntmps30
  go_upto_region 2 with (first
    | (go_at_call 31; refine HP.out.mono ?_; rintro e w2 ⟨u, rfl, hu, hx2⟩; obtain ⟨A, c, rfl⟩ := hu.shape; rw [HL.out] at hu ⊢))
  obtain ⟨w3, hw3⟩ : ∃ w3, w2.alloc (.cells #[.int .u8 1] 5) = w3 := ⟨_, rfl⟩
  have hx3 : Ext w2 w3 := hw3 ▸ ext_alloc _ _
  have hs3 : IsSlice repByte w3 (all w3) (.slice (some ⟨w2.heap.size, 0, none⟩) 1 1) [1] := by rw [← hw3]; exact isSlice_lit1 (r := repByte) (x := 1) (cs := #[.int .u8 1]) rfl
  go_upto_region 3 with (first
    | (go_at_call 35; refine (HG.out _ _ hs3).mono ?_; rintro e w4 ⟨rfl, hx4⟩; have hb4 := Blk.new w4 73 kZero)
    | (refine wpl_row (g := w4.heap.size) (cs := kZero) _ _ rfl rfl rfl rfl hb4 (by kernel_rfl) rfl (kVals_one _ _ _ _ _ _ _) ?_; intro w5 hb5 ho5))
  have hx45 : Ext w2 w5 := Only.ext_new ho5 (Ext.trans (Ext.trans hx3 hx4) (ext_alloc _ _)) (by have := hx3.size; have := hx4.size; omega)
  go_wp2_with (first
    | (go_at_call 34; refine (HNum.out _ _).mono ?_; rintro e w6 ⟨rfl, rfl⟩)
    | (go_at_call 39; refine (HS.out _).mono ?_; rintro e w7 ⟨rfl, hx7⟩))
  go_ret
  exact ⟨rfl, Ext.trans (Ext.trans hx2 hx45) hx7⟩
set_option maxHeartbeats 4000000 in
/-- The statement at any run. -/
theorem keepPuts_any (r : KRun) (hwf : (Lit.int .u64 r.beg).wf = true) (u1 u2 : Value) (W : World) (o1 : IsSlice (repInt .u64) W (all W) u1 r.draws) (o2 : IsSlice repCh W (all W) u2 r.chs) :
    Calls Try.prog 6 #[.agg (kVals r u1 u2)] W fun e w' => e = .returned (.bool true) ∧ Ext W w' := by
  obtain ⟨A1, d1, rfl⟩ := o1.shape
  obtain ⟨A2, d2, rfl⟩ := o2.shape
  have hbeg := wrapU_id hwf
  obtain ⟨KV, hKV⟩ : ∃ KV, KV = kVals r (.slice A1 r.draws.length d1) (.slice A2 r.chs.length d2) := ⟨_, rfl⟩
  obtain ⟨w1, hw1⟩ : ∃ w1, W.alloc (.cells (kVals r (.slice A1 r.draws.length d1) (.slice A2 r.chs.length d2)) 69) = w1 := ⟨_, rfl⟩
  have hx1 : Ext W w1 := hw1 ▸ ext_alloc _ _
  have hb1 : Blk w1 W.heap.size 69 KV := by rw [← hw1, hKV]; exact Blk.new _ _ _
  have HK := hid (fun (V : World) (h : Ext w1 V) => kCells (W := V) (g := W.heap.size) (t := 69) (r := r) (u1 := .slice A1 r.draws.length d1) (u2 := .slice A2 r.chs.length d2) (hKV ▸ hb1.ext h))
  obtain ⟨b0, b1, b2, b3, b4, b5, b6, b7, b8⟩ := HK.out _ (Below.refl _ _)
  have HLV := hid keepLive_any
  have HHU := hid (fun (V : World) (h : Ext W V) => huge42_any V r _ _ (o1.ext h) (o2.ext h))
  have HOF := hid (fun V => of42_any r A1 A2 r.draws.length d1 r.chs.length d2 V)
  have HNum := hid num42_any
  have HSM := hid (fun (V : World) (v u : Value) (xs ys : List UInt8) (h : IsSlice repByte V (all V) v xs) (h' : IsSlice repByte V (all V) u ys) => sameB_any v u xs ys V h h')
  have HPY := hid (fun (V : World) (h : Ext W V) (hr : rightB r = true) (hl : (bodyB r).length ≤ 1000000) => kput_any V r _ _ (o1.ext h) (o2.ext h) hr hl)
  have HPN := hid (fun (V : World) (h : Ext W V) (hr : rightB r = false) => kputNo_any V r _ _ (o1.ext h) (o2.ext h) hr)
  have HQ := hid (fun (V : World) (h : Ext W V) (h2 : r.draws.length ≤ 200) (h5 : r.chs.length ≤ 500) (hl : rightB r = true → (bodyB r).length ≤ 1000000) => kputR_any V r _ _ (o1.ext h) (o2.ext h) h2 h5 hbeg hl)
  have HQN := hid (fun (V : World) (h : Ext W V) (h2 : 200 < r.draws.length ∨ 500 < r.chs.length) => kputRNo_any V r _ _ (o1.ext h) (o2.ext h) h2)
  have HSmall := hid (fun (b : Bool) (hb : rightB r = true → b = hugeK r) (hf : b = false) (hr : rightB r = true) => (show (bodyB r).length ≤ 1000000 from body_small (by rw [← hb hr, hf]) (by unfold rightB at hr; simp only [Bool.and_eq_true, decide_eq_true_eq] at hr; omega)))
  have HLens := hid (show rightB r = true → r.draws.length ≤ 200 ∧ r.chs.length ≤ 500 from fun hr => by unfold rightB at hr; simp only [Bool.and_eq_true, decide_eq_true_eq] at hr; omega)
  clear hKV o1 o2 hb1 hbeg hwf
  unfold kVals at hw1 HHU HOF HPY HPN HQ HQN ⊢
  generalize r.draws.length = dn at *
  generalize r.chs.length = cn at *
  go_enter Try.func6, Try.ntmps6
  go_upto_region 2 with (first
    | (go_at_call 29; refine (HHU.out _ hx1).mono ?_; rintro e w2 ⟨b, rfl, hb, hx2⟩; obtain ⟨c0, c1, c2, c3, c4, c5, c6, c7, c8⟩ := HK.out _ hx2))
  · go_wp2_with (go_at_call 30; refine (HLV.out _).mono ?_; rintro e w8 ⟨rfl, hx8⟩)
    go_ret
    exact ⟨rfl, Ext.trans (Ext.trans hx1 hx2) hx8⟩
  · have hbf : b = false := by cases b <;> simp_all
    rcases bool_cases (rightB r) with hr | hr
    · have hs := HSmall.out b hb hbf hr
      have hl := HLens.out hr
      have HY := hid (fun (V : World) (h : Ext W V) => HPY.out V h hr hs)
      have HQY := hid (fun (V : World) (h : Ext W V) => (HQ.out V h hl.1 hl.2 (fun _ => hs)).mono (fun (e : Ending) w' ⟨u, k, he, hk, hx⟩ => (show ∃ u, e = Ending.returned (.tuple #[u, .int .i64 0]) ∧ IsSlice repByte w' (fresh V w') u (crcPut (bodyB r)) ∧ Ext V w' from by
        rcases hk with ⟨_, rfl, hu⟩ | ⟨h2, _, _⟩
        · exact ⟨u, he, hu, hx⟩
        · rw [hr] at h2; cases h2)))
      clear hs hl hr hb
      generalize crcPut (bodyB r) = bb at *
      go_wp2_with (first
        | (go_at_call 32; refine (HOF.out _).mono ?_; rintro e w3 ⟨rfl, hx3⟩; have xe3 := Ext.trans (Ext.trans hx1 hx2) hx3)
        | (go_at_call 31; refine (HY.out _ xe3).mono ?_; rintro e w4 ⟨u4, rfl, hu4, hx4⟩; have xe4 := Ext.trans xe3 hx4; obtain ⟨c0, c1, c2, c3, c4, c5, c6, c7, c8⟩ := HK.out _ (Ext.trans (Ext.trans hx2 hx3) hx4))
        | (go_at_call 33; refine (HQY.out _ xe4).mono ?_; rintro e w5 ⟨u5, rfl, hu5, hx5⟩; have hs4 := hu4.any.ext hx5; have hs5 := hu5.any)
        | (go_at_call 34; refine (HNum.out _ _).mono ?_; rintro e w6 ⟨rfl, rfl⟩)
        | (go_at_call 27; refine (HSM.out _ _ _ _ _ hs4 hs5).mono ?_; rintro e w7 ⟨rfl, nd, rfl⟩)
        | (go_at_call 30; refine (HLV.out _).mono ?_; rintro e w8 ⟨rfl, hx8⟩))
      all_goals
        go_ret
        exact ⟨rfl, Ext.trans (Ext.trans (Ext.trans xe4 hx5) (ext_drewN _ _)) hx8⟩
    · have HY := hid (fun (V : World) (h : Ext W V) => HPN.out V h hr)
      have HQY : Wall (∀ (V : World), Ext W V → Calls Try.prog 33 #[.agg #[.int .i64 r.eng, .int .i64 r.w, .int .i64 r.m, .int .i64 r.l, .int .i64 r.b, .int .i64 r.room, .int .u64 r.beg, .slice A1 dn d1, .slice A2 cn d2]] V fun e w' => e = .returned (.tuple #[.slice none 0 0, .int .i64 2]) ∧ Ext V w') := by
        by_cases hl : 200 < dn ∨ 500 < cn
        · exact hid fun V h => HQN.out V h hl
        · exact hid fun V h => (HQ.out V h (by omega) (by omega) (fun h2 => by rw [hr] at h2; cases h2)).mono (fun e w' ⟨u, k, he, hk, hx⟩ => by
            rcases hk with ⟨h2, _, _⟩ | ⟨_, rfl, rfl⟩
            · rw [hr] at h2; cases h2
            · exact ⟨he, hx⟩)
      clear hr hb
      go_wp2_with (first
        | (go_at_call 32; refine (HOF.out _).mono ?_; rintro e w3 ⟨rfl, hx3⟩; have xe3 := Ext.trans (Ext.trans hx1 hx2) hx3)
        | (go_at_call 31; refine (HY.out _ xe3).mono ?_; rintro e w4 ⟨rfl, hx4⟩; have xe4 := Ext.trans xe3 hx4; obtain ⟨c0, c1, c2, c3, c4, c5, c6, c7, c8⟩ := HK.out _ (Ext.trans (Ext.trans hx2 hx3) hx4))
        | (go_at_call 33; refine (HQY.out _ xe4).mono ?_; rintro e w5 ⟨rfl, hx5⟩)
        | (go_at_call 34; refine (HNum.out _ _).mono ?_; rintro e w6 ⟨rfl, rfl⟩)
        | (go_at_call 27; refine (HSM.out _ _ _ _ _ (isSlice_nil repByte _ _) (isSlice_nil repByte _ _)).mono ?_; rintro e w7 ⟨rfl, nd, rfl⟩)
        | (go_at_call 30; refine (HLV.out _).mono ?_; rintro e w8 ⟨rfl, hx8⟩))
      all_goals
        go_ret
        exact ⟨rfl, Ext.trans (Ext.trans (Ext.trans xe4 hx5) (ext_drewN _ _)) hx8⟩
end
end Go.Proofs.Ytjchobncmogcpaa
