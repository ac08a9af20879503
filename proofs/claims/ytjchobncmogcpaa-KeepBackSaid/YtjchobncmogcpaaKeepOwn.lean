/- What Put makes is the caller's own. -/
import Derived.Test.YtjchobncmogcpaaKeepP2
namespace Go.Proofs.Ytjchobncmogcpaa
open Go.RowKit
set_option maxRecDepth 100000
section
set_option maxHeartbeats 2000000 in
set_option maxHeartbeats 400000 in
theorem joinOwn_any (v : Value) (xss : List (List UInt8)) (w : World) (h : IsSlice (repSlice repByte) w (all w) v xss) (hl : xss.flatten.length ≤ 16777216) :
    Calls Try.prog 75 #[v] w fun e w' => ∃ u, e = .returned u ∧ Own repByte 5 w.heap.size w' u xss.flatten ∧ Ext w w' := by
  obtain ⟨A, n, c, rfl, hnc, hcm, hrow⟩ := h
  have hn := hrow.1
  have hmax : n ≤ 9223372036854775807 := by unfold maxLen at hcm; omega
  have HN := hid hn
  clear hn
  go_enter Try.func75, Try.ntmps75
  go_wp2
  go_loop [3, 11] (fun s i => ∃ k : Nat, k ≤ n ∧ i = .int .i64 k ∧ s = .int .i64 ((xss.take k).flatten.length : Nat)) (fun _ i => n - (intOf i).toNat)
  case atStart => exact ⟨0, Nat.zero_le _, rfl, rfl⟩
  case round =>
    obtain ⟨k, hk, rfl, rfl⟩ := hrel
    by_cases hlt : k < n
    · obtain ⟨b, off, A1, m1, c1, x, rfl, hb, hx, hl1, hl2, hr1, hcx⟩ := hrow.slice hlt
      have hb1 := flat_one hx
      have HS := hid (flat_step hx)
      have hm1 := hr1.1
      have HM := hid hm1
      have hm1' : (xss.take k).flatten.length + m1 ≤ 16777216 := by omega
      clear hx hm1 hr1 hb1
      generalize hq : (xss.take k).flatten.length = q at *
      have HQ := hid hq
      clear hq
      go_wp2
      go_round
      case rel => exact ⟨k + 1, by omega, by go_num, by rw [HS.out, List.length_append, HQ.out, HM.out]; go_num⟩
      case measure => simp [intOf]; omega
    · obtain rfl : k = n := by omega
      have e : (xss.take k).flatten = xss.flatten := by rw [List.take_of_length_le (by rw [HN.out]; exact Nat.le_refl _)]
      rw [e]
      obtain ⟨T, hT⟩ : ∃ T, T = xss.flatten.length := ⟨_, rfl⟩
      rw [← hT] at hl ⊢
      have HT := hid hT
      clear hT e
      go_wp2_with (at_make; refine wpl_make0 (r := repByte) (base := w.heap.size) (z := .int .u8 0) (bytes := 1) _ _ T rfl rfl Try.underlying33 (by kernel_rfl) rfl rfl rfl (by omega) (by simp only [maxLen]; omega) (Nat.le_refl _) ?_; intro v1 w1 hown1 hext1)
      go_loopw [6, 24] (fun u i wr => ∃ j : Nat, j ≤ k ∧ i = .int .i64 j ∧ Own repByte 5 w.heap.size wr u (xss.take j).flatten ∧ Ext w wr) (fun _ i _ => k - (intOf i).toNat)
      case atStart => exact ⟨0, Nat.zero_le _, rfl, hown1, hext1⟩
      case round =>
        obtain ⟨j, hj, rfl, hown, hext⟩ := hrel
        by_cases hlt : j < k
        · obtain ⟨b, off, A1, m1, c1, x, rfl, hx, hs1, hm1, hcx⟩ := hrow.sliceE hext hlt
          have hb1 := flat_one hx
          rw [← HT.out] at hb1
          have HS := hid (flat_step hx)
          have hu := (hs1.off hext (fun k hk => (hown.lt k hk).1)).flat (T := el w.heap.size wr u6) flat_byte
          have HM := hid hm1
          clear hx hm1
          go_wp2_with (at_builtin; refine wpl_app (r := repByte) (base := w.heap.size) _ _ rfl rfl Try.underlying33 info_byte (by decide) hown hu rfl rfl (by omega) (by simp only [maxLen]; omega) hext.size ?_; intro v2 w2 hown2 hg2 _)
          go_roundw
          case rel => exact ⟨j + 1, by omega, by go_num, by rw [HS.out]; exact hown2, Below.grown hext hg2 hext.size (fun k hk => (hown.lt k hk).1)⟩
          case measure => simp [intOf]; omega
        · obtain rfl : j = k := by omega
          go_wp2
          go_ret
          rw [List.take_of_length_le (by rw [HN.out]; exact Nat.le_refl _)] at hown
          exact ⟨_, rfl, hown, hext⟩
set_option maxHeartbeats 2000000 in
theorem tabPutOwn_any (w : World) (g : Nat) (ht : TabAt w g) (v : Value) (xs : List UInt8) (h : IsSlice repByte w (all w) v xs) (hl : xs.length ≤ 1000000) :
    Calls Try.prog 92 #[.pointer (some ⟨g, 0, none⟩), v] w fun e w' => ∃ u, e = .returned u ∧ Own repByte 5 w.heap.size w' u (crcPut xs) ∧ Ext w w' := by
  have HI := hid (tabIs_any w g ht)
  obtain ⟨A, c, rfl⟩ := h.shape
  obtain ⟨n, hn⟩ : ∃ n, n = xs.length := ⟨_, rfl⟩
  rw [← hn] at h hl ⊢
  have HN := hid hn
  have HSUM := hid (fun (w1 : World) (he : Ext w w1) (u : Value) (hu : IsSlice (repSlice repByte) w1 (all w1) u [xs]) => tabSum_any w1 g (ht.ext he) u [xs] hu)
  have hcl := crcOf_lt xs
  have HLY := hid (fun w1 => lay_any (crcOf xs) w1 hcl)
  have HC := hid (show crcPut xs = [xs, layB (crcOf xs)].flatten by simp [crcPut])
  have HF := hid (show crcOf ([xs] : List (List UInt8)).flatten = crcOf xs by simp)
  rw [HF.out] at HSUM
  have HLL := hid (layB_len (crcOf xs))
  generalize crcOf xs = S at *
  generalize layB S = LS at *
  have HB := hid (show ([xs, LS] : List (List UInt8)).flatten.length ≤ 16777216 by have := HN.out; have := HLL.out; simp; omega)
  clear hn
  go_enter Try.func92, Try.ntmps92
  go_wp2_with (first
    | (go_at_call 130; refine HI.out.mono ?_; rintro e w2 ⟨rfl, rfl⟩)
    | (go_at_call 132; refine (HSUM.out _ (ext_alloc w _) _ (isSlice_lit1 (w := w) (cs := #[.slice A n c]) (isSlice_single h))).mono ?_; rintro e w2 ⟨rfl, rfl⟩)
    | (go_at_call 131; refine (HLY.out _).mono ?_; rintro e w3 ⟨u3, rfl, hu3, hx3⟩; have hx03 := Ext.trans (ext_alloc w _) hx3; have hh3 := h.ext hx03; obtain ⟨A3, c3, rfl⟩ := hu3.shape)
    | (go_at_call 75; refine (joinOwn_any _ [xs, LS] _ (isSlice_lit2 (r := repSlice repByte) rfl (isSlice_single hh3) (isSlice_single hu3.any)) HB.out).mono ?_; rintro e w4 ⟨u4, rfl, hu4, hx4⟩))
  go_ret
  exact ⟨_, rfl, by rw [HC.out]; exact hu4.low (Ext.trans hx03 (ext_alloc w3 _)).size, Ext.trans hx03 (Ext.of_alloc hx4)⟩
set_option maxHeartbeats 8000000 in
theorem kputOwn_any (w : World) (r : KRun) (u1 u2 : Value) (h1 : IsSlice (repInt .u64) w (all w) u1 r.draws) (h2 : IsSlice repCh w (all w) u2 r.chs) (hr : rightB r = true) (hlen : (bodyB r).length ≤ 1000000) :
    Calls Try.prog 31 #[.agg (kVals r u1 u2)] w fun e w' => ∃ u, e = .returned (.tuple #[u, .int .i64 0]) ∧ Own repByte 5 w.heap.size w' u (crcPut (bodyB r)) ∧ Ext w w' := by
  have HR := hid (fun (W : World) (hx : Ext w W) => right_any W r u1 u2 (h1.ext hx) (h2.ext hx))
  rw [hr] at HR
  obtain ⟨A1, dn, d1, rfl, _, _, hrow1⟩ := id h1
  obtain ⟨A2, cn, d2, rfl, _, _, hrow2⟩ := id h2
  have hdn := hrow1.1
  have hcn := hrow2.1
  have hRR := hid hr
  have HL := hid hlen
  obtain ⟨KV, hKV⟩ : ∃ KV, KV = kVals r (.slice A1 dn d1) (.slice A2 cn d2) := ⟨_, rfl⟩
  obtain ⟨w1, hw1⟩ : ∃ w1, w.alloc (.cells (kVals r (.slice A1 dn d1) (.slice A2 cn d2)) 73) = w1 := ⟨_, rfl⟩
  have hx1 : Ext w w1 := hw1 ▸ ext_alloc _ _
  have hbx : Blk w1 w.heap.size 73 KV := by rw [← hw1, hKV]; exact Blk.new _ _ _
  have hsz1 : w1.heap.size = w.heap.size + 1 := by rw [← hw1]; simp
  have HK := hid (fun (W : World) (h : Blk W w.heap.size 73 KV) => kCells (h := hKV ▸ h))
  obtain ⟨b0, b1, b2, b3, b4, b5, b6, b7, b8⟩ := HK.out _ hbx
  clear hr hlen hKV
  unfold kVals at hw1 HR ⊢
  obtain ⟨base, hbase⟩ : ∃ base, base = w.heap.size + 1 := ⟨_, rfl⟩
  have HBase := hid hbase
  have hxb : w.heap.size < base := by omega
  have hb1 : w1.heap.size = base := by omega
  clear hbase hsz1
  have HN := hid hdn
  have HC := hid hcn
  have HB1 := hid hb1
  clear hdn hcn hb1
  go_enter Try.func31, Try.ntmps31
  go_upto_region 4 with (first
    | (go_at_call 86; refine (HR.out _ hx1).mono ?_; rintro e w2 ⟨rfl, hx2⟩)
    | (go_at_call 87; refine (magic_any w2).mono ?_; rintro e w3 ⟨rfl, ho3, hx3⟩))
  have ho3' := ho3
  have hx13 : Ext w1 w3 := Ext.trans hx2 hx3
  have h2b : base ≤ w2.heap.size := by have := hx2.size; have := HB1.out; omega
  have hbx3 := hbx.ext hx13
  obtain ⟨v4, hv4⟩ : ∃ v4, v4 = Value.slice (some ⟨w2.heap.size, 0, none⟩) 2 2 := ⟨_, rfl⟩
  obtain ⟨w4, hw4⟩ : ∃ w4, w3.alloc (.cells #[.slice (some ⟨w2.heap.size, 0, none⟩) 2 2] 152) = w4 := ⟨_, rfl⟩
  have hx14 : Ext w1 w4 := hw4 ▸ Ext.trans hx13 (ext_alloc _ _)
  have hbx4 := hbx.ext hx14
  obtain ⟨b0, b1, b2, b3, b4, b5, b6, b7, b8⟩ := HK.out _ hbx4
  have hg4 : Blk w4 w3.heap.size 152 #[v4] := by rw [← hw4, hv4]; exact Blk.new _ _ _
  have ho4 : Own repByte 5 base w4 v4 magicB := by rw [← hw4, hv4]; exact ((ho3.ext (ext_alloc _ _)).low h2b)
  have hv4g : v4.ownBlock ≠ some w3.heap.size := by rw [hv4]; simp [Value.ownBlock]; have := hx3.size; have := (ho3.lt w2.heap.size rfl).2; omega
  have hbg : base ≤ w3.heap.size := by have := hx3.size; omega
  have hw4s : base ≤ w4.heap.size := by have := hg4.lt; omega
  obtain ⟨g, hgw⟩ : ∃ g, w3.heap.size = g := ⟨_, rfl⟩
  rw [hgw] at hg4 hv4g hbg
  have hown4 : ∀ k, v4.ownBlock = some k → base ≤ k := fun k e => (ho4.lt k e).1
  have hHead : nums8 [r.eng, r.w, r.m, r.l, r.b, r.room, wrap64 r.beg, (dn : Int)] = headB r := by
    unfold headB
    rw [HN.out]
    simp only [nums8, List.flatMap_cons, wide8_wrap]
  have hBody : bodyB r = magicB ++ headB r ++ nums8 r.draws ++ nums8 [(cn : Int)] ++ chsB r.chs := by unfold bodyB; rw [HC.out]
  have hall : ∀ (k : Nat) (x : Ch), r.chs[k]? = some x → x.data.length ≤ 255 ∧ x.edits.length ≤ 255 := fun k x hx => by
    have h := hRR.out
    unfold rightB at h
    simp only [Bool.and_eq_true] at h
    have := List.all_eq_true.1 h.2 x (List.mem_of_getElem? hx)
    simpa [chOk] using this
  have HALL := hid hall
  have hbnd : dn ≤ 200 ∧ cn ≤ 500 := by
    have h := hRR.out
    unfold rightB at h
    simp only [Bool.and_eq_true, decide_eq_true_eq] at h
    have := HN.out
    have := HC.out
    omega
  have HHead := hid hHead
  have HBody := hid hBody
  have HBX4 := hid hbx4
  have hm : magicB.length = 2 := rfl
  have hL1 : (magicB ++ headB r).length ≤ 66 := by rw [List.length_append, hm, headB, nums8_len]; simp
  have HBR := hid (fun (W : World) (hB : Below base w4 W) => HK.out W (hbx4.below hB hxb))
  clear hHead hBody hall hm hbx3 hbx ho3 hx13 hx3 hx2
  go_wp2_with (first
    | (go_at_call 88; refine (numbersAt_any w4 g _ base v4 magicB [r.eng, r.w, r.m, r.l, r.b, r.room, wrap64 r.beg, (dn : Int)] _ 8 hg4 ho4 hv4g hw4s (by simp) (ints64_8 _ _ _ _ _ _ _ _) rfl (by omega) (by simp [magicB])).mono ?_; rintro e w5 ⟨rfl, v5, hb5, ho5, hw5, hv5⟩; rw [HHead.out] at ho5; have hB5 := hw5.below hw4s hbg hown4; obtain ⟨_, _, _, _, _, _, _, e7, e8⟩ := HBR.out _ hB5))
  have hst5 : KSt w4 g base (magicB ++ headB r) w5 := ⟨v5, hb5, ho5, hv5, hB5⟩
  clear hb5 ho5 hv5 hw5 e7 e8
  generalize hp1 : magicB ++ headB r = p1 at *
  have HP1 := hid hp1
  clear hp1
  go_loopw [46] (fun i wr => ∃ k : Nat, k ≤ dn ∧ i = .int .i64 k ∧ KSt w4 g base (p1 ++ nums8 (r.draws.take k)) wr) (fun i _ => dn - (intOf i).toNat)
  case atStart => exact ⟨0, Nat.zero_le _, rfl, by simpa [nums8] using hst5⟩
  case round =>
    obtain ⟨k, hk, rfl, v', hb', ho', hne', hBl⟩ := hrel
    obtain ⟨_, _, _, _, _, _, _, e7, e8⟩ := HBR.out _ hBl
    by_cases hlt : k < dn
    · obtain ⟨b, off, x, rfl, hbl, hx, hcx, hwf⟩ := hrow1.int hlt
      have hxr := wrapU_id hwf
      have hbW : b < base := Nat.lt_trans hbl hxb
      have hcx' : wr.cell? ⟨b, off + k, none⟩ = some (.int .u64 x) := (World.cell?_of_block (hBl.block b hbW)).trans ((Ext.cell hx14 (by have := HB1.out; omega) _).trans ((Ext.cell hx1 hbl _).trans hcx))
      have HT := hid (show nums8 (r.draws.take (k + 1)) = nums8 (r.draws.take k) ++ wide8 x by rw [take_succ_of hx, nums8_snoc])
      have hP := hid (fun W : World => put_any x.toNat 8 W (by omega) (by omega) (by omega))
      rw [Int.toNat_of_nonneg hxr.1] at hP
      have hQ := hid (show (p1 ++ nums8 (r.draws.take k)).length ≤ 1000000 by
        have h1 := HL.out
        have h2 : (nums8 (r.draws.take k)).length ≤ (nums8 r.draws).length := by rw [nums8_len, nums8_len, List.length_take]; omega
        rw [HBody.out] at h1
        simp only [List.length_append] at h1 ⊢
        omega)
      generalize hpb : p1 ++ nums8 (r.draws.take k) = pb at *
      have HPB := hid hpb
      have hc0 : wr.cell? ⟨g, 0, none⟩ = some v' := hb'.cell 0
      have hpl := hQ.out
      have hszr : base ≤ wr.heap.size := Nat.le_trans hw4s hBl.size
      obtain ⟨A, c, rfl, _⟩ := ho'.form
      have hcd : wr.drew.cell? ⟨g, 0, none⟩ = some (.slice A pb.length c) := hc0
      generalize hP8 : putB x.toNat 8 = p8 at *
      have hp8 : p8.length = 8 := by rw [← hP8]; exact putB_len _ _
      have HW := hid (show wide8 x = p8 by unfold wide8; rw [Int.emod_eq_of_lt hxr.1 hxr.2]; exact hP8)
      have HP8 := hid hp8
      clear hP8 hp8 hpb hx
      generalize hplg : pb.length = pl at *
      have HPL := hid hplg
      clear hplg
      go_wp2
      go_region_law (first
        | (go_simp; go_at_call 89; refine (hP.out _).mono ?_; rintro r w7 ⟨u, rfl, hu, hx3⟩; obtain ⟨Au, cu, rfl⟩ := hu.shape; have hx3 : Ext wr w7 := Ext.trans (Below.drew (Below.refl _ _)) hx3; have hu3 := newN flat_byte (IsSlice.since hu (Below.drew (Below.refl _ _))) ho'.lt hszr; have hb3 := hb'.ext hx3; have c3 := hb3.cell 0; have ho3 := ho'.ext hx3; dsimp only)
        | (refine step_appK (r := repByte) (base := base) _ _ rfl rfl Try.underlying33 info_byte (by decide) ho3 hu3 rfl rfl (by have := HP8.out; have := HPL.out; omega) (by have := HP8.out; have := HPL.out; simp only [maxLen]; omega) (Nat.le_trans hszr hx3.size) ?_; intro v8 w8 hown4 hg4 hv8; obtain ⟨A4, c4, rfl, _⟩ := hown4.form; rw [List.length_append, HP8.out, HPL.out] at hown4 hv8 ⊢; have hb8 := hb3.grown hg4 (fun e => hne' e.symm); have f4 := hb8.frozen 0; have e4 : w8.cell? ⟨g, 0, none⟩ = some (.slice A pl c) := hb8.cell 0))
      all_goals
        have hwr8 : Wr g (.slice A pl c) wr w8 (.slice A4 (pl + 8) c4) := Wr.since hx3 (Wr.grow hg4 hv8)
        have hne8 := hwr8.ne hne' hb'.lt
        have hB8 : Below base w4 (w8.setCell ⟨g, 0, none⟩ (.slice A4 (pl + 8) c4)) := Below.trans hBl ((hwr8.put 0 (.slice A4 (pl + 8) c4)).below hszr hbg (fun j e => (ho'.lt j e).1))
        go_wp2
        go_roundw
        case rel =>
          refine ⟨k + 1, by omega, by go_num, _, hb8.set_ 0 _, ?_, hne8, hB8⟩
          rw [HT.out, ← List.append_assoc, HPB.out, HW.out]
          exact hown4.wput flat_byte hne8
        case measure => simp [intOf]; omega
    · obtain rfl : k = dn := by omega
      rw [List.take_of_length_le (by rw [HN.out]; exact Nat.le_refl _)] at ho'
      generalize hp2 : p1 ++ nums8 r.draws = p2 at *
      have HP2 := hid hp2
      have hL2 : p2.length ≤ 1000000 := by
        have h1 := HL.out
        rw [HBody.out] at h1
        simp only [List.length_append] at h1
        omega
      have hwr : base ≤ wr.heap.size := Nat.le_trans hw4s hBl.size
      clear hp2
      go_wp2_with (first
        | (go_at_call 88; refine (numbersAt_any wr g _ base v' p2 [(cn : Int)] _ 1 hb' ho' hne' hwr (by simp) (ints64_1 _) rfl (by omega) (by omega)).mono ?_; rintro e w5 ⟨rfl, v5, hb5, ho5, hw5, hv5⟩; have hB5 := Below.trans hBl (hw5.below hwr hbg (fun j e => (ho'.lt j e).1)); obtain ⟨_, _, _, _, _, _, _, f7, f8⟩ := HBR.out _ hB5))
      have hst5 : KSt w4 g base (p2 ++ nums8 [(cn : Int)]) w5 := ⟨v5, hb5, ho5, hv5, hB5⟩
      clear hb5 ho5 hv5 hw5 f7 f8 hb' ho' hne' e7 e8
      generalize hp3 : p2 ++ nums8 [(cn : Int)] = p3 at *
      have HP3 := hid hp3
      clear hp3
      go_loopw [70] (fun i wr => ∃ k : Nat, k ≤ cn ∧ i = .int .i64 k ∧ KSt w4 g base (p3 ++ chsB (r.chs.take k)) wr) (fun i _ => cn - (intOf i).toNat)
      case atStart => exact ⟨0, Nat.zero_le _, rfl, by simpa [chsB] using hst5⟩
      case round =>
        obtain ⟨k2, hk2, rfl, v', hb', ho', hne', hBl2⟩ := hrel
        obtain ⟨_, _, _, _, _, _, _, e7, e8⟩ := HBR.out _ hBl2
        by_cases hlt : k2 < cn
        · obtain ⟨b, off, x, A', c, A'', c', rfl, hbl, hxg, hs1, hs2, q0, q1, q2, q3, q4⟩ := hrow2.ch hlt
          have hbW : b < base := Nat.lt_trans hbl hxb
          have hcell : ∀ b, b < w.heap.size → ∀ o, wr.cell? ⟨b, o, none⟩ = w.cell? ⟨b, o, none⟩ := fun b hb o => (World.cell?_of_block (hBl2.block b (Nat.lt_trans hb hxb))).trans ((Ext.cell hx14 (by have := HB1.out; omega) _).trans (Ext.cell hx1 hb _))
          have z0 := (hcell b hbl _).trans q0
          have z1 := (hcell b hbl _).trans q1
          have z2 := (hcell b hbl _).trans q2
          have z3 := (hcell b hbl _).trans q3
          have z4 := (hcell b hbl _).trans q4
          have t1 : IsSlice repByte wr (fun b => b < base) (.slice A' x.data.length c) x.data := hs1.keep fun b hb => ⟨Nat.lt_trans hb hxb, fun o => hcell b hb o⟩
          have t2 : IsSlice repEd wr (fun b => b < base) (.slice A'' x.edits.length c') x.edits := hs2.keep fun b hb => ⟨Nat.lt_trans hb hxb, fun o => hcell b hb o⟩
          have hT := HALL.out k2 x hxg
          have HT := hid (show chsB (r.chs.take (k2 + 1)) = chsB (r.chs.take k2) ++ chB x by rw [take_succ_of hxg]; simp [chsB])
          have hszr : base ≤ wr.heap.size := Nat.le_trans hw4s hBl2.size
          have hQ : (p3 ++ chsB (r.chs.take k2)).length ≤ 1000000 := by
            have h1 := HL.out
            have h2 : chsB r.chs = chsB (r.chs.take k2) ++ chsB (r.chs.drop k2) := by unfold chsB; rw [← List.flatMap_append, List.take_append_drop]
            rw [HBody.out, h2] at h1
            simp only [List.length_append] at h1 ⊢
            omega
          generalize hpb : p3 ++ chsB (r.chs.take k2) = pb at *
          have HPB := hid hpb
          have hWC := hid (fun (W : World) (hx : Ext wr W) => wchoice_any W g base v' pb x (.slice A' x.data.length c) (.slice A'' x.edits.length c') (hb'.ext hx) (ho'.ext hx) hne' (Nat.le_trans hszr hx.size) hbg
            (t1.keep fun b hb => ⟨hb, fun o => hx.cell (Nat.lt_of_lt_of_le hb hszr) o⟩) (t2.keep fun b hb => ⟨hb, fun o => hx.cell (Nat.lt_of_lt_of_le hb hszr) o⟩) hT.1 hT.2 (by omega))
          clear hpb hxg hs1 hs2 t1 t2 q0 q1 q2 q3 q4 hcell hT
          generalize x.data.length = dl at *
          generalize x.edits.length = el' at *
          go_wp2_with (first
            | (go_at_call 90; refine (hWC.out _ (ext_alloc _ _)).mono ?_; rintro e w7 ⟨rfl, v7, hb7, ho7, hw7, hv7⟩))
          go_roundw
          case rel =>
            refine ⟨k2 + 1, by omega, by go_num, v7, hb7, ?_, hv7, Below.trans hBl2 ((Wr.since (ext_alloc _ _) hw7).below hszr hbg (fun j e => (ho'.lt j e).1))⟩
            rw [HT.out, ← List.append_assoc, HPB.out]
            exact ho7
          case measure => simp [intOf]; omega
        · obtain rfl : k2 = cn := by omega
          rw [List.take_of_length_le (by rw [HC.out]; exact Nat.le_refl _)] at ho'
          have hbody : p3 ++ chsB r.chs = bodyB r := by rw [HBody.out]
          rw [hbody] at ho'
          have hlenB := HL.out
          generalize hbb : bodyB r = bb at *
          have HBB := hid hbb
          clear hbb
          have hszr : base ≤ wr.heap.size := Nat.le_trans hw4s hBl2.size
          have hc0 : wr.cell? ⟨g, 0, none⟩ = some v' := hb'.cell 0
          have hcd : wr.drew.cell? ⟨g, 0, none⟩ = some v' := hc0
          clear hbody
          go_wp2
          have hsl : IsSlice repByte wr (all wr) v' bb := ho'.slice
          obtain ⟨A9, c9, rfl, _⟩ := ho'.form
          have hW : Below w.heap.size w wr := Below.trans (Ext.trans hx1 hx14) (hBl2.mono (by omega))
          clear ho'
          go_region_law (first
            | (go_simp; go_at_call 91; refine (tabNew_any _).mono ?_; rintro r w7 ⟨rfl, hta, hx7⟩; have hx7 : Ext wr w7 := Ext.trans (Below.drew (Below.refl _ _)) hx7; have c7 := (Ext.cell hx7 hb'.lt 0).trans hc0; have hsl7 := hsl.ext hx7; dsimp only)
            | (go_simp; go_at_call 92; refine (tabPutOwn_any w7 _ hta _ bb hsl7 (by omega)).mono ?_; rintro r w8 ⟨u8, rfl, hu8, hx8⟩; dsimp only))
          all_goals
            go_wp2
            go_ret2
            exact ⟨u8, rfl, by rw [HBB.out]; exact hu8.low (Ext.trans hW hx7).size, Ext.trans (Ext.trans hW hx7) hx8⟩
end
/-- Bytes of one's own, as a block. -/
theorem Own.block {base : Nat} {w : World} {v : Value} {xs : List UInt8} (h : Own repByte 5 base w v xs) (hx : xs ≠ []) :
    ∃ g cap cur, v = .slice (some ⟨g, 0, none⟩) xs.length cap ∧ base ≤ g ∧ Blk w g 5 cur ∧ xs.length ≤ cap ∧ cap ≤ maxLen ∧ ∀ (j : Nat) (c : UInt8), xs[j]? = some c → cur[j]? = some (.int .u8 (c.toNat : Int)) := by
  have hf := h.form
  obtain ⟨ys, ⟨hl, h1⟩, h2⟩ := h
  rcases h1 with ⟨rfl, hn⟩ | ⟨g, cap, cur, rfl, hg, hh, hnc, hm, hc, ht⟩
  · exact absurd (List.eq_nil_of_length_eq_zero hn) hx
  · refine ⟨g, cap, cur, rfl, hg, hh, hnc, hm, fun j c hj => ?_⟩
    have hjl : j < xs.length := lt_of_get hj
    have h3 := h2 j hjl
    have h4 : (ys.drop (j * repByte.size)).take repByte.size = [.int .u8 ((xs[j]).toNat : Int)] := h3
    have hjy : j < ys.length := by rw [hl]; show j < xs.length * 1; omega
    have h5 : (ys.drop (j * repByte.size)).take repByte.size = [ys[j]] := by
      show (ys.drop (j * 1)).take 1 = [ys[j]]
      rw [Nat.mul_one, List.drop_eq_getElem_cons hjy]
      rfl
    rw [h5] at h4
    have h6 : ys[j] = .int .u8 ((xs[j]).toNat : Int) := by simpa using h4
    have h7 : xs[j] = c := by rw [List.getElem?_eq_getElem hjl] at hj; injection hj
    rw [h7] at h6
    have h8 : cur.toList.take (xs.length * repByte.size) = ys := ht
    have h9 : cur.toList[j]? = ys[j]? := by
      rw [← h8, List.getElem?_take, if_pos (by show j < xs.length * 1; omega)]
    rw [← Array.getElem?_toList, h9, List.getElem?_eq_getElem hjy, h6]
end Go.Proofs.Ytjchobncmogcpaa
