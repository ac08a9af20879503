/- The law TimerDoes: its walk. -/
import Derived.Test.YtjchobncmogcpaaTimerLive
import Derived.Test.YtjchobncmogcpaaTimerR2
namespace Go.Proofs.Ytjchobncmogcpaa
open Go.RowKit

/-- Both timers, side by side. -/
structure Both (W w : World) (gt b gr : Nat) (most : Int) (T : List Tm) : Prop where
  tm : TmAt w gt b most T
  rt : RtAt w gr most T
  ok : TmOk most T
  ext : Ext W w
section
variable {W w w' : World} {gt b gr : Nat} {most : Int} {T T' : List Tm}
theorem Both.later (h : Both W w gt b gr most T) (he : Ext w w') : Both W w' gt b gr most T := ⟨h.tm.ext he, h.rt.ext he, h.ok, Ext.trans h.ext he⟩
theorem TmAt.below (h : TmAt w gt b most T) (hb : Below gr w w') (h1 : gt < gr) (h2 : b < gr) : TmAt w' gt b most T := by
  obtain ⟨hbl, hne, l, ⟨es, clock, m1, m2⟩, hL⟩ := h
  exact ⟨(hb.block gt h1).trans hbl, hne, l, ⟨es, clock, (hb.block b h2).trans m1, m2⟩, hL⟩
theorem TmAt.out (h : TmAt w gt b most T) {X : Nat → Prop} (hb : Out X w w') (h1 : ¬ X gt) (h2 : ¬ X b) : TmAt w' gt b most T := by
  have hlt := h.lt
  obtain ⟨hbl, hne, l, ⟨es, clock, m1, m2⟩, hL⟩ := h
  exact ⟨(hb.block gt hlt.1 h1).trans hbl, hne, l, ⟨es, clock, (hb.block b hlt.2 h2).trans m1, m2⟩, hL⟩
end
set_option maxRecDepth 100000
section
theorem both_tick {W w : World} {gt b gr : Nat} {most : Int} {T : List Tm} (h : Both W w gt b gr most T) (h1 : gt < gr) (h2 : b < gr) (h3 : W.heap.size ≤ b) (hT : T.length ≤ 1000) (hm1 : 1 ≤ most) (hm2 : most ≤ 64) :
    Calls Try.prog 45 #[.pointer (some ⟨gt, 0, none⟩)] w fun e w3 => ∃ u c A, e = .returned u ∧ u = .slice A (dueT T).length c ∧
      Calls Try.prog 46 #[.pointer (some ⟨gr, 0, none⟩)] w3 fun e w5 => ∃ u2 c2 A2, e = .returned u2 ∧ u2 = .slice A2 (dueT T).length c2 ∧ IsSlice (repInt .i64) w5 (all w5) u (dueT T) ∧ IsSlice (repInt .i64) w5 (all w5) u2 (dueT T) ∧ Both W w5 gt b gr most (tickT most T) := by
  have hrt := h.rt
  obtain ⟨v0, hv0, hown0⟩ := h.rt
  refine (tmTick_any w gt b most T h.tm h.ok hT hm2).mono ?_
  rintro e w3 ⟨u, rfl, hu, ht3, ho3⟩
  obtain ⟨A, c, rfl⟩ := hu.shape
  refine ⟨_, c, A, rfl, rfl, ?_⟩
  have hv3 := hv0.grown ho3 (fun e => by injection e with e; omega)
  refine (rtTick_any w3 gr most T (hrt.kept ho3 h2) (by omega) hm2 h.ok w.heap.size fun v hv k hk => ?_).mono ?_
  · have he : Obj.cells #[.int .i64 most, v] 102 (0, 0) = Obj.cells #[.int .i64 most, v0] 102 (0, 0) := by
      have := hv.symm.trans hv3
      injection this
    injection he with he _ _
    have hve : v = v0 := by
      have := congrArg (fun a : Array Value => a[1]?) he
      simpa using this
    subst hve
    exact (hown0.lt k hk).2
  · rintro e w5 ⟨u2, rfl, hu2, hr5, ho5⟩
    obtain ⟨A2, c2, rfl⟩ := hu2.shape
    have hx3 : Ext W w3 := ho3.ext_new h.ext h3
    refine ⟨_, c2, A2, rfl, rfl, hu.keep (fun k hk => ⟨Nat.lt_of_lt_of_le hk.2 ho5.size, fun o => ho5.cell hk.2 (fun hh => by have := hk.1; omega) o⟩), hu2.any, ht3.out ho5 (by omega) (by omega), hr5, tickT_ok hm1 h.ok, ho5.ext_new hx3 (fun k hk => by omega)⟩
theorem both_set {W w : World} {gt b gr : Nat} {most : Int} {T : List Tm} (h : Both W w gt b gr most T) (h1 : gt < gr) (h2 : b < gr) (h3 : W.heap.size ≤ b) (hT : T.length ≤ 1000) (hm1 : 1 ≤ most) (k : Int) (hk : (Lit.int .i64 k).wf = true) :
    Calls Try.prog 47 #[.pointer (some ⟨gt, 0, none⟩), .int .i64 k] w fun e w3 => e = .returned (.tuple #[]) ∧
      Calls Try.prog 48 #[.pointer (some ⟨gr, 0, none⟩), .int .i64 k] w3 fun e w5 => e = .returned (.tuple #[]) ∧ Both W w5 gt b gr most (tset T ⟨k, 1, 1⟩) := by
  refine (tmSet_any w gt b most T h.tm h.ok.asc k).mono ?_
  rintro e w3 ⟨rfl, ht3, ho3⟩
  refine ⟨rfl, (rtSet_any w3 gr most T (h.rt.kept ho3 h2) (by omega) k).mono ?_⟩
  rintro e w5 ⟨rfl, hr5, hb5⟩
  have hx3 : Ext W w3 := ho3.ext_new h.ext h3
  exact ⟨rfl, ht3.below hb5 h1 h2, hr5, tset_ok h.ok ⟨hk, Int.le_refl _, Int.le_refl _, hm1⟩, ⟨hb5.os.trans hx3.os, hb5.tape.trans hx3.tape, hb5.output.trans hx3.output, Nat.le_trans hx3.size hb5.size, fun i hi => (hb5.block i (by omega)).trans (hx3.block i hi)⟩⟩
theorem both_clear {W w : World} {gt b gr : Nat} {most : Int} {T : List Tm} (h : Both W w gt b gr most T) (h1 : gt < gr) (h2 : b < gr) (h3 : W.heap.size ≤ b) (hT : T.length ≤ 1000) (k : Int) :
    Calls Try.prog 49 #[.pointer (some ⟨gt, 0, none⟩), .int .i64 k] w fun e w3 => e = .returned (.bool (tfound T k)) ∧
      Calls Try.prog 50 #[.pointer (some ⟨gr, 0, none⟩), .int .i64 k] w3 fun e w5 => e = .returned (.bool (tfound T k)) ∧ Both W w5 gt b gr most (tdel T k) := by
  refine (tmClear_any w gt b most T h.tm h.ok.asc k).mono ?_
  rintro e w3 ⟨rfl, ht3, ho3⟩
  refine ⟨by rw [tfound_is h.ok.asc], (rtClear_any w3 gr most T (h.rt.kept ho3 h2) (by omega) k).mono ?_⟩
  rintro e w5 ⟨rfl, hr5, hb5⟩
  have hx3 : Ext W w3 := ho3.ext_new h.ext h3
  exact ⟨rfl, ht3.below hb5 h1 h2, hr5, tdel_ok h.ok k, ⟨hb5.os.trans hx3.os, hb5.tape.trans hx3.tape, hb5.output.trans hx3.output, Nat.le_trans hx3.size hb5.size, fun i hi => (hb5.block i (by omega)).trans (hx3.block i hi)⟩⟩
set_option maxHeartbeats 4000000 in
theorem timerDoes_any (a0 : Int) (v : Value) (acts : List (Int × Int)) (W : World) (o1 : IsSlice repAct W (all W) v acts) :
    Calls Try.prog 9 #[.int .i64 a0, v] W fun e w' => e = .returned (.bool true) ∧ Ext W w' := by
  obtain ⟨A, n, c, rfl, hnc, hcm, hrow⟩ := o1
  have hn := hrow.1
  have hmax : n ≤ 9223372036854775807 := by unfold maxLen at hcm; omega
  have HN := hid hn
  have HLV := hid (fun (w1 : World) => tmLive_any w1)
  clear hn
  by_cases hbig : 200 < n
  · have hB : decide (200 < n) = true := decide_eq_true hbig
    go_enter Try.func9, Try.ntmps9
    go_wp2_with (go_at_call 40; refine (HLV.out _).mono ?_; rintro e w1 ⟨rfl, hx1⟩)
    go_ret
    exact ⟨rfl, hx1⟩
  · by_cases hm : 1 ≤ a0 ∧ a0 ≤ 64
    · obtain ⟨hm1, hm2⟩ := hm
      have HNW := hid (tmNew_yes W a0 hm1 hm2)
      go_enter Try.func9, Try.ntmps9
      go_wp2_with (first
        | (go_at_call 41; refine HNW.out.mono ?_; rintro e w1 ⟨gt, b, rfl, hgt, hbb, ht1, hx1⟩)
        | (go_at_call 42; refine (rtNew_yes w1 a0 hm1 hm2).mono ?_; rintro e w2 ⟨gr, rfl, hgr, hr2, hx2⟩)
        | (go_at_call 43; refine (numT_any 0 _).mono ?_; rintro e w3 ⟨rfl, rfl⟩))
      have hlt1 := ht1.lt
      have hg1 : gt < gr := by omega
      have hg2 : b < gr := by omega
      have hBo : Both W w2 gt b gr a0 [] := ⟨ht1.ext hx2, hr2, ⟨by simp [Asc], fun t ht => by simp at ht⟩, Ext.trans hx1 hx2⟩
      have HBo := hid hBo
      clear ht1 hr2 hBo hlt1 hx1 hx2
      go_loopw [9] (fun i wr => ∃ (k : Nat) (T : List Tm), k ≤ n ∧ i = .int .i64 k ∧ T.length ≤ k ∧ Wall (Both W wr gt b gr a0 T)) (fun i _ => n - (intOf i).toNat)
      case atStart => exact ⟨0, [], Nat.zero_le _, rfl, Nat.le_refl _, HBo⟩
      case round =>
        obtain ⟨k, T, hk, rfl, hTk, hb⟩ := hrel
        by_cases hlt : k < n
        · obtain ⟨b1, off, x, rfl, hbW, hx, hwf, e0, e1⟩ := hrow.act hlt
          obtain ⟨kind, key⟩ := x
          have HWF := hid hwf
          have f0 := (Ext.cell hb.out.ext hbW _).trans e0
          have f1 := (Ext.cell hb.out.ext hbW _).trans e1
          simp only at f0 f1
          clear hx hwf e0 e1
          have hB0 := hid (fun (w1 : World) => sameInts_any)
          clear hB0
          have HTK := hid (both_tick hb.out hg1 hg2 hbb (by omega) hm1 hm2)
          have HST := hid (both_set hb.out hg1 hg2 hbb (by omega) hm1 key HWF.out)
          have HCL := hid (both_clear hb.out hg1 hg2 hbb (by omega) key)
          obtain ⟨D, hD⟩ : ∃ D, D = dueT T := ⟨_, rfl⟩
          rw [← hD] at HTK
          have HSM := hid (fun (w1 : World) (v u : Value) (h1 : IsSlice (repInt .i64) w1 (all w1) v D) (h2 : IsSlice (repInt .i64) w1 (all w1) u D) => sameInts_any v u D D w1 h1 h2)
          rw [show decide (D = D) = true from decide_eq_true rfl] at HSM
          obtain ⟨fd, hfd⟩ : ∃ fd, fd = tfound T key := ⟨_, rfl⟩
          rw [← hfd] at HCL
          clear hD hfd
          generalize D.length = dn at *
          have hk4 : kind = 0 ∨ kind = 1 ∨ kind = 2 ∨ (kind ≠ 0 ∧ kind ≠ 1 ∧ kind ≠ 2) := by omega
          have hl0 : (tickT a0 T).length ≤ k + 1 := by unfold tickT; rw [List.length_map]; omega
          have hl1 := tset_len T ⟨key, 1, 1⟩
          have hl2 := tdel_len T key
          rcases hk4 with k0 | k0 | k0 | ⟨k0, k1, k2⟩
          case' pos.inl =>
            subst k0
            go_upto_region 21 with (first
              | (go_at_call 45; refine HTK.out.mono ?_; rintro e w3 ⟨u, cu, Au, rfl, rfl, HRT⟩; have HRT := hid HRT)
              | (go_at_call 46; refine HRT.out.mono ?_; rintro e w5 ⟨u2, cu2, Au2, rfl, rfl, hu, hu2, hb5⟩; have hb5 := hid hb5)
              | (go_at_call 44; refine (HSM.out _ _ _ hu hu2).mono ?_; rintro e wz ⟨rfl, hx6⟩))
            obtain ⟨T2, hT2⟩ : ∃ T2, T2 = tickT a0 T := ⟨_, rfl⟩
            rw [← hT2] at hb5 hl0
            have hlT : T2.length ≤ k + 1 := hl0
            have hbz := hid (hb5.out.later hx6)
          case' pos.inr.inl =>
            subst k0
            go_upto_region 21 with (first
              | (go_at_call 47; refine HST.out.mono ?_; rintro e w3 ⟨rfl, HRT⟩; have HRT := hid HRT)
              | (go_at_call 48; refine HRT.out.mono ?_; rintro e wz ⟨rfl, hb5⟩; have hb5 := hid hb5))
            obtain ⟨T2, hT2⟩ : ∃ T2, T2 = tset T ⟨key, 1, 1⟩ := ⟨_, rfl⟩
            rw [← hT2] at hb5 hl1
            have hlT : T2.length ≤ k + 1 := by omega
            have hbz := hb5
          case' pos.inr.inr.inl =>
            subst k0
            go_upto_region 21 with (first
              | (go_at_call 49; refine HCL.out.mono ?_; rintro e w3 ⟨rfl, HRT⟩; have HRT := hid HRT)
              | (go_at_call 50; refine HRT.out.mono ?_; rintro e wz ⟨rfl, hb5⟩; have hb5 := hid hb5))
            obtain ⟨T2, hT2⟩ : ∃ T2, T2 = tdel T key := ⟨_, rfl⟩
            rw [← hT2] at hb5 hl2
            have hlT : T2.length ≤ k + 1 := by omega
            have hbz := hb5
          case' pos.inr.inr.inr =>
            have q0 : (kind == 0) = false := by simpa using k0
            have q1 : (kind == 1) = false := by simpa using k1
            have q2 : (kind == 2) = false := by simpa using k2
            clear k0 k1 k2
            go_upto_region 21 with (fail)
            obtain ⟨wz, hwz⟩ : ∃ wz, wz = wr := ⟨_, rfl⟩
            subst hwz
            obtain ⟨T2, hT2⟩ : ∃ T2, T2 = T := ⟨_, rfl⟩
            rw [← hT2] at hb
            have hlT : T2.length ≤ k + 1 := by rw [hT2]; omega
            have hbz := hb
          all_goals
            clear HTK HST HCL HSM hT2 hl0 hl1 hl2 hb f0 f1
            have HK := hid (tmKeys_any wz gt b a0 T2 hbz.out.tm hbz.out.ok (by omega))
            obtain ⟨v2, hv2, hown2⟩ := hbz.out.rt
            obtain ⟨A2, c2, rfl, hc1, hc2, hrow2⟩ := hown2.form
            have hgrl := hv2.lt
            have r1 := hv2.cell 1
            obtain ⟨L, hL⟩ : ∃ L, L = T2.length := ⟨_, rfl⟩
            rw [← hL] at hc1 hrow2 hlT
            have r1 : wz.cell? ⟨gr, 1, none⟩ = some (.slice A2 L c2) := by rw [hL]; exact hv2.cell 1
            have HL := hid hL
            obtain ⟨KS, hKS⟩ : ∃ KS, KS = T2.map (·.key) := ⟨_, rfl⟩
            rw [← hKS] at HK
            have hkl : KS.length = L := by rw [hKS, hL]; simp
            have HKS := hid hKS
            have HKL := hid hkl
            have hnn : ((L : Int) != (L : Int)) = false := by simp
            clear hL hKS hkl hv2 hown2
            go_upto_region 22 with (go_at_call 51; refine HK.out.mono ?_; rintro e w7 ⟨uk, rfl, huk, hx7⟩; obtain ⟨Ak, ck, rfl⟩ := huk.shape; have hrk := huk.any; rw [HKL.out] at hrk ⊢; clear huk)
            have r7 := (hx7.cell hgrl 1).trans r1
            obtain ⟨A9, n9, c9, hv9, _, _, hrk9⟩ := hrk
            injection hv9 with g1 g2 g3
            subst g1 g2 g3
            go_wp2
            go_loopw [12] (fun i wd => ∃ j : Nat, j ≤ L ∧ i = .int .i64 j ∧ Ext w7 wd) (fun i _ => L - (intOf i).toNat)
            case atStart => exact ⟨0, Nat.zero_le _, rfl, Below.refl _ _⟩
            case round =>
              obtain ⟨j, hj, rfl, hxd⟩ := hrel
              have hzd := Ext.trans hx7 hxd
              by_cases hjl : j < L
              · obtain ⟨b2, o2, t, rfl, _, hx, m0, m1, m2⟩ := hrow2.tm hjl
                obtain ⟨b3, o3, y, rfl, hb3, hy, my, _⟩ := hrk9.int hjl
                have hyk : y = t.key := by
                  rw [HKS.out, List.getElem?_map, hx] at hy
                  simpa using hy.symm
                subst hyk
                have hlm := lt_of_cell' m0
                have hb3' : b3 < w7.heap.size := hb3
                have htm := tlook_some hbz.out.ok.asc (List.mem_of_getElem? hx)
                have HLF := hid (tmLeft_any wr gt b a0 T2 (hbz.out.tm.ext hzd) t.key)
                rw [htm, Option.map_some, Option.map_some, Option.getD_some, Option.getD_some] at HLF
                have i0 := (hzd.cell hlm _).trans m0
                have i1 := (hzd.cell hlm _).trans m1
                have i2 := (hzd.cell hlm _).trans m2
                have iy := (hxd.cell hb3' _).trans my
                have ir := (hxd.cell (Nat.lt_of_lt_of_le hgrl hx7.size) 1).trans r7
                have l1 := Nat.lt_of_lt_of_le hlm hzd.size
                have l2 := Nat.lt_of_lt_of_le hb3' hxd.size
                have l3 := Nat.lt_of_lt_of_le hgrl hzd.size
                obtain ⟨tk, htk⟩ : ∃ tk, tk = t.key := ⟨_, rfl⟩
                obtain ⟨tl, htl⟩ : ∃ tl, tl = t.left := ⟨_, rfl⟩
                obtain ⟨ts, hts⟩ : ∃ ts, ts = t.span := ⟨_, rfl⟩
                rw [← htk] at i0 iy HLF
                rw [← htl] at i1 HLF
                rw [← hts] at i2 HLF
                have n0 : (tk != tk) = false := by simp
                have n1 : (tl != tl) = false := by simp
                have n2 : (ts != ts) = false := by simp
                clear htk htl hts htm hx hy m0 m1 m2 my r7 r1
                go_wp2_with (go_at_call 52; refine HLF.out.mono ?_; rintro e w8 ⟨rfl, hx8⟩; have p0 := (hx8.cell l1 _).trans i0; have p1 := (hx8.cell l1 _).trans i1; have p2 := (hx8.cell l1 _).trans i2; have py := (hx8.cell l2 _).trans iy; have pr := (hx8.cell l3 _).trans ir; clear i0 i1 i2 iy ir)
                go_quiet (fail)
                go_wp2
                go_roundw
                case rel => exact ⟨j + 1, by omega, by go_num, Ext.trans hxd (Ext.trans hx8 (ext_drewN _ _))⟩
                case measure => simp [intOf]; omega
              · clear hrk9 hrow2 r7 r1
                have HAT := hid (fun (w1 : World) (he : Ext wz w1) => rtAt_any w1 gr a0 T2 (hbz.out.rt.ext he) key)
                have HLF := hid (fun (w1 : World) (he : Ext wz w1) => tmLeft_any w1 gt b a0 T2 (hbz.out.tm.ext he) key)
                rw [tfound_is hbz.out.ok.asc] at HAT
                have HBZ := hid (fun (w1 : World) (he : Ext wz w1) => hbz.out.later he)
                clear hbz
                cases hlk : tlook T2 key with
                | none =>
                  rw [hlk] at HAT HLF
                  simp only [Option.map_none, Option.getD_none, Option.isSome_none] at HAT HLF
                  clear hlk
                  go_wp2_with (first
                    | (go_at_call 53; refine (HAT.out _ hzd).mono ?_; rintro e w8 ⟨rfl, d8, hd8⟩; have hx8 : Ext wz w8 := (by rw [hd8]; exact Ext.trans hzd (ext_drewN _ _)); clear hd8)
                    | (go_at_call 52; refine (HLF.out _ hx8).mono ?_; rintro e w9 ⟨rfl, hx9⟩))
                  go_roundw
                  case rel => exact ⟨k + 1, T2, by omega, by go_num, by have := HL.out; omega, hid (HBZ.out _ (Ext.trans hx8 hx9))⟩
                  case measure => simp [intOf]; omega
                | some t =>
                  rw [hlk] at HAT HLF
                  simp only [Option.map_some, Option.getD_some, Option.isSome_some] at HAT HLF
                  clear hlk
                  go_wp2_with (first
                    | (go_at_call 53; refine (HAT.out _ hzd).mono ?_; rintro e w8 ⟨rfl, d8, hd8⟩; have hx8 : Ext wz w8 := (by rw [hd8]; exact Ext.trans hzd (ext_drewN _ _)); clear hd8)
                    | (go_at_call 52; refine (HLF.out _ hx8).mono ?_; rintro e w9 ⟨rfl, hx9⟩))
                  go_roundw
                  case rel => exact ⟨k + 1, T2, by omega, by go_num, by have := HL.out; omega, hid (HBZ.out _ (Ext.trans hx8 hx9))⟩
                  case measure => simp [intOf]; omega
        · obtain rfl : k = n := by omega
          have hx := hb.out.ext
          clear hb
          go_wp2_with (go_at_call 40; refine (HLV.out _).mono ?_; rintro e w4 ⟨rfl, hx4⟩)
          go_ret
          exact ⟨rfl, Ext.trans hx hx4⟩
    · have HNW := hid (tmNew_no W a0 (by omega))
      have HNR := hid (rtNew_no W a0 (by omega))
      clear hm
      go_enter Try.func9, Try.ntmps9
      go_wp2_with (first
        | (go_at_call 41; refine HNW.out.mono ?_; rintro e w1 ⟨rfl, rfl⟩)
        | (go_at_call 42; refine HNR.out.mono ?_; rintro e w1 ⟨rfl, rfl⟩)
        | (go_at_call 43; refine (numT_any 1 _).mono ?_; rintro e w3 ⟨rfl, rfl⟩))
      by_cases h0 : n = 0
      · subst h0
        go_loopw [9] (fun i wr => i = .int .i64 0 ∧ wr = W) (fun _ _ => 0)
        case atStart => exact ⟨rfl, rfl⟩
        case round =>
          obtain ⟨rfl, rfl⟩ := hrel
          go_wp2_with (go_at_call 40; refine (HLV.out _).mono ?_; rintro e w4 ⟨rfl, hx4⟩)
          go_ret
          exact ⟨rfl, hx4⟩
      · have hn0 : 0 < n := by omega
        clear h0
        go_loopw [9] (fun i wr => i = .int .i64 0 ∧ wr = W) (fun _ _ => 0)
        case atStart => exact ⟨rfl, rfl⟩
        case round =>
          obtain ⟨rfl, rfl⟩ := hrel
          go_wp2_with (go_at_call 40; refine (HLV.out _).mono ?_; rintro e w4 ⟨rfl, hx4⟩)
          go_ret
          exact ⟨rfl, hx4⟩
end
end Go.Proofs.Ytjchobncmogcpaa
