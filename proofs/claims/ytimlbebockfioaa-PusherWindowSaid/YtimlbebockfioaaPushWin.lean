/- The law PusherWindow: its walk. -/
import Derived.Test.YtimlbebockfioaaPushDo
import Derived.Test.YtimlbebockfioaaPushLive
import Derived.Deep.DeepCutAuto
namespace Go.Proofs.Ytimlbebockfioaa
open Go.RowKit

theorem actP_is {c : Cfg} {W R : Nat} {s : Ps} (hc : CfgP c W R) (h : PsOk W R c.b s) (hl : s.acc.length ≤ 1000000) (x : Ac) : s.base ≤ (actP c W R s x).1.base ∧ s.next ≤ (actP c W R s x).1.next ∧ (s.next < (actP c W R s x).1.next → (actP c W R s x).2 = (actP c W R s x).1.next - s.next) ∧ (actP c W R s x).1.acc.length ≤ s.acc.length + 1 := by
  unfold actP
  split
  · split
    · exact ⟨Nat.le_refl _, Nat.le_refl _, fun h => by simp at h, by simp⟩
    · refine ⟨Nat.le_refl _, ?_, fun _ => ?_, ?_⟩
      · show s.next ≤ s.next + _; omega
      · show onC W _ = s.next + onC W _ - s.next; omega
      · show (s.acc ++ [x.m]).length ≤ _; simp
  · split
    · exact ⟨Nat.le_refl _, Nat.le_refl _, fun h => by simp at h, by simp⟩
    · split
      · cases htp : takeP W c.m s x.s.ack x.s.seq x.s.bits.toNat with
        | none => exact ⟨Nat.le_refl _, Nat.le_refl _, fun h => by simp at h, by simp⟩
        | some s1 =>
          obtain ⟨h1, h2, h3, h4⟩ := takeP_ok h hc.b1 hl htp
          refine ⟨h3, ?_, fun _ => ?_, ?_⟩
          · show s.next ≤ s1.next + _; omega
          · show onC W s1 = s1.next + onC W s1 - s.next; omega
          · show s1.acc.length ≤ _; rw [h2]; omega
      · exact ⟨Nat.le_refl _, Nat.le_refl _, fun h => by simp at h, by simp⟩
set_option maxRecDepth 100000
section
set_option maxHeartbeats 4000000 in
theorem pushWin_main (c : Cfg) (Wn R : Nat) (hc : CfgP c Wn R) (hw : (Lit.int .i64 c.w).wf = true) (hck : checkV c.w c.m c.l = 0) (v : Value) (acts : List Ac) (W : World) (o1 : IsSlice repAc W (all W) v acts) (hhg : hugeA acts = false) :
    Calls Try.prog 3 #[.agg (cfgVals c).toArray, v] W fun e w' => e = .returned (.bool true) ∧ Ext W w' := by
  have HLV := hid pushLive_any
  have hb := Blk.new W 24 (cfgVals c).toArray
  have hx := ext_alloc W (.cells (cfgVals c).toArray 24)
  have hNP := newPs_any (W.alloc (.cells (cfgVals c).toArray 24)) c hw hck hc.b1 hc.b2 hc.ok.r1 hc.ok.r2
  have hsz1 := hx.size
  have HHG := hid fun W1 (he : Ext W W1) => hugeA_any v acts W1 (o1.ext he)
  rw [hhg] at HHG
  obtain ⟨A, n, cc, rfl, hnc, hcm, hrow⟩ := o1
  have hn := hrow.1
  have hno := hugeA_no hhg
  have hn100 : n ≤ 100 := by omega
  have HD := hid hno.2
  have HC := hid hc
  have hpk : PsOk Wn R c.b ⟨[], 0, 0, []⟩ := ⟨⟨by simp [Asc], fun t ht => by simp at ht⟩, Nat.le_refl _, Nat.le_refl _, by simp, by simp, fun t ht => by simp at ht, fun h => by simp at h, fun x hx => by simp at hx⟩
  have HPK := hid hpk
  have hcw := hc.w
  have hcr := hc.r
  have hcb := hc.wle
  clear hw hck hc hhg hno hn hpk
  unfold cfgVals at *
  have HNP := hid hNP
  have HCW := hid hcw
  have HCR := hid hcr
  clear hcw hcr
  have b0 := hb.cell 0
  have b1 := hb.cell 1
  have b2 := hb.cell 2
  have b3 := hb.cell 3
  have b4 := hb.cell 4
  have b5 := hb.cell 5
  have b6 := hb.cell 6
  clear hNP
  go_enter Try.func3, Try.ntmps3
  go_wp2_with (first
    | (go_at_call 7; refine HNP.out.mono ?_; rintro e w3 ⟨gp, gt, b, rfl, hp3, hx3, l1, l2, l3⟩)
    | (go_at_call 8; refine (HHG.out _ (Ext.trans hx hx3)).mono ?_; rintro e w4 ⟨rfl, rfl⟩)
    | (go_at_call 9; refine (anum_any _ _).mono ?_; rintro e w5 ⟨rfl, rfl⟩))
  have hPL : PsL (fun q => q < (W.alloc (.cells #[.int .i64 c.e, .int .i64 c.w, .int .i64 c.m, .int .i64 c.l, .int .i64 c.b, .int .i64 c.room, .int .u64 c.begin_] 24)).heap.size) w3 gp gt b c Wn R ⟨[], 0, 0, []⟩ := ⟨⟨_, hp3, fun q hq hX => by rcases hq with e | e | e | e; omega; omega; omega; exact e⟩, HPK.out, fun k hk => Nat.lt_of_lt_of_le hk hx3.size⟩
  have HPL := hid hPL
  have HBK := hid hb
  have hgb := hb.lt
  have HSZ1 := hid hsz1
  clear hb hp3 hPL l1 l2 l3 HNP HHG HPK b0 b1 b2 b3 b4 b5 b6 hsz1
  generalize W.alloc (.cells #[.int .i64 c.e, .int .i64 c.w, .int .i64 c.m, .int .i64 c.l, .int .i64 c.b, .int .i64 c.room, .int .u64 c.begin_] 24) = w0 at *
  have HX0 := hid hx
  have HX3 := hid hx3
  clear hx hx3
  obtain ⟨gc, hgc⟩ : ∃ gc, gc = W.heap.size := ⟨_, rfl⟩
  rw [← hgc] at HBK hgb ⊢
  clear hgc
  go_loopw [7] (fun i wr => ∃ (k : Nat) (s : Ps), k ≤ n ∧ i = .int .i64 k ∧ s.acc.length ≤ k ∧ Wall (PsL (fun q => q < w0.heap.size) wr gp gt b c Wn R s) ∧ Wall (Ext w0 wr)) (fun i _ => n - (intOf i).toNat)
  case atStart => exact ⟨0, _, Nat.zero_le _, rfl, Nat.le_refl _, HPL, HX3⟩
  case round =>
    obtain ⟨k, s, hk, rfl, hsk, hP, hxr⟩ := hrel
    by_cases hlt : k < n
    · obtain ⟨ba, off, x, A1, c1, A2, c2, rfl, hbW, hxk, ⟨_, hwb⟩, hm, _, e0, e1, e2, e3, e4, e5, e6⟩ := hrow.ac hlt
      have hcb2 := HC.out
      have hxW := Ext.trans HX0.out hxr.out
      obtain ⟨q1, q2, q3, q4⟩ := actP_is hcb2 hP.out.ok (by omega) x
      have HDO := hid fun (X : Nat → Prop) (w1 : World) (he : Ext wr w1) (hP1 : PsL X w1 gp gt b c Wn R s) => psl_do hP1 hcb2 (by omega) x hwb A1 A2 c1 c2 ((hm.ext hxW).ext he)
      have HE := hid (fun (w1 : World) (he : Ext wr w1) => (⟨((hxW.trans he).cell hbW _).trans e0, ((hxW.trans he).cell hbW _).trans e1, ((hxW.trans he).cell hbW _).trans e2, ((hxW.trans he).cell hbW _).trans e3, ((hxW.trans he).cell hbW _).trans e4, ((hxW.trans he).cell hbW _).trans e5, ((hxW.trans he).cell hbW _).trans e6⟩ :
        w1.cell? ⟨ba, off + k * 7, none⟩ = some (.int .i64 x.kind) ∧ w1.cell? ⟨ba, off + k * 7 + 1, none⟩ = some (.int .i64 x.n) ∧ w1.cell? ⟨ba, off + k * 7 + 2, none⟩ = some (.slice A1 x.m.length c1) ∧ w1.cell? ⟨ba, off + k * 7 + 3, none⟩ = some (.bool x.s.ack) ∧
        w1.cell? ⟨ba, off + k * 7 + 4, none⟩ = some (.int .i64 x.s.seq) ∧ w1.cell? ⟨ba, off + k * 7 + 5, none⟩ = some (.int .u64 x.s.bits) ∧ w1.cell? ⟨ba, off + k * 7 + 6, none⟩ = some (.slice A2 x.s.data.length c2)))
      have HS := hid fun (X : Nat → Prop) (w1 : World) (s1 : Ps) (h : PsL X w1 gp gt b c Wn R s1) (hl : s1.acc.length ≤ 1000000) => psl_state h hl
      have HT := hid fun (X : Nat → Prop) (w1 : World) (s1 : Ps) (h : PsL X w1 gp gt b c Wn R s1) => psl_timers h hcb2
      obtain ⟨s1, hs1⟩ : ∃ s1, s1 = (actP c Wn R s x).1 := ⟨_, rfl⟩
      obtain ⟨L1, hL1⟩ : ∃ L1, L1 = (actP c Wn R s x).2 := ⟨_, rfl⟩
      rw [← hs1] at HDO q1 q2 q3 q4
      rw [← hL1] at HDO q3
      have hl0 : s.acc.length ≤ 1000000 := by omega
      have hl1 : s1.acc.length ≤ 1000000 := by omega
      have HQ := hid (⟨q1, q2, q3, q4⟩ : s.base ≤ s1.base ∧ s.next ≤ s1.next ∧ (s.next < s1.next → L1 = s1.next - s.next) ∧ s1.acc.length ≤ s.acc.length + 1)
      clear hs1 hL1 q1 q2 q3 q4 e0 e1 e2 e3 e4 e5 e6 hm hxk hwb hcb2 hxW
      go_upto_region 8 with (first
        | (go_at_call 11; refine (HS.out _ _ _ hP.out hl0).mono ?_; rintro e w1 ⟨rfl, hx1⟩))
      have hx2 := Ext.trans hx1 (ext_alloc w1 (.cells #[.int .i64 (s.acc.length : Int), .int .i64 (s.base : Int), .int .i64 (s.next : Int)] 34))
      have hwas := Blk.new w1 34 #[.int .i64 (s.acc.length : Int), .int .i64 (s.base : Int), .int .i64 (s.next : Int)]
      generalize w1.alloc (.cells #[.int .i64 (s.acc.length : Int), .int .i64 (s.base : Int), .int .i64 (s.next : Int)] 34) = w2 at *
      obtain ⟨gw, hgw⟩ : ∃ gw, gw = w1.heap.size := ⟨_, rfl⟩
      rw [← hgw] at hwas ⊢
      have hgl := hwas.lt
      have hgg : wr.heap.size ≤ gw := by rw [hgw]; exact hx1.size
      have hP2 := hP.out.grow (Y := fun q => q < w0.heap.size ∨ q = gw) hx2 (fun q hq => hq.elim .inl fun e => .inr (by omega))
      obtain ⟨f0, f1, f2, f3, f4, f5, f6⟩ := HE.out w2 hx2
      have HDO2 := hid (HDO.out _ w2 hx2 hP2)
      have HW2 := hid hwas
      have HX2 := hid hx2
      clear hwas hx2 hP2 hx1 hgw HDO HE
      go_upto_region 9 with (first
        | (go_at_call 12; refine HDO2.out.mono ?_; rintro e w4 ⟨u, nn, rfl, hlen, hq4, ho4⟩; obtain ⟨Au, cu, rfl⟩ := hlen))
      have hw4 := HW2.out.out ho4 (fun h => h (.inr rfl))
      have hx04 : Ext w0 w4 := ho4.ext_held (Ext.trans hxr.out HX2.out) fun q hq => .inl hq
      have hbx4 := HBK.out.ext hx04
      have HQ4 := hid hq4
      have HW4 := hid hw4
      have HX04 := hid hx04
      have HB4 := hid hbx4
      clear ho4 hq4 hw4 hx04 hbx4 f0 f1 f2 f3 f4 f5 f6 HDO2
      go_upto_region 10 with (first
        | (go_at_call 11; refine (HS.out _ _ _ HQ4.out hl1).mono ?_; rintro e w5 ⟨rfl, hx5⟩)
        | (go_at_call 13; refine (HT.out _ _ _ (HQ4.out.later hx5)).mono ?_; rintro e w6 ⟨ut, rfl, hut, hx6⟩; obtain ⟨At, ct, rfl⟩ := hut.shape; have hut := hut.any))
      have hsb := Blk.new w6 34 #[.int .i64 (s1.acc.length : Int), .int .i64 (s1.base : Int), .int .i64 (s1.next : Int)]
      have hx7 := Ext.trans (Ext.trans hx5 hx6) (ext_alloc w6 (.cells #[.int .i64 (s1.acc.length : Int), .int .i64 (s1.base : Int), .int .i64 (s1.next : Int)] 34))
      have hut7 := hut.ext (ext_alloc w6 (.cells #[.int .i64 (s1.acc.length : Int), .int .i64 (s1.base : Int), .int .i64 (s1.next : Int)] 34))
      generalize w6.alloc (.cells #[.int .i64 (s1.acc.length : Int), .int .i64 (s1.base : Int), .int .i64 (s1.next : Int)] 34) = w7 at *
      have hwb := HW4.out.ext hx7
      have hbb := HB4.out.ext hx7
      have HEND := hid (⟨HQ4.out.grow (Y := fun q => q < w0.heap.size) hx7 (fun q hq => .inl (.inl hq)), Ext.trans HX04.out hx7⟩ : PsL (fun q => q < w0.heap.size) w7 gp gt b c Wn R s1 ∧ Ext w0 w7)
      have hok1 := HQ4.out.ok
      obtain ⟨gs, hgs⟩ : ∃ gs, gs = w6.heap.size := ⟨_, rfl⟩
      rw [← hgs] at hsb ⊢
      obtain ⟨A0, hA0⟩ : ∃ A0 : Int, A0 = (s.acc.length : Int) := ⟨_, rfl⟩
      obtain ⟨B0, hB0⟩ : ∃ B0 : Int, B0 = (s.base : Int) := ⟨_, rfl⟩
      obtain ⟨N0, hN0⟩ : ∃ N0 : Int, N0 = (s.next : Int) := ⟨_, rfl⟩
      obtain ⟨A1', hA1⟩ : ∃ A1 : Int, A1 = (s1.acc.length : Int) := ⟨_, rfl⟩
      obtain ⟨B1, hB1⟩ : ∃ B1 : Int, B1 = (s1.base : Int) := ⟨_, rfl⟩
      obtain ⟨N1, hN1⟩ : ∃ N1 : Int, N1 = (s1.next : Int) := ⟨_, rfl⟩
      rw [← hA0, ← hB0, ← hN0] at hwb ⊢
      rw [← hA1, ← hB1, ← hN1] at hsb ⊢
      obtain ⟨TL, hTL⟩ : ∃ TL, TL = s1.T.length := ⟨_, rfl⟩
      rw [List.length_map, ← hTL] at hut7
      rw [← hTL]
      have p1 := hwb.cell 1
      have p2 := hwb.cell 2
      have r0 := hsb.cell 0
      have r1 := hsb.cell 1
      have r2 := hsb.cell 2
      have d1 := hbb.cell 1
      have d5 := hbb.cell 5
      obtain ⟨q1, q2, q3, q4⟩ := HQ.out
      have ebn := hok1.bn
      have enl := hok1.nl
      have ewin := hok1.win
      have erm := hok1.rm
      have ecw := HCW.out
      have ecr := HCR.out
      have u1 : decide (B1 < B0) = false := decide_eq_false (by omega)
      have u2 : decide (N1 < N0) = false := decide_eq_false (by omega)
      have u3 : decide (c.w < N1 - B1) = false := decide_eq_false (by omega)
      have u4 : decide (N1 < B1) = false := decide_eq_false (by omega)
      have u5 : decide (A1' < N1) = false := decide_eq_false (by omega)
      have u6 : decide (c.room < A1' - B1) = false := decide_eq_false (by omega)
      have bnd : 0 ≤ B1 ∧ B1 ≤ 1000000 ∧ 0 ≤ N1 ∧ N1 ≤ 1000000 ∧ 0 ≤ A1' ∧ A1' ≤ 1000000 ∧ 0 ≤ N0 ∧ N0 ≤ 1000000 := by omega
      have HF := hid (⟨hN0, hB1, hN1, hTL, q3, hok1⟩ : N0 = (s.next : Int) ∧ B1 = (s1.base : Int) ∧ N1 = (s1.next : Int) ∧ TL = s1.T.length ∧ (s.next < s1.next → L1 = s1.next - s.next) ∧ PsOk Wn R c.b s1)
      have hsk1 : s1.acc.length ≤ k + 1 := by omega
      clear hwb hsb hbb hok1 hgs hA0 hB0 hN0 hA1 hB1 hN1 hTL q1 q2 q3 q4 ebn enl ewin erm ecw ecr hx5 hx6 hx7 hut HQ4 HX04 HQ HB4 HW4
      go_upto_region 12 with (fail)
      clear u1 u2 u3 u4 u5 u6 d1 d5
      have hcase : (N0 < N1 ∧ ((L1 : Int) != N1 - N0) = false) ∨ ¬ N0 < N1 := by
        by_cases h : N0 < N1
        · left
          obtain ⟨g1, g2, g3, g4, g5, g6⟩ := HF.out
          refine ⟨h, ?_⟩
          have := g5 (by omega)
          simp
          omega
        · exact .inr h
      rcases hcase with ⟨h, hne⟩ | h
      case' inl =>
        have t1 : decide (N0 < N1) = true := decide_eq_true h
        clear h
        go_upto_region 14 with (fail)
        clear t1 hne
      case' inr =>
        have t1 : decide (N0 < N1) = false := decide_eq_false h
        clear h
        go_upto_region 14 with (fail)
        clear t1
      all_goals
        by_cases h : B1 < N1
        · have t1 : decide (B1 < N1) = true := decide_eq_true h
          obtain ⟨g1, g2, g3, g4, g5, g6⟩ := HF.out
          obtain ⟨t, T', hT, hkey⟩ := g6.headKey (by omega)
          have hTL0 : 0 < TL := by rw [g4, hT]; simp
          obtain ⟨A9, n9, c9, hv9, h91, h92, hr9⟩ := hut7
          injection hv9 with e1 e2 e3
          subst e1 e2 e3
          obtain ⟨bt, ot, y0, rfl, hbt, hy0, hcy0, _⟩ := hr9.int hTL0
          obtain ⟨bt', ot', yl, hAt, _, hyl, hcyl, _⟩ := hr9.int (show TL - 1 < TL by omega)
          injection hAt with hAt
          injection hAt with hb1 hb2 _
          subst hb1 hb2
          have hy0' : y0 = B1 := by
            rw [hT] at hy0
            simp at hy0
            omega
          have hylm : yl ∈ s1.T.map (·.key) := List.mem_of_getElem? hyl
          have hylb := g6.keyB yl hylm
          subst hy0'
          have v1 : (TL == 0) = false := by simp; omega
          have v1b : ((TL : Int) == 0) = false := by simp; omega
          have v2 : (y0 != y0) = false := by simp
          have v3 : decide (0 < TL) = true := decide_eq_true hTL0
          have v4 : decide (y0 < y0) = false := decide_eq_false (by omega)
          have v5 : decide (N1 ≤ yl) = false := decide_eq_false (by omega)
          have hTLm : TL ≤ 1000000 := by have := g6.tlen; have := HC.out.wle; omega
          simp only [Nat.add_zero] at hcy0
          clear g1 g2 g3 g4 g5 g6 hT hkey hr9 hy0 hyl hylm hylb h HF
          go_quiet (fail)
          go_wp2
          have z1 : (w7.drewN nq).cell? ⟨gs, 1, none⟩ = some (.int .i64 y0) := r1
          have z2 : (w7.drewN nq).cell? ⟨gs, 2, none⟩ = some (.int .i64 N1) := r2
          have z3 : (w7.drewN nq).cell? ⟨bt, ot, none⟩ = some (.int .i64 y0) := hcy0
          have z4 : (w7.drewN nq).cell? ⟨bt, ot + (TL - 1), none⟩ = some (.int .i64 yl) := hcyl
          have HEND2 := hid (⟨HEND.out.1.later (ext_drewN _ nq), Ext.trans HEND.out.2 (ext_drewN _ nq)⟩ : PsL (fun q => q < w0.heap.size) (w7.drewN nq) gp gt b c Wn R s1 ∧ Ext w0 (w7.drewN nq))
          clear r0 r1 r2 p1 p2 hcy0 hcyl HEND
          generalize w7.drewN nq = w8 at *
          go_quiet (fail)
          go_wp2
          go_roundw
          case rel => exact ⟨k + 1, s1, by omega, by go_num, by omega, hid (HEND2.out.1.later (ext_drewN _ _)), hid (Ext.trans HEND2.out.2 (ext_drewN _ _))⟩
          case measure => simp [intOf]; omega
        · have t1 : decide (B1 < N1) = false := decide_eq_false h
          obtain ⟨g1, g2, g3, g4, g5, g6⟩ := HF.out
          obtain rfl : TL = 0 := by
            have hk := g6.keyB
            cases hT : s1.T with
            | nil => rw [g4, hT]; rfl
            | cons t T' =>
              have := hk t.key (by rw [hT]; simp)
              omega
          clear g1 g2 g3 g4 g5 g6 h HF hut7
          go_quiet (fail)
          go_wp2
          have HEND2 := hid (⟨HEND.out.1.later (ext_drewN _ nq), Ext.trans HEND.out.2 (ext_drewN _ nq)⟩ : PsL (fun q => q < w0.heap.size) (w7.drewN nq) gp gt b c Wn R s1 ∧ Ext w0 (w7.drewN nq))
          clear r0 r1 r2 p1 p2 HEND
          generalize w7.drewN nq = w8 at *
          go_quiet (fail)
          go_wp2
          go_roundw
          case rel => exact ⟨k + 1, s1, by omega, by go_num, by omega, hid (HEND2.out.1.later (ext_drewN _ _)), hid (Ext.trans HEND2.out.2 (ext_drewN _ _))⟩
          case measure => simp [intOf]; omega
    · obtain rfl : k = n := by omega
      go_wp2_with (go_at_call 10; refine (HLV.out _).mono ?_; rintro e w8 ⟨rfl, hx8⟩)
      go_ret
      exact ⟨rfl, Ext.trans (Ext.trans HX0.out hxr.out) hx8⟩
set_option maxHeartbeats 1000000 in
theorem pushWin_live (c : Cfg) (hw : (Lit.int .i64 c.w).wf = true) (v : Value) (acts : List Ac) (W : World) (o1 : IsSlice repAc W (all W) v acts) (hbad : checkV c.w c.m c.l ≠ 0 ∨ (checkV c.w c.m c.l = 0 ∧ (c.b < 1 ∨ 64 < c.b)) ∨ (checkV c.w c.m c.l = 0 ∧ 1 ≤ c.b ∧ c.b ≤ 64 ∧ (c.room < 1 ∨ 16 < c.room)) ∨ hugeA acts = true) :
    Calls Try.prog 3 #[.agg (cfgVals c).toArray, v] W fun e w' => e = .returned (.bool true) ∧ Ext W w' := by
  have HLV := hid pushLive_any
  have hb := Blk.new W 24 (cfgVals c).toArray
  have hx := ext_alloc W (.cells (cfgVals c).toArray 24)
  have HHG := hid fun W1 (he : Ext W W1) => hugeA_any v acts W1 (o1.ext he)
  obtain ⟨A, n, cc, rfl, _, _, _⟩ := o1
  obtain ⟨hg, hhg⟩ : ∃ hg, hg = hugeA acts := ⟨_, rfl⟩
  rw [← hhg] at HHG hbad
  clear hhg
  have hNP : ∃ p n, (n ≠ 0 ∨ hg = true) ∧ Calls Try.prog 7 #[.agg (cfgVals c).toArray] (W.alloc (.cells (cfgVals c).toArray 24)) fun e w' => (∃ q, e = .returned (.tuple #[.pointer q, .int .i64 n])) ∧ (p : Nat) = 0 ∧ Ext (W.alloc (.cells (cfgVals c).toArray 24)) w' := by
    by_cases h1 : checkV c.w c.m c.l ≠ 0
    · exact ⟨0, _, .inl h1, (newPsBad_any _ c hw h1).mono fun e w' ⟨h, hx⟩ => ⟨⟨_, h⟩, rfl, hx⟩⟩
    · have h1 : checkV c.w c.m c.l = 0 := by simpa using h1
      by_cases h2 : c.b < 1 ∨ 64 < c.b
      · exact ⟨0, 1, .inl (by decide), (newPsB_any _ c hw h1 h2).mono fun e w' ⟨h, hx⟩ => ⟨⟨_, h⟩, rfl, hx⟩⟩
      · by_cases h3 : c.room < 1 ∨ 16 < c.room
        · exact ⟨0, 1, .inl (by decide), (newPsRoom_any _ c hw h1 (by omega) (by omega) h3).mono fun e w' ⟨h, hx⟩ => ⟨⟨_, h⟩, rfl, hx⟩⟩
        · refine ⟨0, 0, .inr ?_, (newPs_any _ c hw h1 (by omega) (by omega) (by omega) (by omega)).mono fun e w' ⟨gp, gt, b, h, _, hx, _⟩ => ⟨⟨_, h⟩, rfl, hx⟩⟩
          rcases hbad with h | h | h | h
          · exact absurd h1 h
          · exact absurd h.2 h2
          · exact absurd h.2.2.2 h3
          · exact h
  obtain ⟨p0, nn, hnn, hNP⟩ := hNP
  unfold cfgVals at *
  have HNP := hid hNP
  have b0 := hb.cell 0
  have b1 := hb.cell 1
  have b2 := hb.cell 2
  have b3 := hb.cell 3
  have b4 := hb.cell 4
  have b5 := hb.cell 5
  have b6 := hb.cell 6
  clear hNP hbad hb hw
  cases hg with
  | true =>
    clear hnn
    go_enter Try.func3, Try.ntmps3
    go_wp2_with (first
      | (go_at_call 7; refine HNP.out.mono ?_; rintro e w3 ⟨⟨q, rfl⟩, _, hx3⟩)
      | (go_at_call 8; refine (HHG.out _ (Ext.trans hx hx3)).mono ?_; rintro e w4 ⟨rfl, rfl⟩)
      | (go_at_call 10; refine (HLV.out _).mono ?_; rintro e w8 ⟨rfl, hx8⟩))
    go_ret
    exact ⟨rfl, Ext.trans (Ext.trans hx hx3) hx8⟩
  | false =>
    have hnB : (nn != 0) = true := by
      rcases hnn with h | h
      · simpa using h
      · cases h
    clear hnn
    go_enter Try.func3, Try.ntmps3
    go_wp2_with (first
      | (go_at_call 7; refine HNP.out.mono ?_; rintro e w3 ⟨⟨q, rfl⟩, _, hx3⟩)
      | (go_at_call 8; refine (HHG.out _ (Ext.trans hx hx3)).mono ?_; rintro e w4 ⟨rfl, rfl⟩)
      | (go_at_call 9; refine (anum_any _ _).mono ?_; rintro e w5 ⟨rfl, rfl⟩)
      | (go_at_call 10; refine (HLV.out _).mono ?_; rintro e w8 ⟨rfl, hx8⟩))
    go_ret
    exact ⟨rfl, Ext.trans (Ext.trans hx hx3) hx8⟩
theorem pusherWindow_main (c : Cfg) (hw : (Lit.int .i64 c.w).wf = true) (v : Value) (acts : List Ac) (W : World) (o1 : IsSlice repAc W (all W) v acts) :
    Calls Try.prog 3 #[.agg (cfgVals c).toArray, v] W fun e w' => e = .returned (.bool true) ∧ Ext W w' := by
  by_cases h1 : checkV c.w c.m c.l = 0
  · by_cases h2 : c.b < 1 ∨ 64 < c.b
    · exact pushWin_live c hw v acts W o1 (.inr (.inl ⟨h1, h2⟩))
    · by_cases h3 : c.room < 1 ∨ 16 < c.room
      · exact pushWin_live c hw v acts W o1 (.inr (.inr (.inl ⟨h1, by omega, by omega, h3⟩)))
      · cases h4 : hugeA acts with
        | true => exact pushWin_live c hw v acts W o1 (.inr (.inr (.inr h4)))
        | false =>
          have hok := cfg_okP h1 (by omega) (by omega)
          have := hok.w1
          exact pushWin_main c c.w.toNat c.room.toNat ⟨hok, by omega, by omega, by omega, by omega⟩ hw h1 v acts W o1 h4
  · exact pushWin_live c hw v acts W o1 (.inl h1)
end
end Go.Proofs.Ytimlbebockfioaa
