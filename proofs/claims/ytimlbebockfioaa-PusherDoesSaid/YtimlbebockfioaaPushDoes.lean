/- The law PusherDoes: its walk. -/
import Derived.Deep.DeepCutAuto
import Derived.Deep.CutBlock
import Derived.Test.YtimlbebockfioaaPushDd
namespace Go.Proofs.Ytimlbebockfioaa
open Go.RowKit

theorem takeN_ok {c : Cfg} {W R : Nat} {s : Ps} (hc : CfgP c W R) (h : PsOk W R c.b s) (hl : s.acc.length ≤ 1000000) (x : Sl) : (takeN c W s x).acc = s.acc := by
  unfold takeN
  cases htp : takeP W c.m s x.ack x.seq x.bits.toNat with
  | none => rfl
  | some s1 => exact (takeP_ok h hc.b1 hl htp).2.1
set_option maxRecDepth 100000
section
set_option maxHeartbeats 8000000 in
theorem pushDoes_main (c : Cfg) (Wn R : Nat) (hc : CfgP c Wn R) (hw : (Lit.int .i64 c.w).wf = true) (hck : checkV c.w c.m c.l = 0) (v : Value) (acts : List Ac) (W : World) (o1 : IsSlice repAc W (all W) v acts) (hhg : hugeA acts = false) :
    Calls Try.prog 6 #[.agg (cfgVals c).toArray, v] W fun e w' => e = .returned (.bool true) ∧ Ext W w' := by
  have HLV := hid pushLive_any
  have hb := Blk.new W 24 (cfgVals c).toArray
  have hx := ext_alloc W (.cells (cfgVals c).toArray 24)
  have hNP := newPs_any (W.alloc (.cells (cfgVals c).toArray 24)) c hw hck hc.b1 hc.b2 hc.ok.r1 hc.ok.r2
  have hNR := fun W1 => newRp_any W1 c hw hck hc.b1 hc.b2 hc.ok.r1 hc.ok.r2
  have hsz1 := hx.size
  have HHG := hid (hugeA_any v acts _ (o1.ext hx))
  rw [hhg] at HHG
  obtain ⟨A, n, cc, rfl, hnc, hcm, hrow⟩ := o1
  have hn := hrow.1
  have hno := hugeA_no hhg
  have hn100 : n ≤ 100 := by omega
  have HD := hid hno.2
  have HC := hid hc
  clear hw hck hc hhg hno hn
  unfold cfgVals at *
  have HNP := hid hNP
  have HNR := hid hNR
  have b0 := hb.cell 0
  have b1 := hb.cell 1
  have b2 := hb.cell 2
  have b3 := hb.cell 3
  have b4 := hb.cell 4
  have b5 := hb.cell 5
  have b6 := hb.cell 6
  clear hNP hNR
  go_enter Try.func6, Try.ntmps6
  go_wp2_with (first
    | (go_at_call 8; refine HHG.out.mono ?_; rintro e w2 ⟨rfl, rfl⟩)
    | (go_at_call 7; refine HNP.out.mono ?_; rintro e w3 ⟨gp, gt, b, rfl, hp3, hx3, l1, l2, l3⟩; have hbb3 := hb.ext hx3; have b0 := hbb3.cell 0; have b1 := hbb3.cell 1; have b2 := hbb3.cell 2; have b3 := hbb3.cell 3; have b4 := hbb3.cell 4; have b5 := hbb3.cell 5; have b6 := hbb3.cell 6)
    | (go_at_call 16; refine (HNR.out _).mono ?_; rintro e w4 ⟨gr, gu, rfl, hr4, hx4, l4, l5⟩)
    | (go_at_call 9; refine (anum_any _ _).mono ?_; rintro e w5 ⟨rfl, rfl⟩))
  have hDd := dd_new (W := Wn) (R := R) hx3 hx4 hp3 hr4 l1 l2 l3 l4 l5
  have HDd := hid hDd
  have HX04 := hid (Ext.trans hx3 hx4)
  have HX0 := hid hx
  clear hDd hp3 hr4 b0 b1 b2 b3 b4 b5 b6 hb hbb3 hx hx3 hx4 l1 l2 l3 l4 l5 hsz1 HHG HNP HNR
  generalize W.alloc (.cells #[.int .i64 c.e, .int .i64 c.w, .int .i64 c.m, .int .i64 c.l, .int .i64 c.b, .int .i64 c.room, .int .u64 c.begin_] 24) = w0 at *
  obtain ⟨gc, hgc⟩ : ∃ gc, gc = W.heap.size := ⟨_, rfl⟩
  rw [← hgc]
  clear hgc
  go_loopw [9] (fun i wr => ∃ (k : Nat) (s : Ps), k ≤ n ∧ i = .int .i64 k ∧ s.acc.length ≤ k ∧ Wall (Dd (fun q => q < w0.heap.size) wr gp gt b gr gu c Wn R s s) ∧ Wall (Ext w0 wr)) (fun i _ => n - (intOf i).toNat)
  case atStart => exact ⟨0, _, Nat.zero_le _, rfl, Nat.le_refl _, HDd, HX04⟩
  case round =>
    obtain ⟨k, s, hk, rfl, hsk, hP, hxr⟩ := hrel
    by_cases hlt : k < n
    · obtain ⟨ba, off, x, A1, c1, A2, c2, rfl, hbW, hxk, ⟨hwn, hwb⟩, hm, _, e0, e1, e2, e3, e4, e5, e6⟩ := hrow.ac hlt
      have hcb2 := HC.out
      have hxW := Ext.trans HX0.out hxr.out
      have hmlen := (HD.out x (List.mem_of_getElem? hxk)).1
      have f0 := (hxW.cell hbW _).trans e0
      have f1 := (hxW.cell hbW _).trans e1
      have f2 := (hxW.cell hbW _).trans e2
      have f3 := (hxW.cell hbW _).trans e3
      have f4 := (hxW.cell hbW _).trans e4
      have f5 := (hxW.cell hbW _).trans e5
      have f6 := (hxW.cell hbW _).trans e6
      obtain ⟨kind, an, m, sl⟩ := x
      simp only at f0 f1 f2 f3 f4 f5 f6 hm hwb hwn hmlen
      have HM := hid fun W1 (he : Ext W W1) => hm.ext he
      have HWB := hid hwb
      have HWN := hid hwn
      obtain ⟨ml, hml⟩ : ∃ ml, ml = m.length := ⟨_, rfl⟩
      obtain ⟨dl, hdl⟩ : ∃ dl, dl = sl.data.length := ⟨_, rfl⟩
      rw [← hml] at f2 HM hmlen
      rw [← hdl] at f6
      have HML := hid hml
      clear e0 e1 e2 e3 e4 e5 e6 hm hxk hwb hwn hml hdl
      go_upto_region 11 with (fail)
      clear f0 f1 f2 f3 f4 f5 f6
      have hxa := ext_alloc wr (.cells #[.int .i64 kind, .int .i64 an, .slice A1 ml c1, .bool sl.ack, .int .i64 sl.seq, .int .u64 sl.bits, .slice A2 dl c2] 43)
      have hgb := Blk.new wr 43 #[.int .i64 kind, .int .i64 an, .slice A1 ml c1, .bool sl.ack, .int .i64 sl.seq, .int .u64 sl.bits, .slice A2 dl c2]
      have hd1 : Dd (fun q => q < w0.heap.size ∨ q = wr.heap.size) _ gp gt b gr gu c Wn R s s := hP.out.grow hxa fun q hq => hq.elim .inl fun e => .inr ⟨by omega, by simp; omega⟩
      generalize wr.alloc (.cells #[.int .i64 kind, .int .i64 an, .slice A1 ml c1, .bool sl.ack, .int .i64 sl.seq, .int .u64 sl.bits, .slice A2 dl c2] 43) = w1 at *
      obtain ⟨gx, hgx⟩ : ∃ gx, gx = wr.heap.size := ⟨_, rfl⟩
      rw [← hgx] at hgb hd1 ⊢
      have hgl := hgb.lt
      have HX01 := hid (Ext.trans hxr.out hxa)
      have HD1 := hid hd1
      have HGB := hid hgb
      have g0 := hgb.cell 0
      have g1 := hgb.cell 1
      have g2 := hgb.cell 2
      have g3 := hgb.cell 3
      have g4 := hgb.cell 4
      have g5 := hgb.cell 5
      have g6 := hgb.cell 6
      have hl0 : s.acc.length + 1 ≤ 1000000 := by omega
      have hmw : IsSlice repByte w1 (all w1) (.slice A1 ml c1) m := HM.out _ (Ext.trans HX0.out HX01.out)
      have HSN := hid (fun (w1 : World) => slidesSame_any (.slice none 0 0) (.slice none 0 0) [] w1 (isSlice_nil _ _ _) (isSlice_nil _ _ _))
      have hok0 : PsOk Wn R c.b s := by obtain ⟨F, _, h⟩ := hP.out.ps; exact h
      have hwl := HC.out.wle
      clear hxa hgb hd1 hgx hxW hP hxr
      have hk5 : (kind = 0 ∧ 64 < ml) ∨ (kind = 0 ∧ ml ≤ 64 ∧ s.base + R ≤ s.acc.length) ∨ (kind = 0 ∧ ml ≤ 64 ∧ s.acc.length < s.base + R) ∨ kind = 1 ∨ kind = 2 ∨ kind = 3 ∨ (kind ≠ 0 ∧ kind ≠ 1 ∧ kind ≠ 2 ∧ kind ≠ 3) := by omega
      go_upto_block 2 with (fail)
      go_cut [] (fun wx => ∃ s2 : Ps, s2.acc.length ≤ k + 1 ∧ Wall (Dd (fun q => q < w0.heap.size) wx gp gt b gr gu c Wn R s2 s2 ∧ Ext w0 wx))
      case first =>
        rcases hk5 with ⟨rfl, q1⟩ | ⟨rfl, q1, q2⟩ | ⟨rfl, q1, q2⟩ | rfl | rfl | rfl | ⟨q0, q1, q2, q3⟩
        case' inl =>
          obtain ⟨F, hps, _⟩ := HD1.out.ps
          have HS1 := hid (psSendLong_any F w1 gp gt b c s hps A1 ml c1 q1)
          have HS2 := hid fun w2 => rpSendLong_any w2 gr A1 ml c1 q1
          clear hps q1 hmw hok0
          go_wp2_with (first
            | (go_at_call 14; refine HS1.out.mono ?_; rintro e w2 ⟨rfl, rfl⟩)
            | (go_at_call 29; refine (HS2.out _).mono ?_; rintro e w3 ⟨rfl, rfl⟩)
            | (go_at_call 9; refine (anum_any _ _).mono ?_; rintro e w4 ⟨rfl, rfl⟩)
            | (go_at_call 30; refine (HSN.out _).mono ?_; rintro e wz ⟨rfl, hx5⟩))
          obtain ⟨s2, hs2⟩ : ∃ s2, s2 = s := ⟨_, rfl⟩
          have hbz : Dd (fun q => q < w0.heap.size) wz gp gt b gr gu c Wn R s2 s2 := by rw [hs2]; exact HD1.out.grow hx5 fun q hq => .inl (.inl hq)
          have hxz := Ext.trans HX01.out hx5
          have hl2 : s2.acc.length ≤ k + 1 := by rw [hs2]; omega
          clear hs2 hx5 HS1 HS2
        case' inr.inl =>
          obtain ⟨F, hps, _⟩ := HD1.out.ps
          obtain ⟨F2, hrp, _⟩ := HD1.out.rp
          have hbl : s.base ≤ s.acc.length := Nat.le_trans hok0.bn hok0.nl
          have hrr : c.room ≤ (s.acc.length - s.base : Nat) := by have := HC.out.r; omega
          have HS1 := hid (psSendFull_any F w1 gp gt b c s hps A1 ml c1 q1 hrr)
          have HS2 := hid fun w2 (he : Ext w1 w2) => rpSendFull_any F2 w2 gr gu c s (hrp.ext he) A1 ml c1 q1 (by omega) hbl hrr
          clear hps hrp q1 q2 hmw hok0 hbl hrr
          go_wp2_with (first
            | (go_at_call 14; refine HS1.out.mono ?_; rintro e w2 ⟨rfl, d2, hw2⟩; have x12 : Ext w1 w2 := (by rw [hw2]; exact ext_drewN _ _); clear hw2; have hb2 := HGB.out.ext x12; have i2 := hb2.cell 2)
            | (go_at_call 29; refine (HS2.out _ x12).mono ?_; rintro e w3 ⟨rfl, d3, hw3⟩; have x23 : Ext w2 w3 := (by rw [hw3]; exact ext_drewN _ _); clear hw3)
            | (go_at_call 9; refine (anum_any _ _).mono ?_; rintro e w4 ⟨rfl, rfl⟩)
            | (go_at_call 30; refine (HSN.out _).mono ?_; rintro e wz ⟨rfl, hx5⟩))
          obtain ⟨s2, hs2⟩ : ∃ s2, s2 = s := ⟨_, rfl⟩
          have hbz : Dd (fun q => q < w0.heap.size) wz gp gt b gr gu c Wn R s2 s2 := by rw [hs2]; exact HD1.out.grow (Ext.trans (Ext.trans x12 x23) hx5) fun q hq => .inl (.inl hq)
          have hxz := Ext.trans HX01.out (Ext.trans (Ext.trans x12 x23) hx5)
          have hl2 : s2.acc.length ≤ k + 1 := by rw [hs2]; omega
          clear hs2 hx5 x12 x23 HS1 HS2 hb2 i2
        case' inr.inr.inl =>
          have hml64 : m.length ≤ 64 := by have := HML.out; omega
          have HS1 := hid (dd_send HD1.out HC.out hl0 (.slice A1 ml c1) m hmw hml64 q2)
          have HS2 := hid fun (X : Nat → Prop) w2 (h : Dd X w2 gp gt b gr gu c Wn R (sendS Wn s m) s) (hv : IsSlice repByte w2 (all w2) (.slice A1 ml c1) m) => dd_sendR h HC.out hl0 (.slice A1 ml c1) m hv hml64 q2
          obtain ⟨AL, hAL⟩ : ∃ AL : Int, AL = (s.acc.length : Int) := ⟨_, rfl⟩
          rw [← hAL] at HS1 HS2
          have HSM := hid (fun (w1 : World) (v u : Value) (h1 : IsSlice repSl w1 (all w1) v (sent0 Wn c s m)) (h2 : IsSlice repSl w1 (all w1) u (sent0 Wn c s m)) => slidesSame_any v u _ w1 h1 h2)
          have hall : (AL != AL) = false := by simp
          clear hAL q1 q2 hml64 hmw hok0
          go_wp2_with (first
            | (go_at_call 14; refine HS1.out.mono ?_; rintro e w3 ⟨u1, rfl, Y1, hY1, hu1, hd3, ho3⟩; have hb3 := HGB.out.out ho3 (fun h => h (.inr rfl)); have hx03 := ho3.ext_held HX01.out (fun q hq => .inl hq); have i2 := hb3.cell 2)
            | (go_at_call 29; refine (HS2.out _ _ hd3 (HM.out _ (Ext.trans HX0.out hx03))).mono ?_; rintro e w4 ⟨u2, rfl, hres⟩; obtain ⟨hv1, hv2, hd4, ho4⟩ := DdRes.both hY1 hu1 ho3 hres)
            | (go_at_call 9; refine (anum_any _ _).mono ?_; rintro e w5 ⟨rfl, rfl⟩)
            | (go_at_call 30; refine (HSM.out _ _ _ hv1 hv2).mono ?_; rintro e wz ⟨rfl, hx5⟩))
          have hln : (sendS Wn s m).acc.length = s.acc.length + 1 := by show (s.acc ++ [m]).length = _; simp
          obtain ⟨s2, hs2⟩ : ∃ s2, s2 = sendS Wn s m := ⟨_, rfl⟩
          rw [← hs2] at hd4 hln
          have hbz : Dd (fun q => q < w0.heap.size) wz gp gt b gr gu c Wn R s2 s2 := hd4.grow hx5 fun q hq => .inl (.inl hq)
          have hxz := Ext.trans (ho4.ext_held HX01.out fun q hq => .inl hq) hx5
          have hl2 : s2.acc.length ≤ k + 1 := by omega
          clear hs2 hx5 hu1 hd3 ho3 hb3 hx03 i2 hres hv1 hv2 hd4 ho4 hln HS1 HS2 HSM hall
        case' inr.inr.inr.inl =>
          have HS1 := hid (dd_tick HD1.out HC.out (by omega))
          have HS2 := hid fun (X : Nat → Prop) w2 (t : Ps) (h : Dd X w2 gp gt b gr gu c Wn R t s) => dd_tickR h HC.out
          have HSM := hid (fun (w1 : World) (v u : Value) (h1 : IsSlice repSl w1 (all w1) v ((dueN s.T).map (slideOf c.m s))) (h2 : IsSlice repSl w1 (all w1) u ((dueN s.T).map (slideOf c.m s))) => slidesSame_any v u _ w1 h1 h2)
          obtain ⟨s2, hs2⟩ : ∃ s2 : Ps, s2 = ⟨s.acc, s.base, s.next, tickT c.b s.T⟩ := ⟨_, rfl⟩
          have hln : s2.acc.length = s.acc.length := by rw [hs2]
          rw [← hs2] at HS1 HS2
          generalize (dueN s.T).map (slideOf c.m s) = DL at *
          clear hs2 hmw hok0
          go_wp2_with (first
            | (go_at_call 17; refine HS1.out.mono ?_; rintro e w3 ⟨u1, rfl, Y1, hY1, hu1, hd3, ho3⟩)
            | (go_at_call 31; refine (HS2.out _ _ _ hd3).mono ?_; rintro e w4 ⟨u2, rfl, hres⟩; obtain ⟨hv1, hv2, hd4, ho4⟩ := DdRes.both hY1 hu1 ho3 hres)
            | (go_at_call 30; refine (HSM.out _ _ _ hv1 hv2).mono ?_; rintro e wz ⟨rfl, hx5⟩))
          have hbz : Dd (fun q => q < w0.heap.size) wz gp gt b gr gu c Wn R s2 s2 := hd4.grow hx5 fun q hq => .inl (.inl hq)
          have hxz := Ext.trans (ho4.ext_held HX01.out fun q hq => .inl hq) hx5
          have hl2 : s2.acc.length ≤ k + 1 := by omega
          clear hx5 hu1 hd3 ho3 hres hv1 hv2 hd4 ho4 hln HS1 HS2 HSM
        case' inr.inr.inr.inr.inl =>
          have hln := takeN_ok HC.out hok0 (by omega) sl
          have hqd : Dd (fun q => q < w0.heap.size ∨ q = gx) w1.drew gp gt b gr gu c Wn R s s := HD1.out.later (Below.drew (Below.refl _ _))
          have hgd : Blk w1.drew gx 43 _ := HGB.out.ext (Below.drew (Below.refl _ _))
          have HS1 := hid (dd_take hqd HC.out (by omega) sl A2 dl c2 HWB.out)
          have HS2 := hid fun (X : Nat → Prop) w2 (t : Ps) (h : Dd X w2 gp gt b gr gu c Wn R t s) => dd_takeR h HC.out (by omega) sl A2 dl c2 HWB.out
          have HSM := hid (fun (w1 : World) (v u : Value) (h1 : IsSlice repSl w1 (all w1) v (takeO c Wn s sl)) (h2 : IsSlice repSl w1 (all w1) u (takeO c Wn s sl)) => slidesSame_any v u _ w1 h1 h2)
          have HE := hid (fun w' (h : Blk w' gx 43 #[.int .i64 2, .int .i64 an, .slice A1 ml c1, .bool sl.ack, .int .i64 sl.seq, .int .u64 sl.bits, .slice A2 dl c2]) => (⟨h.cell 3, h.cell 4, h.cell 5, h.cell 6⟩ : w'.cell? ⟨gx, 3, none⟩ = some (.bool sl.ack) ∧ w'.cell? ⟨gx, 4, none⟩ = some (.int .i64 sl.seq) ∧ w'.cell? ⟨gx, 5, none⟩ = some (.int .u64 sl.bits) ∧ w'.cell? ⟨gx, 6, none⟩ = some (.slice A2 dl c2)))
          obtain ⟨s2, hs2⟩ : ∃ s2, s2 = takeN c Wn s sl := ⟨_, rfl⟩
          rw [← hs2] at HS1 HS2 hln
          have hln2 : s2.acc.length = s.acc.length := by rw [hln]
          generalize takeO c Wn s sl = DL at *
          generalize sl.ack = ack at *
          generalize sl.seq = seq at *
          generalize sl.bits = bts at *
          clear hs2 hmw hok0 hln
          go_upto_region 21 with (fail)
          go_region_held3 (fun w' => w'.cell? ⟨gx, 3, none⟩ = some (.bool ack) ∧ w'.cell? ⟨gx, 4, none⟩ = some (.int .i64 seq) ∧ w'.cell? ⟨gx, 5, none⟩ = some (.int .u64 bts) ∧ w'.cell? ⟨gx, 6, none⟩ = some (.slice A2 dl c2))
            (first | with_reducible exact HE.out _ hgd | with_reducible exact HE.out _ hb3 | with_reducible exact HE.out _ hb4 | with_reducible exact HE.out _ hb5)
            (first
              | (go_at_call 18; refine HS1.out.mono ?_; rintro e w3 ⟨u1, rfl, Y1, hY1, hu1, hd3, ho3⟩; have hb3 := hgd.out ho3 (fun h => h (.inr rfl)))
              | (go_at_call 32; refine (HS2.out _ _ _ hd3).mono ?_; rintro e w4 ⟨u2, rfl, hres⟩; obtain ⟨hv1, hv2, hd4, ho4⟩ := DdRes.both hY1 hu1 ho3 hres; have hb4 := hgd.out ho4 (fun h => h (.inr rfl)))
              | (go_at_call 30; refine (HSM.out _ _ _ hv1 hv2).mono ?_; rintro e wz ⟨rfl, hx5⟩; have hb5 := hb4.ext hx5))
          go_wp2_with fail
          have hbz : Dd (fun q => q < w0.heap.size) wz gp gt b gr gu c Wn R s2 s2 := hd4.grow hx5 fun q hq => .inl (.inl hq)
          have hxz := Ext.trans (ho4.ext_held (Ext.trans HX01.out (Below.drew (Below.refl _ _))) fun q hq => .inl hq) hx5
          have hl2 : s2.acc.length ≤ k + 1 := by omega
          clear hx5 hu1 hd3 ho3 hres hv1 hv2 hd4 ho4 hln2 HS1 HS2 HSM HE hb3 hb4 hb5 hqd hgd
        case' inr.inr.inr.inr.inr.inl =>
          obtain ⟨F, hps, _⟩ := HD1.out.ps
          obtain ⟨F2, hrp, _⟩ := HD1.out.rp
          have HS1 := hid (psPoll_any F w1 gp gt b c s hps (Nat.le_trans hok0.bn hok0.nl) (by omega) an)
          have HS2 := hid fun w2 (he : Ext w1 w2) => rpPoll_any F2 w2 gr gu c s (hrp.ext he) an
          obtain ⟨P1, P2⟩ := pollV s an
          have hp1 : (P1 != P1) = false := by simp
          have hp2 : (P2 != P2) = false := by simp
          clear hps hrp hmw hok0
          go_wp2_with (first
            | (go_at_call 15; refine HS1.out.mono ?_; rintro e w2 ⟨rfl, d2, hw2⟩; have x12 : Ext w1 w2 := (by rw [hw2]; exact ext_drewN _ _); clear hw2; have hb2 := HGB.out.ext x12; have i1 := hb2.cell 1)
            | (go_at_call 33; refine (HS2.out _ x12).mono ?_; rintro e wz ⟨rfl, d3, hw3⟩; have x23 : Ext w2 wz := (by rw [hw3]; exact ext_drewN _ _); clear hw3)
            | (go_at_call 9; refine (anum_any _ _).mono ?_; rintro e w4 ⟨rfl, rfl⟩))
          obtain ⟨s2, hs2⟩ : ∃ s2, s2 = s := ⟨_, rfl⟩
          have hbz : Dd (fun q => q < w0.heap.size) wz gp gt b gr gu c Wn R s2 s2 := by rw [hs2]; exact HD1.out.grow (Ext.trans x12 x23) fun q hq => .inl (.inl hq)
          have hxz := Ext.trans HX01.out (Ext.trans x12 x23)
          have hl2 : s2.acc.length ≤ k + 1 := by rw [hs2]; omega
          clear hs2 x12 x23 HS1 HS2 hb2 i1 hp1 hp2
        case' inr.inr.inr.inr.inr.inr =>
          have q0' : (kind == 0) = false := by simpa using q0
          have q1' : (kind == 1) = false := by simpa using q1
          have q2' : (kind == 2) = false := by simpa using q2
          have q3' : (kind == 3) = false := by simpa using q3
          clear q0 q1 q2 q3 hmw hok0
          go_wp2_with fail
          obtain ⟨wz, hwz⟩ : ∃ wz, wz = w1 := ⟨_, rfl⟩
          subst hwz
          obtain ⟨s2, hs2⟩ : ∃ s2, s2 = s := ⟨_, rfl⟩
          have hbz : Dd (fun q => q < w0.heap.size) wz gp gt b gr gu c Wn R s2 s2 := by rw [hs2]; exact HD1.out.grow (Below.refl _ _) fun q hq => .inl (.inl hq)
          have hxz := HX01.out
          have hl2 : s2.acc.length ≤ k + 1 := by rw [hs2]; omega
          clear hs2 q0' q1' q2' q3'
        all_goals
          go_meet
          exact ⟨s2, hl2, hid ⟨hbz, hxz⟩⟩
      case rest =>
        obtain ⟨s2, hl2, hbx⟩ := hcut
        obtain ⟨hbz, hxz⟩ := hbx.out
        clear g0 g1 g2 g3 g4 g5 g6 HGB HD1 HX01 HSN HM HML hmw hok0 hk5
        generalize wc = wz at *
        have hl3 : s2.acc.length ≤ 1000000 := by omega
        obtain ⟨F, hps, hok2⟩ := hbz.ps
        obtain ⟨F2, hrp, _⟩ := hbz.rp
        have hTL := hok2.tlen
        have HST := hid (psState_any F wz gp gt b c s2 hps (Nat.le_trans hok2.bn hok2.nl) hl3)
        have HTM := hid fun w2 (he : Ext wz w2) => psTimers_any F w2 gp gt b c s2 (hps.ext he) hok2.tm (by omega)
        have HBZ := hid (⟨hbz, hxz⟩ : Dd (fun q => q < w0.heap.size) wz gp gt b gr gu c Wn R s2 s2 ∧ Ext w0 wz)
        obtain ⟨lv, hrb, hrrow⟩ := hrp.is
        obtain ⟨A3, c3, rfl, _⟩ := hrrow.len
        obtain ⟨_, _, _, r7, r8, r9, r10, _, _, _⟩ := rpCellsAt hrb
        obtain ⟨tv, htb, htown⟩ := hrp.rt
        obtain ⟨A4, c4, rfl, _, hc4, htrow⟩ := htown.form
        have r1 : wz.cell? ⟨gu, 1, none⟩ = some (.slice A4 s2.T.length c4) := htb.cell 1
        have hgrl := hrb.lt
        have hgul := htb.lt
        obtain ⟨L, hL⟩ : ∃ L, L = s2.acc.length := ⟨_, rfl⟩
        obtain ⟨B, hB⟩ : ∃ B : Int, B = (s2.base : Int) := ⟨_, rfl⟩
        obtain ⟨N, hN⟩ : ∃ N : Int, N = (s2.next : Int) := ⟨_, rfl⟩
        obtain ⟨TL, hTLe⟩ : ∃ TL, TL = s2.T.length := ⟨_, rfl⟩
        rw [← hL] at r7 HST
        rw [← hB] at r8 HST
        rw [← hN] at r9 HST
        rw [← hTLe] at r1 htrow hTL
        obtain ⟨KS, hKS⟩ : ∃ KS, KS = s2.T.map (·.key) := ⟨_, rfl⟩
        rw [← hKS] at HTM
        have hkl : KS.length = TL := by rw [hKS, hTLe, List.length_map]
        have HKS := hid hKS
        have HKL := hid hkl
        have HL2 := hid hl2
        have m1 : (L != L) = false := by simp
        have m1' : ((L : Int) != (L : Int)) = false := by simp
        have m2 : (B != B) = false := by simp
        have m3 : (N != N) = false := by simp
        have m4 : (TL != TL) = false := by simp
        have m4' : ((TL : Int) != (TL : Int)) = false := by simp
        clear hps hrp hok2 hbz hxz hrb hrrow htb htown hL hB hN hTLe hKS hkl hl2 hl3
        go_upto_region 29 with (first
          | (go_at_call 11; refine HST.out.mono ?_; rintro e w5 ⟨rfl, hx5⟩)
          | (go_at_call 13; refine (HTM.out _ hx5).mono ?_; rintro e w6 ⟨ut, rfl, hut, hx6⟩; obtain ⟨At, ct, hutv⟩ := hut.shape; rw [HKL.out] at hutv; subst hutv; have hta := hut.any; clear hut))
        have hbs := Blk.new w6 34 #[.int .i64 (L : Int), .int .i64 B, .int .i64 N]
        have hx67 := ext_alloc w6 (.cells #[.int .i64 (L : Int), .int .i64 B, .int .i64 N] 34)
        have hxz7 := Ext.trans (Ext.trans hx5 hx6) hx67
        generalize w6.alloc (.cells #[.int .i64 (L : Int), .int .i64 B, .int .i64 N] 34) = w7 at *
        obtain ⟨gs, hgs⟩ : ∃ gs, gs = w6.heap.size := ⟨_, rfl⟩
        rw [← hgs] at hbs ⊢
        have z0 := hbs.cell 0
        have z1 := hbs.cell 1
        have z2 := hbs.cell 2
        have i7 := (hxz7.cell hgrl 7).trans r7
        have i8 := (hxz7.cell hgrl 8).trans r8
        have i9 := (hxz7.cell hgrl 9).trans r9
        have i10 := (hxz7.cell hgrl 10).trans r10
        have i1 := (hxz7.cell hgul 1).trans r1
        have hta7 := hta.ext hx67
        clear r7 r8 r9 r10 r1 hgs hbs hx5 hx6 hta hx67
        go_quiet (fail)
        have hx78 := ext_drewN w7 nq
        have hxz8 := Ext.trans hxz7 hx78
        have hta8 := hta7.ext hx78
        have j10 : (w7.drewN nq).cell? ⟨gr, 10, none⟩ = some (.pointer (some ⟨gu, 0, none⟩)) := i10
        have j1 : (w7.drewN nq).cell? ⟨gu, 1, none⟩ = some (.slice A4 TL c4) := i1
        have hgr8 := Nat.lt_of_lt_of_le hgrl hxz8.size
        have hgu8 := Nat.lt_of_lt_of_le hgul hxz8.size
        clear z0 z1 z2 i7 i8 i9 i10 i1 hta7 hx78 hxz7 m1 m1' m2 m3 m4 m4'
        generalize w7.drewN nq = w8 at *
        obtain ⟨A9, n9, c9, hv9, _, _, hrT⟩ := hta8
        injection hv9 with g1 g2 g3
        subst g1 g2 g3
        go_wp2
        go_loopw [23] (fun i wd => ∃ j : Nat, j ≤ TL ∧ i = .int .i64 j ∧ Ext w8 wd) (fun i _ => TL - (intOf i).toNat)
        case atStart => exact ⟨0, Nat.zero_le _, rfl, Below.refl _ _⟩
        case round =>
          obtain ⟨j, hj, rfl, hxd⟩ := hrel
          have hzd := Ext.trans hxz8 hxd
          by_cases hjl : j < TL
          · obtain ⟨b2, o2, y, rfl, _, hy, y0, _, _⟩ := htrow.tm hjl
            obtain ⟨b3, o3, t, rfl, hb3, ht, my, _⟩ := hrT.int hjl
            have hyk : t = y.key := by
              rw [HKS.out, List.getElem?_map, hy] at ht
              simpa using ht.symm
            subst hyk
            have hb3' : b3 < w8.heap.size := hb3
            have k0 := (hzd.cell (lt_of_cell' y0) _).trans y0
            have ky := (hxd.cell hb3' _).trans my
            have k10 := (hxd.cell hgr8 10).trans j10
            have k1 := (hxd.cell hgu8 1).trans j1
            obtain ⟨yk, hyk2⟩ : ∃ yk, yk = y.key := ⟨_, rfl⟩
            rw [← hyk2] at k0 ky
            have nn : (yk != yk) = false := by simp
            have hj1 : j + 1 ≤ TL := hjl
            clear y0 my hy ht hyk2 j10 j1
            go_wp2
            go_quiet (fail)
            go_wp2
            go_roundw
            case rel => exact ⟨j + 1, hj1, by go_num, Ext.trans hxd (ext_drewN _ _)⟩
            case measure => simp [intOf]; omega
          · have hbe := hid (HBZ.out.1.later hzd)
            have hxe := hid (Ext.trans HBZ.out.2 hzd)
            clear hrT htrow j10 j1 HBZ
            go_wp2
            go_roundw
            case rel => exact ⟨k + 1, s2, by omega, by go_num, HL2.out, hbe, hxe⟩
            case measure => simp [intOf]; omega
    · obtain rfl : k = n := by omega
      go_wp2_with (go_at_call 10; refine (HLV.out _).mono ?_; rintro e w8 ⟨rfl, hx8⟩)
      go_ret
      exact ⟨rfl, Ext.trans (Ext.trans HX0.out hxr.out) hx8⟩
end
end Go.Proofs.Ytimlbebockfioaa
