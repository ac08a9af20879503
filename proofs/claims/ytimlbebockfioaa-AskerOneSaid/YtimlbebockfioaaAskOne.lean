/- The law AskerOne: its walk. -/
import Derived.Test.YtimlbebockfioaaAskOneP
import Derived.Test.YtimlbebockfioaaAskLive
import Derived.Deep.DeepCutAuto
import Derived.Deep.CutBlock
namespace Go.Proofs.Ytimlbebockfioaa
open Go.RowKit

theorem wf_of {k : IntKind} {v : Value} {xs : List Int} {w : World} (h : IsSlice (repInt k) w (all w) v xs) : ∀ d ∈ xs, (Lit.int k d).wf = true := by
  obtain ⟨A, n, c, rfl, _, _, hrow⟩ := h
  intro d hd
  obtain ⟨i, hi⟩ := List.getElem?_of_mem hd
  have hin : i < n := by
    have := (List.getElem?_eq_some_iff.1 hi).1
    have := hrow.1
    omega
  obtain ⟨b, off, x, _, _, hx, _, hwf⟩ := hrow.int hin
  rw [hi] at hx
  cases hx
  exact hwf
theorem AkRes.drop {col : Nat → Nat} {w w' : World} {ga gq gt b gs : Nat} {most room : Int} {s : Ak} {u : Value} {xs : List Tk} (h : AkRes col w ga gq gt b gs most room s u xs w') : AkRes col w ga gq gt b gs most room s (.slice none 0 0) [] w' := by
  obtain ⟨col', h1, h2, _, h4⟩ := h
  exact AkRes.nil h1 h2 h4
set_option maxRecDepth 100000
section
set_option maxHeartbeats 4000000 in
theorem askOne_main (c : Cfg) (h1 : 1 ≤ c.b) (h2 : c.b ≤ 64) (hr1 : 1 ≤ c.room) (hr2 : c.room ≤ 16) (vd v : Value) (D : List Int) (acts : List Aa) (W : World) (od : IsSlice (repInt .u64) W (all W) vd D) (o1 : IsSlice repAa W (all W) v acts) (hhg : hugeK acts D.length = false) :
    Calls Try.prog 5 #[.agg (cfgVals c).toArray, vd, v] W fun e w' => e = .returned (.bool true) ∧ Ext W w' := by
  have HLV := hid askLive_any
  have hb := Blk.new W 24 (cfgVals c).toArray
  have hx := ext_alloc W (.cells (cfgVals c).toArray 24)
  have hno := hugeK_no hhg
  have hNS := fun (w1 : World) (he : Ext (W.alloc (.cells (cfgVals c).toArray 24)) w1) => newSrc_any vd D w1 (od.ext (Ext.trans hx he)) (by omega)
  have hNA := fun (w1 : World) gs FD (hs : SrcAt FD (fun _ => False) w1 gs D []) => newAk_any w1 c gs FD D h1 h2 hr1 hr2 hs
  have hsz1 := hx.size
  have hwd := wf_of od
  obtain ⟨Ad, cd, rfl⟩ := od.shape
  have HHG := hid fun W1 (he : Ext W W1) => hugeK_any v acts W1 (o1.ext he) Ad D.length cd
  rw [hhg] at HHG
  obtain ⟨A, n, cc, rfl, hnc, hcm, hrow⟩ := o1
  have hn := hrow.1
  have hn100 : n ≤ 100 := by omega
  have hd2 := hno.2.1
  have hpk : AkOk c.b c.room ⟨[], [], D, [], 0, 0, 0, false, []⟩ := kl0_ok D hwd (by omega)
  have HPK := hid hpk
  have HB := hid (⟨h1, h2, hr2⟩ : 1 ≤ c.b ∧ c.b ≤ 64 ∧ c.room ≤ 16)
  have HMD := hid hno.2.2
  clear h1 h2 hr1 hr2 hhg hno hn hpk hwd od
  unfold cfgVals at *
  have HNS := hid hNS
  have HNA := hid hNA
  have b0 := hb.cell 0
  have b1 := hb.cell 1
  have b2 := hb.cell 2
  have b3 := hb.cell 3
  have b4 := hb.cell 4
  have b5 := hb.cell 5
  have b6 := hb.cell 6
  have HBX := hid (fun w1 (he : Ext (W.alloc (.cells #[.int .i64 c.e, .int .i64 c.w, .int .i64 c.m, .int .i64 c.l, .int .i64 c.b, .int .i64 c.room, .int .u64 c.begin_] 24)) w1) => (hb.ext he))
  obtain ⟨dl, hdl⟩ : ∃ dl, dl = D.length := ⟨_, rfl⟩
  rw [← hdl] at HNS HHG hd2 ⊢
  have HDL := hid hdl
  clear hNS hNA hdl
  go_enter Try.func5, Try.ntmps5
  go_upto_region 1 with (fail)
  obtain ⟨w0, hw0⟩ : ∃ w0, w0 = W.alloc (.cells #[.int .i64 c.e, .int .i64 c.w, .int .i64 c.m, .int .i64 c.l, .int .i64 c.b, .int .i64 c.room, .int .u64 c.begin_] 24) := ⟨_, rfl⟩
  rw [← hw0] at b0 b1 b2 b3 b4 b5 b6 HBX HNS hx hsz1 ⊢
  clear hb hw0
  have HX0 := hid hx
  clear hx
  go_cut [7, 8] (fun s7 s8 wx => ∃ ga gq gt b gs, ∃ col0 : Nat → Nat, s7 = .pointer (some ⟨ga, 0, none⟩) ∧ s8 = .int .i64 0 ∧ Wall (AkAt col0 wx ga gq gt b gs c.b c.room ⟨[], [], D, [], 0, 0, 0, false, []⟩) ∧ Wall (∀ q, col0 q ≠ 0 → w0.heap.size ≤ q) ∧ Wall (Ext w0 wx))
  case first =>
    go_region_with (first
      | (go_at_call 20; have hxd : Ext w0 w0.drew := ext_drewN w0 1; refine (HNS.out _ hxd).mono ?_; rintro e w1 ⟨gs, FD, rfl, hs1, hf1, hl1, hx1'⟩; have hx1 := Ext.trans hxd hx1'; have hbb1 := HBX.out _ hx1; have i0 := hbb1.cell 0; have i1 := hbb1.cell 1; have i2 := hbb1.cell 2; have i3 := hbb1.cell 3; have i4 := hbb1.cell 4; have i5 := hbb1.cell 5; have i6 := hbb1.cell 6)
      | (go_at_call 19; refine (HNA.out _ _ _ hs1).mono ?_; rintro e w2 ⟨ga, gq, gt, b, col0, rfl, hA0, hc0, hx2⟩))
    all_goals
      have hlow : ∀ q, col0 q ≠ 0 → w0.heap.size ≤ q := fun q hq => (hc0 q hq).elim (fun e => by have := e.1; have := hx1.size; omega) fun e => e.elim (fun e => by have := hxd.size; omega) fun e => Nat.le_trans hxd.size (hf1 q e).1
      have hxx := Ext.trans hx1 hx2
      clear hc0 hf1 hs1 hx1 hx1' hxd hx2 hbb1 i0 i1 i2 i3 i4 i5 i6
      go_wp2_with fail
      go_meet
      exact ⟨ga, gq, gt, b, gs, col0, rfl, rfl, hid hA0, hid hlow, hid hxx⟩
  case rest =>
    obtain ⟨ga, gq, gt, b, gs, col0, rfl, rfl, HA0, HLOW, HXC⟩ := hcut
    go_wp2_with (first
      | (go_at_call 21; refine (HHG.out _ (Ext.trans HX0.out HXC.out)).mono ?_; rintro e w4 ⟨rfl, rfl⟩)
      | (go_at_call 22; refine (knum_any _ _).mono ?_; rintro e w5 ⟨rfl, rfl⟩))
    clear b0 b1 b2 b3 b4 b5 b6 HNS HNA HBX
    have HA00 := hid (⟨HA0.out, HPK.out, HLOW.out, by have := HDL.out; show D.length ≤ 200; omega⟩ : AkAt col0 wc ga gq gt b gs c.b c.room ⟨[], [], D, [], 0, 0, 0, false, []⟩ ∧ AkOk c.b c.room ⟨[], [], D, [], 0, 0, 0, false, []⟩ ∧ (∀ q, col0 q ≠ 0 → w0.heap.size ≤ q) ∧ (⟨[], [], D, [], 0, 0, 0, false, []⟩ : Ak).D.length ≤ 200)
    go_loopw [9] (fun i wr => ∃ (k : Nat) (s : Ak) (col : Nat → Nat), k ≤ n ∧ i = .int .i64 k ∧ s.acc ≤ k ∧ Wall (AkAt col wr ga gq gt b gs c.b c.room s ∧ AkOk c.b c.room s ∧ (∀ q, col q ≠ 0 → w0.heap.size ≤ q) ∧ s.D.length ≤ 200) ∧ Wall (Ext w0 wr)) (fun i _ => n - (intOf i).toNat)
    case atStart => exact ⟨0, _, col0, Nat.zero_le _, rfl, Nat.le_refl _, HA00, HXC⟩
    case round =>
      clear HPK HA0 HLOW HA00 HXC
      obtain ⟨k, s, col, hk, rfl, hsk, hP, hxr⟩ := hrel
      by_cases hlt : k < n
      · obtain ⟨ba, off, x, A1, c1, A2, c2, rfl, hbW, hxk, hm, hm2, e0, e1, e2, e3, e4, e5, e6, e7⟩ := hrow.aa hlt
        have hmm := HMD.out x (List.mem_of_getElem? hxk)
        have HM := hid fun W1 (he : Ext W W1) => hm.ext he
        have hxW := Ext.trans HX0.out hxr.out
        have HE := hid (fun (w1 : World) (he : Ext wr w1) => (⟨((hxW.trans he).cell hbW _).trans e0, ((hxW.trans he).cell hbW _).trans e1, ((hxW.trans he).cell hbW _).trans e2, ((hxW.trans he).cell hbW _).trans e3, ((hxW.trans he).cell hbW _).trans e4, ((hxW.trans he).cell hbW _).trans e5, ((hxW.trans he).cell hbW _).trans e6, ((hxW.trans he).cell hbW _).trans e7⟩ :
          w1.cell? ⟨ba, off + k * 8, none⟩ = some (.int .i64 x.kind) ∧ w1.cell? ⟨ba, off + k * 8 + 1, none⟩ = some (.int .i64 x.n) ∧ w1.cell? ⟨ba, off + k * 8 + 2, none⟩ = some (.slice A1 x.m.length c1) ∧ w1.cell? ⟨ba, off + k * 8 + 3, none⟩ = some (.int .i64 x.p.kind) ∧
          w1.cell? ⟨ba, off + k * 8 + 4, none⟩ = some (.int .u64 x.p.t) ∧ w1.cell? ⟨ba, off + k * 8 + 5, none⟩ = some (.int .u64 x.p.c) ∧ w1.cell? ⟨ba, off + k * 8 + 6, none⟩ = some (.int .u64 x.p.r) ∧ w1.cell? ⟨ba, off + k * 8 + 7, none⟩ = some (.slice A2 x.p.data.length c2)))
        have hA := hP.out.1
        have HS := hid (akState_any hA)
        have HPA := hid hA
        clear hxk e0 e1 e2 e3 e4 e5 e6 e7 hm hm2 hxW hA
        go_upto_region 8 with (first
          | (go_at_call 24; refine HS.out.mono ?_; rintro e w1 ⟨rfl, hx1⟩))
        have hx2 := Ext.trans hx1 (ext_alloc w1 (.cells #[.int .i64 (s.acc : Int), .int .i64 (s.told.length : Int), .int .u64 s.t, .int .u64 s.r, .bool s.bound] 66))
        have hwas := Blk.new w1 66 #[.int .i64 (s.acc : Int), .int .i64 (s.told.length : Int), .int .u64 s.t, .int .u64 s.r, .bool s.bound]
        generalize w1.alloc (.cells #[.int .i64 (s.acc : Int), .int .i64 (s.told.length : Int), .int .u64 s.t, .int .u64 s.r, .bool s.bound] 66) = w2 at *
        obtain ⟨gw, hgw⟩ : ∃ gw, gw = w1.heap.size := ⟨_, rfl⟩
        rw [← hgw] at hwas ⊢
        have hgg : wr.heap.size ≤ gw := by rw [hgw]; exact hx1.size
        obtain ⟨f0, f1, f2, f3, f4, f5, f6, f7⟩ := HE.out w2 hx2
        have HW2 := hid hwas
        have HX2 := hid hx2
        clear hwas hx2 hx1 hgw HE HS
        go_upto_region 9 with (fail)
        clear f0 f1 f2 f3 f4 f5 f6 f7
        have hx3 := Ext.trans HX2.out (ext_alloc w2 (.cells #[.int .i64 x.kind, .int .i64 x.n, .slice A1 x.m.length c1, .int .i64 x.p.kind, .int .u64 x.p.t, .int .u64 x.p.c, .int .u64 x.p.r, .slice A2 x.p.data.length c2] 71))
        have hxb := Blk.new w2 71 #[.int .i64 x.kind, .int .i64 x.n, .slice A1 x.m.length c1, .int .i64 x.p.kind, .int .u64 x.p.t, .int .u64 x.p.c, .int .u64 x.p.r, .slice A2 x.p.data.length c2]
        have hwb := HW2.out.ext (ext_alloc w2 (.cells #[.int .i64 x.kind, .int .i64 x.n, .slice A1 x.m.length c1, .int .i64 x.p.kind, .int .u64 x.p.t, .int .u64 x.p.c, .int .u64 x.p.r, .slice A2 x.p.data.length c2] 71))
        have hgx : wr.heap.size ≤ w2.heap.size := HX2.out.size
        generalize w2.alloc (.cells #[.int .i64 x.kind, .int .i64 x.n, .slice A1 x.m.length c1, .int .i64 x.p.kind, .int .u64 x.p.t, .int .u64 x.p.c, .int .u64 x.p.r, .slice A2 x.p.data.length c2] 71) = w3 at *
        obtain ⟨gx, hgxe⟩ : ∃ gx, gx = w2.heap.size := ⟨_, rfl⟩
        rw [← hgxe] at hxb hgx ⊢
        clear hgxe
        have hA3 := hP.out.1.ext hx3
        have hok := hP.out.2.1
        have hcw : col gw = 0 := Classical.byContradiction fun h => by have := HPA.out.lt gw h; omega
        have hcx : col gx = 0 := Classical.byContradiction fun h => by have := HPA.out.lt gx h; omega
        have HCW := hid (⟨hcw, hcx⟩ : col gw = 0 ∧ col gx = 0)
        have g0 := hxb.cell 0
        have g1 := hxb.cell 1
        have g2 := hxb.cell 2
        have g3 := hxb.cell 3
        have g4 := hxb.cell 4
        have g5 := hxb.cell 5
        have g6 := hxb.cell 6
        have g7 := hxb.cell 7
        have hmw : IsSlice repByte w3 (all w3) (.slice A1 x.m.length c1) x.m := HM.out _ (Ext.trans HX0.out (Ext.trans hxr.out hx3))
        have hq4 := hok.acc
        have hcap := hok.cap
        have hsd := hP.out.2.2.2
        have htb : s.told.length ≤ 100 := by omega
        have HXB := hid hxb
        have HWB := hid hwb
        have HX3 := hid hx3
        have HOK := hid hok
        have HA3 := hid hA3
        have HMM := hid hmm
        have HMW := hid hmw
        clear hxb hwb hx3 HW2 HX2 hcw hcx hA3 hok HM hmm hmw
        obtain ⟨kind, an, m, tk⟩ := x
        obtain ⟨tkk, tkt, tkc, tkr, tkd⟩ := tk
        simp only at g0 g1 g2 g3 g4 g5 g6 g7 HMW HMM HXB
        obtain ⟨ml, hml⟩ : ∃ ml, ml = m.length := ⟨_, rfl⟩
        rw [← hml] at g2 HMW HXB
        have HML := hid hml
        clear hml
        have hb64 := HB.out.2.1
        go_upto_block 2 with (fail)
        go_cut [12] (fun s12 wx => AkRes col w3 ga gq gt b gs c.b c.room (actK c.b c.room s ⟨kind, an, m, ⟨tkk, tkt, tkc, tkr, tkd⟩⟩).1 s12 (actK c.b c.room s ⟨kind, an, m, ⟨tkk, tkt, tkc, tkr, tkd⟩⟩).2 wx)
        case first => as_aux_lemma =>
          have hk4 : (kind = 0 ∧ 64 < ml) ∨ (kind = 0 ∧ ml ≤ 64 ∧ c.room ≤ (s.q.length : Int)) ∨ (kind = 0 ∧ ml ≤ 64 ∧ (s.q.length : Int) < c.room) ∨ kind = 1 ∨ kind = 2 ∨ (kind ≠ 0 ∧ kind ≠ 1 ∧ kind ≠ 2) := by omega
          rcases hk4 with ⟨rfl, q1⟩ | ⟨rfl, q1, q2⟩ | ⟨rfl, q1, q2⟩ | rfl | rfl | ⟨q0, q1, q2⟩
          case' inl =>
            have HACT := hid (show actK c.b c.room s ⟨0, an, m, ⟨tkk, tkt, tkc, tkr, tkd⟩⟩ = (s, []) from by unfold actK; rw [if_pos rfl, if_pos (.inl (by show 64 < m.length; have := HML.out; omega))])
            have HS1 := hid (akSendLong_any HA3.out A1 ml c1 q1)
            clear q1
            go_wp2_with (go_at_call 25; refine HS1.out.mono ?_; rintro e w4 ⟨rfl, rfl⟩)
            have hz : AkRes col w3 ga gq gt b gs c.b c.room s (.slice none 0 0) [] w3 := AkRes.nil HA3.out (fun k => .inl rfl) (Out.refl _ _)
          case' inr.inl =>
            have HACT := hid (show actK c.b c.room s ⟨0, an, m, ⟨tkk, tkt, tkc, tkr, tkd⟩⟩ = (s, []) from by unfold actK; rw [if_pos rfl, if_pos (.inr q2)])
            have HS1 := hid (akSendFull_any HA3.out A1 ml c1 q1 q2)
            clear q1 q2
            go_wp2_with (go_at_call 25; refine HS1.out.mono ?_; rintro e w4 ⟨rfl, d, rfl⟩)
            have hz : AkRes col w3 ga gq gt b gs c.b c.room s (.slice none 0 0) [] (w3.drewN d) := AkRes.nil (HA3.out.ext (ext_drewN _ _)) (fun k => .inl rfl) (Out.of_ext (ext_drewN _ _))
          case' inr.inr.inl =>
            have HACT := hid (show actK c.b c.room s ⟨0, an, m, ⟨tkk, tkt, tkc, tkr, tkd⟩⟩ = ((sendK s m).1, []) from by unfold actK; rw [if_pos rfl, if_neg (by show ¬ (64 < m.length ∨ c.room ≤ (s.q.length : Int)); have := HML.out; omega)])
            have HS1 := hid (akSend_any HA3.out HOK.out (by omega) (by omega) (.slice A1 ml c1) m HMW.out (by have := HML.out; omega) q2)
            clear q1 q2
            go_wp2_with (go_at_call 25; refine HS1.out.mono ?_; rintro e w4 ⟨u, rfl, hres⟩)
            have hz := hres.drop
            clear hres
          case' inr.inr.inr.inl =>
            have HACT := hid (show actK c.b c.room s ⟨1, an, m, ⟨tkk, tkt, tkc, tkr, tkd⟩⟩ = tickK c.b s from by unfold actK; rw [if_neg (by decide : ¬ (1 : Int) = 0), if_pos rfl])
            have HS1 := hid (akTick_any HA3.out HOK.out hb64)
            go_wp2_with (go_at_call 26; refine HS1.out.mono ?_; rintro e w4 ⟨u, rfl, hz⟩)
          case' inr.inr.inr.inr.inl =>
            have HACT := hid (show actK c.b c.room s ⟨2, an, m, ⟨tkk, tkt, tkc, tkr, tkd⟩⟩ = takeK s ⟨tkk, tkt, tkc, tkr, tkd⟩ from by unfold actK; rw [if_neg (by decide : ¬ (2 : Int) = 0), if_neg (by decide : ¬ (2 : Int) = 1), if_pos rfl])
            have HS1 := hid (akTake_any HA3.out HOK.out (by omega) (by omega) ⟨tkk, tkt, tkc, tkr, tkd⟩ A2 tkd.length c2)
            go_wp2_with (go_at_call 27; refine HS1.out.mono ?_; rintro e w4 ⟨u, rfl, hz⟩)
          case' inr.inr.inr.inr.inr =>
            have HACT := hid (show actK c.b c.room s ⟨kind, an, m, ⟨tkk, tkt, tkc, tkr, tkd⟩⟩ = (s, []) from by unfold actK; rw [if_neg q0, if_neg q1, if_neg q2])
            have q0' : (kind == 0) = false := by simp [q0]
            have q1' : (kind == 1) = false := by simp [q1]
            have q2' : (kind == 2) = false := by simp [q2]
            clear q0 q1 q2
            go_wp2_with fail
            have hz : AkRes col w3 ga gq gt b gs c.b c.room s (.slice none 0 0) [] w3 := AkRes.nil HA3.out (fun k => .inl rfl) (Out.refl _ _)
          all_goals
            go_meet
            rw [HACT.out]
            exact hz
        case rest =>
          obtain ⟨col2, hA4, hc4, hu4, ho4⟩ := hcut
          have HDT := hid fun t h h2 => actK_data (most := c.b) (room := c.room) (s := s) (x := ⟨kind, an, m, ⟨tkk, tkt, tkc, tkr, tkd⟩⟩) (t := t) h h2
          have hok2 := actK_ok HOK.out HB.out.1 ⟨kind, an, m, ⟨tkk, tkt, tkc, tkr, tkd⟩⟩
          have htold := actK_told (most := c.b) (room := c.room) (s := s) (x := ⟨kind, an, m, ⟨tkk, tkt, tkc, tkr, tkd⟩⟩)
          have hac2 := actK_acc c.b c.room s ⟨kind, an, m, ⟨tkk, tkt, tkc, tkr, tkd⟩⟩
          have hD2 := actK_D c.b c.room s ⟨kind, an, m, ⟨tkk, tkt, tkc, tkr, tkd⟩⟩
          obtain ⟨s2, hs2⟩ : ∃ s2, s2 = (actK c.b c.room s ⟨kind, an, m, ⟨tkk, tkt, tkc, tkr, tkd⟩⟩).1 := ⟨_, rfl⟩
          obtain ⟨out, hout⟩ : ∃ out, out = (actK c.b c.room s ⟨kind, an, m, ⟨tkk, tkt, tkc, tkr, tkd⟩⟩).2 := ⟨_, rfl⟩
          rw [← hs2] at hA4 HDT hok2 htold hac2 hD2
          rw [← hout] at hu4 HDT
          obtain ⟨Au, cu, rfl⟩ := hu4.shape
          have hlow2 := low_after hc4 hP.out.2.2.1 (Ext.trans hxr.out HX3.out).size
          have hx04 := ext_low ho4 (Ext.trans hxr.out HX3.out) hP.out.2.2.1
          have hwb4 := HWB.out.out ho4 (fun h => h HCW.out.1)
          have hxb4 := HXB.out.out ho4 (fun h => h HCW.out.2)
          have hd22 : s2.D.length ≤ 200 := by rw [hD2]; exact hsd
          have HEND := hid (⟨hlow2, hx04, hok2, hd22⟩ : (∀ q, col2 q ≠ 0 → w0.heap.size ≤ q) ∧ Ext w0 wc ∧ AkOk c.b c.room s2 ∧ s2.D.length ≤ 200)
          have HU4 := hid (hu4.keep fun k hk => ⟨hk.1.2, fun _ => rfl⟩ : IsSlice repTk wc (all wc) (.slice Au out.length cu) out)
          have HA4 := hid hA4
          have HTOLD := hid htold
          have HPOLL := hid fun (w1 : World) (he : Ext wc w1) o (h : s2.told = s.told ++ [o]) => (pollK_told hok2 h ▸ akPoll_any (hA4.ext he) hok2 (s.told.length : Int))
          have HST := hid (akState_any hA4)
          have hcc := hP.out.2.2.1
          clear hs2 hout hD2 hu4 hc4 ho4 hA4 htold hok2 hlow2 hx04 hcc hd22 g0 g1 g2 g3 g4 g5 g6 g7 HA3 HMW HXB HWB HOK HCW HMM hP hxr HX3 HPA hsd hcap hq4 hb64
          have hwl := hwb4.lt
          have hxl := hxb4.lt
          go_upto_region 18 with (first
            | (go_at_call 24; refine HST.out.mono ?_; rintro e w5 ⟨rfl, hx5⟩))
          have hx6 := Ext.trans hx5 (ext_alloc w5 (.cells #[.int .i64 (s2.acc : Int), .int .i64 (s2.told.length : Int), .int .u64 s2.t, .int .u64 s2.r, .bool s2.bound] 66))
          have hnow := Blk.new w5 66 #[.int .i64 (s2.acc : Int), .int .i64 (s2.told.length : Int), .int .u64 s2.t, .int .u64 s2.r, .bool s2.bound]
          generalize w5.alloc (.cells #[.int .i64 (s2.acc : Int), .int .i64 (s2.told.length : Int), .int .u64 s2.t, .int .u64 s2.r, .bool s2.bound] 66) = w6 at *
          obtain ⟨gz, hgz⟩ : ∃ gz, gz = w5.heap.size := ⟨_, rfl⟩
          rw [← hgz] at hnow ⊢
          have hwb6 := hwb4.ext hx6
          have hxb6 := hxb4.ext hx6
          have HX6 := hid hx6
          have HN6 := hid hnow
          have HW6 := hid hwb6
          have HXB6 := hid hxb6
          clear hwb4 hxb4 hx6 hx5 hnow hgz hwb6 hxb6 hwl hxl HST
          go_upto_block 3 with (fail)
          go_cut [] (fun wx => Ext w6 wx)
          case first => as_aux_lemma =>
            go_wp2_with fail
            go_loopw [14] (fun i wr => ∃ j : Nat, j ≤ out.length ∧ i = .int .i64 j ∧ Wall (Ext w6 wr)) (fun i _ => out.length - (intOf i).toNat)
            case atStart => exact ⟨0, Nat.zero_le _, rfl, hid (Below.refl _ _)⟩
            case round =>
              obtain ⟨j, hj, rfl, hxr⟩ := hrel
              by_cases hjl : j < out.length
              · obtain ⟨_, _, _, hsh, hq1, hq2, hru⟩ := HU4.out
                cases hsh
                unfold maxLen at hq2
                obtain ⟨bu, offu, t, A', c', rfl, hbu, hxt, _, t0, t1, t2, t3, t4⟩ := hru.tkE (Ext.trans HX6.out hxr.out) hjl
                have hdt := HDT.out t (List.mem_of_getElem? hxt)
                have w1 := HW6.out.ext hxr.out
                have n1 := HN6.out.ext hxr.out
                have x1 := HXB6.out.ext hxr.out
                have i2 := w1.cell 2
                have i3 := w1.cell 3
                have i4 := w1.cell 4
                have k3 := n1.cell 3
                have k4 := n1.cell 4
                have y0 := x1.cell 0
                have y5 := x1.cell 5
                have y6 := x1.cell 6
                obtain ⟨tk0, tt0, tc0, tr0, td0⟩ := t
                simp only at t0 t1 t2 t3 t4 hdt
                clear t3 t4 w1 n1 x1 hxt hru HU4
                go_upto_region 21 with (fail)
                go_cut [127] (fun s127 wx => s127 = .bool false ∧ ∃ d, wx = wr.drewN d)
                case first =>
                  by_cases h2 : tk0 = 2
                  · obtain ⟨rfl, rfl, rfl, d1, d2, d3⟩ := hdt h2
                    subst h2
                    rw [d2] at k4
                    rw [d3] at k3
                    clear hdt d2 d3
                    cases hbd : s.bound with
                    | true =>
                      rw [hbd] at i4
                      rw [d1 hbd] at i3
                      clear d1 hbd
                      go_quiet (fail)
                      go_wp2_with fail
                      go_meet
                      exact ⟨rfl, _, rfl⟩
                    | false =>
                      rw [hbd] at i4
                      clear d1 hbd
                      go_quiet (fail)
                      go_wp2_with fail
                      go_meet
                      exact ⟨rfl, _, rfl⟩
                  · have ht : (tk0 == 2) = false := by simp [h2]
                    clear h2 hdt
                    go_quiet (fail)
                    go_wp2_with fail
                    go_meet
                    exact ⟨rfl, _, rfl⟩
                case rest =>
                  obtain ⟨rfl, d, rfl⟩ := hcut
                  go_wp2_with fail
                  go_roundw
                  case rel => exact ⟨j + 1, by omega, by go_num, hid (Ext.trans hxr.out (ext_drewN _ _))⟩
                  case measure => simp [intOf]; omega
              · go_wp2
                go_meet
                exact hxr.out
          case rest =>
            generalize wc = wz at *
            have HX7 := hid hcut
            have w1 := HW6.out.ext hcut
            have n1 := HN6.out.ext hcut
            have x1 := HXB6.out.ext hcut
            have i1 := w1.cell 1
            have k1 := n1.cell 1
            clear hcut
            have hte : s.told.length ≤ 100 := htb
            rcases HTOLD.out with htl | ⟨o, htl, ho⟩
            · have hl : s2.told.length = s.told.length := by rw [htl]
              rw [hl] at k1
              obtain ⟨tl, htl⟩ : ∃ tl, tl = s.told.length := ⟨_, rfl⟩
              rw [← htl] at i1 k1 hte
              clear htl hl HTOLD HPOLL htb
              go_wp2_with fail
              go_roundw
              case rel => exact ⟨k + 1, s2, col2, by omega, by go_num, by omega, hid ⟨HA4.out.ext (Ext.trans HX6.out HX7.out), HEND.out.2.2.1, HEND.out.1, HEND.out.2.2.2⟩, hid (Ext.trans HEND.out.2.1 (Ext.trans HX6.out HX7.out))⟩
              case measure => simp [intOf]; omega
            · have hl : s2.told.length = s.told.length + 1 := by rw [htl]; simp
              rw [hl] at k1
              have HP := hid (HPOLL.out _ (Ext.trans HX6.out HX7.out) o htl)
              have HO := hid ho
              have i2 := w1.cell 2
              have i3 := w1.cell 3
              have i4 := w1.cell 4
              have y3 := x1.cell 3
              have y4 := x1.cell 4
              have y6 := x1.cell 6
              clear ho
              obtain ⟨tl, htl⟩ : ∃ tl, tl = s.told.length := ⟨_, rfl⟩
              rw [← htl] at i1 k1 hte HP
              clear htl hl HTOLD HPOLL htb w1 n1 x1
              go_upto_region 27 with (first
                | (go_at_call 28; refine HP.out.mono ?_; rintro e w8 ⟨rfl, rfl⟩))
              have HEND2 := hid (⟨⟨HA4.out.ext (Ext.trans HX6.out HX7.out), HEND.out.2.2.1, HEND.out.1, HEND.out.2.2.2⟩, Ext.trans HEND.out.2.1 (Ext.trans HX6.out HX7.out)⟩ : (AkAt col2 wz ga gq gt b gs c.b c.room s2 ∧ AkOk c.b c.room s2 ∧ (∀ q, col2 q ≠ 0 → w0.heap.size ≤ q) ∧ s2.D.length ≤ 200) ∧ Ext w0 wz)
              clear HEND HA4 HX6 HX7 HW6 HN6 HXB6 HU4 HDT HB HP HHG i1 k1
              rcases HO.out with rfl | ⟨rfl, o1, o2, o3, o4⟩
              · clear HO i2 i3 i4 y3 y4 y6
                go_wp2_with (first
                  | (go_at_call 22; refine (knum_any _ _).mono ?_; rintro e w9 ⟨rfl, rfl⟩))
                go_roundw
                case rel => exact ⟨k + 1, s2, col2, by omega, by go_num, by omega, hid HEND2.out.1, hid HEND2.out.2⟩
                case measure => simp [intOf]; omega
              · have v1 : (s.r == tkr) = false := by simp [o3]
                have v2 : (tkt != tkt) = false := by simp
                rw [o2] at i4
                rw [o4] at i2
                rw [o1] at y3
                clear HO o1 o2 o3 o4
                go_wp2_with (first
                  | (go_at_call 22; refine (knum_any _ _).mono ?_; rintro e w9 ⟨rfl, rfl⟩))
                go_roundw
                case rel => exact ⟨k + 1, s2, col2, by omega, by go_num, by omega, hid HEND2.out.1, hid HEND2.out.2⟩
                case measure => simp [intOf]; omega
      · obtain rfl : k = n := by omega
        go_wp2_with (go_at_call 23; refine (HLV.out _).mono ?_; rintro e w8 ⟨rfl, hx8⟩)
        go_ret
        exact ⟨rfl, Ext.trans (Ext.trans HX0.out hxr.out) hx8⟩
end
end Go.Proofs.Ytimlbebockfioaa
