/- The law PullerDoes: its walk. -/
import Derived.Deep.DeepCutAuto
import Derived.Test.YtjchobncmogcpaaPullTwo
import Derived.Test.YtjchobncmogcpaaPullLive
import Derived.Test.YtjchobncmogcpaaPullNil
import Derived.Test.YtjchobncmogcpaaCfgFrame
namespace Go.Proofs.Ytjchobncmogcpaa
open Go.RowKit

theorem prAt_of {w : World} {gn gr : Nat} {c : Cfg} (h1 : Blk w gr 59 (puRCells c gn)) (h2 : Blk w gn 61 #[.int .i64 c.room, .slice none 0 0]) (hlt : gn < gr) : PrAt w gn gr c ⟨0, 0, [], []⟩ :=
  ⟨hlt, .slice none 0 0, .slice none 0 0, h1, h2, own_nil _ _ _ _, isSlice_nil _ _ _⟩
theorem actS_ok {c : Cfg} {s : Pu} (h : PuOk c s) (hc : c.Ok) (x : Sl) : PuOk c (actS c s x) := by
  unfold actS
  split
  · exact h
  · rw [takeS_eq]
    exact enterS_ok (keepS_ok h _ _ (by have := hc.m1; have := hc.w1; have := hc.wl; omega)) hc.r1
theorem actS_ent {c : Cfg} {s : Pu} (hc : c.Ok) (x : Sl) : (actS c s x).ent ≤ s.ent + 16 ∧ (actS c s x).ret = s.ret := by
  have h1 : ∀ (n : Nat) (s : Pu), (enterF n s).ret = s.ret := by
    intro n
    induction n with
    | zero => intro s; rfl
    | succ n ih =>
      intro s
      unfold enterF
      cases hlook s.ah s.ent with
      | none => rfl
      | some x => exact ih _
  unfold actS
  split
  · exact ⟨by omega, rfl⟩
  · rw [takeS_eq]
    have := enterS_ent c.room.toNat (keepS c.w c.m s x.seq x.data)
    rw [keepS_ent] at this
    refine ⟨by have := hc.r2; omega, ?_⟩
    unfold enterS
    rw [h1]
    unfold keepS
    split <;> rfl
theorem recvS_ent {c : Cfg} {s s' : Pu} (hc : c.Ok) {m : List UInt8} (hr : recvS c.room.toNat s = some (m, s')) : s'.ent ≤ s.ent + 16 ∧ s'.ret = s.ret + 1 := by
  have h1 : ∀ (n : Nat) (s : Pu), (enterF n s).ret = s.ret := by
    intro n
    induction n with
    | zero => intro s; rfl
    | succ n ih =>
      intro s
      unfold enterF
      cases hlook s.ah s.ent with
      | none => rfl
      | some x => exact ih _
  unfold recvS at hr
  cases hq : s.q with
  | nil => rw [hq] at hr; cases hr
  | cons y q =>
    rw [hq] at hr
    injection hr with hr
    injection hr with e1 e2
    rw [← e2]
    have h2 : (enterS c.room.toNat ⟨s.ent, s.ret + 1, q, s.ah⟩).ent ≤ s.ent + c.room.toNat := (enterS_ent c.room.toNat ⟨s.ent, s.ret + 1, q, s.ah⟩).1
    refine ⟨by have := hc.r2; omega, ?_⟩
    unfold enterS
    rw [h1]
theorem RecvAt.un {lo : Nat} {m : List UInt8} {l : List Sl} {a b : Value} {u : World} (h : RecvAt lo m l (.tuple #[a, b, .bool true]) u) : ByAt lo a m u ∧ SlAt lo b l u := by
  obtain ⟨a', b', he, h1, h2⟩ := h
  injection he with he
  have e1 : a = a' := by have := congrArg (fun x : Array Value => x[0]?) he; simpa using this
  have e2 : b = b' := by have := congrArg (fun x : Array Value => x[1]?) he; simpa using this
  subst e1 e2
  exact ⟨h1, h2⟩
set_option maxRecDepth 100000
section
set_option maxHeartbeats 4000000 in
theorem pullerDoes_main (c : Cfg) (hw : (Lit.int .i64 c.w).wf = true) (v : Value) (acts : List (Int × Sl)) (W : World) (o1 : IsSlice repPA W (all W) v acts) :
    Calls Try.prog 4 #[.agg (cfgVals c).toArray, v] W fun e w' => e = .returned (.bool true) ∧ Ext W w' := by
  have HLV := hid pullLive_any
  have hb := Blk.new W 24 (cfgVals c).toArray
  have hx := ext_alloc W (.cells (cfgVals c).toArray 24)
  have HHG := hid (hugeP_any v acts _ (o1.ext hx))
  obtain ⟨A, n, cc, rfl, hnc, hcm, hrow⟩ := o1
  have hn := hrow.1
  unfold maxLen at hcm
  have HN := hid hn
  cases hhg : hugeP acts with
  | true =>
    rw [hhg] at HHG
    clear hhg hn hw hrow
    unfold cfgVals at *
    go_enter Try.func4, Try.ntmps4
    go_wp2_with (first
      | (go_at_call 22; refine HHG.out.mono ?_; rintro e w2 ⟨rfl, rfl⟩)
      | (go_at_call 16; refine (HLV.out _).mono ?_; rintro e w8 ⟨rfl, hx8⟩))
    go_ret
    exact ⟨rfl, Ext.trans hx hx8⟩
  | false =>
    have hn100 : n ≤ 100 := by
      have h1 := hhg
      unfold hugeP at h1
      rw [Bool.or_eq_false_iff] at h1
      have := of_decide_eq_false h1.2
      omega
    have hdat : ∀ x ∈ acts, x.2.data.length ≤ 200 := fun x hx => by
      have h1 := hhg
      unfold hugeP at h1
      rw [Bool.or_eq_false_iff, List.take_of_length_le (by omega), List.any_eq_false] at h1
      have := h1.1 x hx
      simpa using this
    have HD := hid hdat
    rw [hhg] at HHG
    clear hhg hn hdat
    by_cases hc : checkV c.w c.m c.l ≠ 0
    · have HNP := hid (fun W1 => newPBad_any W1 c hw hc)
      have HNR := hid (fun W1 => newRBad_any W1 c hw hc)
      have hcB : (checkV c.w c.m c.l == 0) = false := by simpa using hc
      clear hc hw hrow
      generalize checkV c.w c.m c.l = cv at *
      have hcc : (cv != cv) = false := by simp
      unfold cfgVals at *
      have b0 := hb.cell 0
      have b1 := hb.cell 1
      have b2 := hb.cell 2
      have b3 := hb.cell 3
      have b4 := hb.cell 4
      have b5 := hb.cell 5
      have b6 := hb.cell 6
      go_enter Try.func4, Try.ntmps4
      go_wp2_with (first
        | (go_at_call 22; refine HHG.out.mono ?_; rintro e w2 ⟨rfl, rfl⟩)
        | (go_at_call 14; refine (HNP.out _).mono ?_; rintro e w3 ⟨rfl, hx3⟩; have hbb3 := hb.ext hx3; have b0 := hbb3.cell 0; have b1 := hbb3.cell 1; have b2 := hbb3.cell 2; have b3 := hbb3.cell 3; have b4 := hbb3.cell 4; have b5 := hbb3.cell 5; have b6 := hbb3.cell 6)
        | (go_at_call 23; refine (HNR.out _).mono ?_; rintro e w4 ⟨rfl, hx4⟩)
        | (go_at_call 15; refine (pnum_any _ _).mono ?_; rintro e w5 ⟨rfl, rfl⟩))
      go_loopw [9] (fun i wr => i = .int .i64 0 ∧ wr = w4) (fun _ _ => 0)
      case atStart => exact ⟨rfl, rfl⟩
      case round =>
        obtain ⟨rfl, rfl⟩ := hrel
        by_cases h0 : n = 0
        · subst h0
          go_wp2_with (go_at_call 16; refine (HLV.out _).mono ?_; rintro e w8 ⟨rfl, hx8⟩)
          go_ret
          exact ⟨rfl, Ext.trans (Ext.trans (Ext.trans hx hx3) hx4) hx8⟩
        · have hn0 : 0 < n := by omega
          go_wp2_with (go_at_call 16; refine (HLV.out _).mono ?_; rintro e w8 ⟨rfl, hx8⟩)
          go_ret
          exact ⟨rfl, Ext.trans (Ext.trans (Ext.trans hx hx3) hx4) hx8⟩
    · have hc : checkV c.w c.m c.l = 0 := by simpa using hc
      by_cases hr : c.room < 1 ∨ 16 < c.room
      · have HNP := hid (fun W1 => newPRoom_any W1 c hw hc hr)
        have HNR := hid (fun W1 => newRRoom_any W1 c hw hc hr)
        clear hc hw hr hrow
        unfold cfgVals at *
        have b0 := hb.cell 0
        have b1 := hb.cell 1
        have b2 := hb.cell 2
        have b3 := hb.cell 3
        have b4 := hb.cell 4
        have b5 := hb.cell 5
        have b6 := hb.cell 6
        go_enter Try.func4, Try.ntmps4
        go_wp2_with (first
          | (go_at_call 22; refine HHG.out.mono ?_; rintro e w2 ⟨rfl, rfl⟩)
          | (go_at_call 14; refine (HNP.out _).mono ?_; rintro e w3 ⟨rfl, hx3⟩; have hbb3 := hb.ext hx3; have b0 := hbb3.cell 0; have b1 := hbb3.cell 1; have b2 := hbb3.cell 2; have b3 := hbb3.cell 3; have b4 := hbb3.cell 4; have b5 := hbb3.cell 5; have b6 := hbb3.cell 6)
          | (go_at_call 23; refine (HNR.out _).mono ?_; rintro e w4 ⟨rfl, hx4⟩)
          | (go_at_call 15; refine (pnum_any _ _).mono ?_; rintro e w5 ⟨rfl, rfl⟩))
        go_loopw [9] (fun i wr => i = .int .i64 0 ∧ wr = w4) (fun _ _ => 0)
        case atStart => exact ⟨rfl, rfl⟩
        case round =>
          obtain ⟨rfl, rfl⟩ := hrel
          by_cases h0 : n = 0
          · subst h0
            go_wp2_with (go_at_call 16; refine (HLV.out _).mono ?_; rintro e w8 ⟨rfl, hx8⟩)
            go_ret
            exact ⟨rfl, Ext.trans (Ext.trans (Ext.trans hx hx3) hx4) hx8⟩
          · have hn0 : 0 < n := by omega
            go_wp2_with (go_at_call 16; refine (HLV.out _).mono ?_; rintro e w8 ⟨rfl, hx8⟩)
            go_ret
            exact ⟨rfl, Ext.trans (Ext.trans (Ext.trans hx hx3) hx4) hx8⟩
      · have hr1 : 1 ≤ c.room := by omega
        have hr2 : c.room ≤ 16 := by omega
        have hcok := cfg_ok hc hr1 hr2
        have HNP := hid (fun W1 => newP_any W1 c hw hc hr1 hr2)
        have HNR := hid (fun W1 => newR_any W1 c hw hc hr1 hr2)
        have HC := hid hcok
        clear hc hw hr hcok hr1 hr2
        unfold cfgVals at *
        have b0 := hb.cell 0
        have b1 := hb.cell 1
        have b2 := hb.cell 2
        have b3 := hb.cell 3
        have b4 := hb.cell 4
        have b5 := hb.cell 5
        have b6 := hb.cell 6
        go_enter Try.func4, Try.ntmps4
        go_wp2_with (first
          | (go_at_call 22; refine HHG.out.mono ?_; rintro e w2 ⟨rfl, rfl⟩)
          | (go_at_call 14; refine (HNP.out _).mono ?_; rintro e w3 ⟨gp, gq, gm, rfl, hp3, hx3, l1, l2, l3⟩; have hbb3 := hb.ext hx3; have b0 := hbb3.cell 0; have b1 := hbb3.cell 1; have b2 := hbb3.cell 2; have b3 := hbb3.cell 3; have b4 := hbb3.cell 4; have b5 := hbb3.cell 5; have b6 := hbb3.cell 6)
          | (go_at_call 23; refine (HNR.out _).mono ?_; rintro e w4 ⟨gr, gn, rfl, hr4, hn4, hlt4, hx4, l4, l5⟩)
          | (go_at_call 15; refine (pnum_any _ _).mono ?_; rintro e w5 ⟨rfl, rfl⟩))
        have hsz1 := hx.size
        have hPd := pd_new (W := W) (Ext.trans hx hx3) hx4 hp3 (by omega) (by omega) (by omega) (prAt_of hr4 hn4 hlt4) (by omega)
        have HPd := hid hPd
        have HOk : Wall (PuOk c ⟨0, 0, [], []⟩) := hid ⟨by simp, fun p hp => by simp at hp, by have := HC.out.r1; simp; omega, fun x hx => by simp at hx⟩
        clear hPd hp3 hr4 hn4 b0 b1 b2 b3 b4 b5 b6 hb hbb3 hx hx3 hx4 l1 l2 l3 l4 l5 hlt4 hsz1 HHG HNP HNR
        go_loopw [9] (fun i wr => ∃ (k : Nat) (s : Pu), k ≤ n ∧ i = .int .i64 k ∧ s.ent ≤ 16 * k ∧ s.ret ≤ k ∧ Wall (Pd W wr gp gq gm gn gr c s s noX noX) ∧ Wall (PuOk c s)) (fun i _ => n - (intOf i).toNat)
        case atStart => exact ⟨0, _, Nat.zero_le _, rfl, Nat.le_refl _, Nat.le_refl _, HPd, HOk⟩
        case round =>
          obtain ⟨k, s, hk, rfl, hse, hsr, hP, hO⟩ := hrel
          by_cases hlt : k < n
          · obtain ⟨b1, off, x, A', c', rfl, hbW, hx, hxd, e0, e1, e2, e3, e4⟩ := hrow.pa hlt
            have hxl := HD.out x (List.mem_of_getElem? hx)
            obtain ⟨kind, sl⟩ := x
            simp only at hxd e0 e1 e2 e3 e4 hxl
            have f0 := (hP.out.ext0.cell hbW _).trans e0
            have HE := hid (fun (w1 : World) (he : Ext W w1) => (⟨(he.cell hbW _).trans e1, (he.cell hbW _).trans e2, (he.cell hbW _).trans e3, (he.cell hbW _).trans e4⟩ : w1.cell? ⟨b1, off + k * 5 + 1, none⟩ = some (.bool sl.ack) ∧ w1.cell? ⟨b1, off + k * 5 + 2, none⟩ = some (.int .i64 sl.seq) ∧ w1.cell? ⟨b1, off + k * 5 + 3, none⟩ = some (.int .u64 sl.bits) ∧ w1.cell? ⟨b1, off + k * 5 + 4, none⟩ = some (.slice A' sl.data.length c')))
            have HT := hid (fun (w1 : World) (h : Pd W w1 gp gq gm gn gr c s s noX noX) => pd_take h HC.out (by omega) sl _ hxd (by omega))
            have HTR := hid (fun (w1 : World) (s' : Pu) (EA : World → Prop) (h : Pd W w1 gp gq gm gn gr c s' s EA noX) => pd_takeR h HC.out hO.out (by omega) sl _ hxd (by omega))
            have HAO := hid (actS_ok hO.out HC.out sl)
            have hae := actS_ent (s := s) HC.out sl
            have hk4 : kind = 0 ∨ (kind = 1 ∧ s.q = []) ∨ (∃ m s1, kind = 1 ∧ recvS c.room.toNat s = some (m, s1)) ∨ (kind ≠ 0 ∧ kind ≠ 1) := by
              by_cases h0 : kind = 0
              · exact .inl h0
              · by_cases h1 : kind = 1
                · cases hq : s.q with
                  | nil => exact .inr (.inl ⟨h1, rfl⟩)
                  | cons y q => exact .inr (.inr (.inl ⟨y, _, h1, by unfold recvS; rw [hq]⟩))
                · exact .inr (.inr (.inr ⟨h0, h1⟩))
            clear hx e0 e1 e2 e3 e4 hxd
            rcases hk4 with k0 | ⟨k0, hq⟩ | ⟨m, s2, k0, hrec⟩ | ⟨k0, k1⟩
            case' pos.inl =>
              subst k0
              have HSM := hid (fun (w1 : World) (v u : Value) (h1 : IsSlice repSl w1 (all w1) v (actL c s sl)) (h2 : IsSlice repSl w1 (all w1) u (actL c s sl)) => slidesSame_any v u _ w1 h1 h2)
              have hqd : Pd W wr.drew gp gq gm gn gr c s s noX noX := hP.out.ext (Below.drew (Below.refl _ _))
              generalize actS c s sl = s2 at *
              generalize actL c s sl = l2 at *
              generalize sl.ack = ack at *
              generalize sl.seq = seq at *
              generalize sl.bits = bts at *
              generalize sl.data.length = dl at *
              clear hP HD hrow
              go_upto_region 12 with (fail)
              go_region_held3 (fun w' => w'.cell? ⟨b1, off + k * 5 + 1, none⟩ = some (.bool ack) ∧ w'.cell? ⟨b1, off + k * 5 + 2, none⟩ = some (.int .i64 seq) ∧ w'.cell? ⟨b1, off + k * 5 + 3, none⟩ = some (.int .u64 bts) ∧ w'.cell? ⟨b1, off + k * 5 + 4, none⟩ = some (.slice A' dl c'))
                (first | with_reducible exact HE.out _ hqd.ext0 | with_reducible exact HE.out _ hq2.ext0 | with_reducible exact HE.out _ hq3.ext0 | with_reducible exact HE.out _ hq4.ext0)
                (first
                  | (go_at_call 19; refine (HT.out _ hqd).mono ?_; rintro e w2 ⟨u, rfl, hq2⟩)
                  | (go_at_call 25; refine (HTR.out _ _ _ hq2).mono ?_; rintro e w3 ⟨u2, rfl, hq3⟩)
                  | (go_at_call 24; refine (HSM.out _ _ _ hq3.ea.all hq3.eb.all).mono ?_; rintro e w4 ⟨rfl, hx4⟩; have hq4 := hq3.ext hx4))
              go_upto_region 19 with (fail)
              have hbz := hid hq4.drop
              obtain ⟨wz, hwz⟩ : ∃ wz, wz = w4 := ⟨_, rfl⟩
              subst hwz
              have hO2 := HAO
              have he2 : s2.ent ≤ 16 * (k + 1) := by omega
              have hr2' : s2.ret ≤ k + 1 := by omega
              clear hqd hq2 hq3 hq4 hx4 HAO hae HT HTR HSM HE
            case' pos.inr.inl =>
              subst k0
              have HSN := hid (fun (w1 : World) => slidesSame_any (.slice none 0 0) (.slice none 0 0) [] w1 (isSlice_nil _ _ _) (isSlice_nil _ _ _))
              have HBN := hid (fun (w1 : World) => sameB_any (.slice none 0 0) (.slice none 0 0) [] [] w1 (isSlice_nil _ _ _) (isSlice_nil _ _ _))
              rw [show decide (([] : List UInt8) = []) = true from rfl] at HBN
              have HRZ := hid (recvNil_any _ wr gp gq gm c s hP.out.pu hq)
              have HRZ2 := hid (recvRNil_any wr gn gr c s hP.out.pr hq)
              have hO2 := hO
              clear hq HAO hae HT HTR HE
              go_upto_region 19 with (first
                | (go_at_call 17; refine HRZ.out.mono ?_; rintro e w2 ⟨rfl, rfl⟩)
                | (go_at_call 26; refine HRZ2.out.mono ?_; rintro e w2 ⟨rfl, rfl⟩)
                | (go_at_call 27; refine (HBN.out _).mono ?_; rintro e w3 ⟨rfl, d3, hd3⟩; have hx3 : Ext wr w3 := (by rw [hd3]; exact ext_drewN _ _); clear hd3)
                | (go_at_call 24; refine (HSN.out _).mono ?_; rintro e wz ⟨rfl, hx4⟩))
              have hbz := hid (hP.out.ext (Ext.trans hx3 hx4))
              obtain ⟨s2, hs2⟩ : ∃ s2, s2 = s := ⟨_, rfl⟩
              subst hs2
              have he2 : s2.ent ≤ 16 * (k + 1) := by omega
              have hr2' : s2.ret ≤ k + 1 := by omega
              clear hx3 hx4 hP hO HSN HBN HRZ HRZ2
            case' pos.inr.inr.inl =>
              subst k0
              have hO2 := hid (recvS_ok hO.out HC.out.r1 hrec)
              have hrb := recvS_ent HC.out hrec
              have he2 : s2.ent ≤ 16 * (k + 1) := by omega
              have hr2' : s2.ret ≤ k + 1 := by omega
              have HRC := hid (fun (w1 : World) (h : Pd W w1 gp gq gm gn gr c s s noX noX) => pd_recv h HC.out (by omega) (by omega) m s2 hrec)
              have HRCR := hid (fun (w1 : World) (s' : Pu) (EA : World → Prop) (h : Pd W w1 gp gq gm gn gr c s' s EA noX) => pd_recvR h HC.out hO.out (by omega) (by omega) m s2 hrec)
              have HSM := hid (fun (w1 : World) (v u : Value) (h1 : IsSlice repSl w1 (all w1) v (recvTell c s s2)) (h2 : IsSlice repSl w1 (all w1) u (recvTell c s s2)) => slidesSame_any v u _ w1 h1 h2)
              have HBS := hid (fun (w1 : World) (v u : Value) (h1 : IsSlice repByte w1 (all w1) v m) (h2 : IsSlice repByte w1 (all w1) u m) => sameB_any v u m m w1 h1 h2)
              rw [show decide (m = m) = true from decide_eq_true rfl] at HBS
              generalize recvTell c s s2 = l2 at *
              clear hrec hrb HAO hae HT HTR HE
              go_upto_region 19 with (first
                | (go_at_call 17; refine (HRC.out _ hP.out).mono ?_; rintro e w2 ⟨x, rfl, hq2⟩; obtain ⟨a, b, rfl, _, _⟩ := hq2.ea)
                | (go_at_call 26; refine (HRCR.out _ _ _ hq2).mono ?_; rintro e w3 ⟨y, rfl, hq3⟩; obtain ⟨a2, b2, rfl, _, _⟩ := hq3.eb)
                | (go_at_call 27; refine (HBS.out _ _ _ hq3.ea.un.1.all hq3.eb.un.1.all).mono ?_; rintro e w4 ⟨rfl, d4, hd4⟩; have hx4 : Ext w3 w4 := (by rw [hd4]; exact ext_drewN _ _); have hq4 := hq3.ext hx4; clear hd4)
                | (go_at_call 24; refine (HSM.out _ _ _ hq4.ea.un.2.all hq4.eb.un.2.all).mono ?_; rintro e wz ⟨rfl, hx5⟩; have hq5 := hq4.ext hx5))
              have hbz := hid hq5.drop
              clear hq2 hq3 hq4 hq5 hx4 hx5 hP hO HRC HRCR HSM HBS
            case' pos.inr.inr.inr =>
              have q0 : (kind == 0) = false := by simpa using k0
              have q1 : (kind == 1) = false := by simpa using k1
              clear k0 k1
              go_upto_region 19 with (fail)
              have hbz := hP
              obtain ⟨wz, hwz⟩ : ∃ wz, wz = wr := ⟨_, rfl⟩
              subst hwz
              obtain ⟨s2, hs2⟩ : ∃ s2, s2 = s := ⟨_, rfl⟩
              subst hs2
              have hO2 := hO
              have he2 : s2.ent ≤ 16 * (k + 1) := by omega
              have hr2' : s2.ret ≤ k + 1 := by omega
              clear HAO hae HT HTR HE hP hO
            all_goals
              have hss := hO2.out.ahLen HC.out
              have HST := hid (fun (w1 : World) (he : Ext wz w1) => state_any _ w1 gp gq gm c s2 (hbz.out.ext he).pu)
              have HAH := hid (fun (w1 : World) (he : Ext wz w1) => aheadPu_any _ w1 gp gq gm c s2 (hbz.out.ext he).pu HC.out hO2.out (by omega) (by omega))
              have HKP := hid (fun (w1 : World) (he : Ext wz w1) => kept_any _ w1 gp gq gm c s2 (hbz.out.ext he).pu)
              obtain ⟨_, qv, lv, k1, k2, k3, k4⟩ := hbz.out.pr
              obtain ⟨A2, n2, c2, rfl, hn2, hc2, hrL⟩ := k4
              have hnl : s2.ah.length = n2 := hrL.1
              obtain ⟨_, _, g7, g8, g9, g10, _, _, _⟩ := prCellsAt k1
              have gq1 : wz.cell? ⟨gn, 1, none⟩ = some qv := k2.cell 1
              have hgrz := k1.lt
              have hgnz := k2.lt
              have HQV := hid k3.slice
              obtain ⟨E, hE⟩ : ∃ E : Int, E = (s2.ent : Int) := ⟨_, rfl⟩
              obtain ⟨R, hR⟩ : ∃ R : Int, R = (s2.ret : Int) := ⟨_, rfl⟩
              rw [← hE] at g9 HST
              rw [← hR] at g10 HST
              obtain ⟨KS, hKS⟩ : ∃ KS, KS = s2.ah.map (·.1) := ⟨_, rfl⟩
              rw [← hKS] at HAH
              have hkl : KS.length = n2 := by rw [hKS, List.length_map]; exact hnl
              have HKS := hid hKS
              have HKL := hid hkl
              have hn264 : n2 ≤ 64 := by omega
              have hEE : (E != E) = false := by simp
              have hRR : (R != R) = false := by simp
              have hLL : ((n2 : Int) != (n2 : Int)) = false := by simp
              have HSQ := hid (fun (w1 : World) (v u : Value) (h1 : IsSlice (repSlice repByte) w1 (all w1) v s2.q) (h2 : IsSlice (repSlice repByte) w1 (all w1) u s2.q) => sameAllB_any v u s2.q s2.q w1 h1 h2)
              rw [show decide (s2.q = s2.q) = true from decide_eq_true rfl] at HSQ
              clear hE hR hKS hkl hnl k1 k2 k3
              go_upto_region 20 with (first
                | (go_at_call 18; refine (HST.out _ (Below.refl _ _)).mono ?_; rintro e w5 ⟨rfl, hx5⟩)
                | (go_at_call 28; refine (HAH.out _ hx5).mono ?_; rintro e w6 ⟨ut, rfl, hut, hx6⟩; obtain ⟨At, ct, rfl⟩ := hut.shape; have hta := hut.any; rw [HKL.out] at hta ⊢; have hx6' := Ext.trans hx5 hx6; clear hut))
              have hbx := Blk.new w6 38 #[.int .i64 E, .int .i64 R]
              have hx7 : Ext wz (w6.alloc (.cells #[.int .i64 E, .int .i64 R] 38)) := Ext.trans hx6' (ext_alloc _ _)
              have hx67 := ext_alloc w6 (.cells #[.int .i64 E, .int .i64 R] 38)
              generalize w6.alloc (.cells #[.int .i64 E, .int .i64 R] 38) = w7 at *
              generalize w6.heap.size = gx at *
              have hgx := hbx.lt
              have HS7 := hid (fun (w1 : World) (he : Ext w7 w1) => (⟨(he.cell hgx 0).trans (hbx.cell 0), (he.cell hgx 1).trans (hbx.cell 1), ((Ext.trans hx7 he).cell hgrz 9).trans g9, ((Ext.trans hx7 he).cell hgrz 10).trans g10, ((Ext.trans hx7 he).cell hgrz 7).trans g7, ((Ext.trans hx7 he).cell hgrz 8).trans g8, ((Ext.trans hx7 he).cell hgnz 1).trans gq1⟩ :
                w1.cell? ⟨gx, 0, none⟩ = some (.int .i64 E) ∧ w1.cell? ⟨gx, 1, none⟩ = some (.int .i64 R) ∧ w1.cell? ⟨gr, 9, none⟩ = some (.int .i64 E) ∧ w1.cell? ⟨gr, 10, none⟩ = some (.int .i64 R) ∧ w1.cell? ⟨gr, 7, none⟩ = some (.pointer (some ⟨gn, 0, none⟩)) ∧ w1.cell? ⟨gr, 8, none⟩ = some (.slice A2 n2 c2) ∧ w1.cell? ⟨gn, 1, none⟩ = some qv))
              have xd : Ext w7 w7.drew := Below.drew (Below.refl _ _)
              clear g7 g8 g9 g10 gq1 hbx HST HAH
              go_region_held3 (fun w' => w'.cell? ⟨gx, 0, none⟩ = some (.int .i64 E) ∧ w'.cell? ⟨gx, 1, none⟩ = some (.int .i64 R) ∧ w'.cell? ⟨gr, 9, none⟩ = some (.int .i64 E) ∧ w'.cell? ⟨gr, 10, none⟩ = some (.int .i64 R) ∧ w'.cell? ⟨gr, 7, none⟩ = some (.pointer (some ⟨gn, 0, none⟩)) ∧ w'.cell? ⟨gr, 8, none⟩ = some (.slice A2 n2 c2) ∧ w'.cell? ⟨gn, 1, none⟩ = some qv)
                (first | with_reducible exact HS7.out _ xd | with_reducible exact HS7.out _ x8 | with_reducible exact HS7.out _ x9)
                (first
                  | (go_at_call 20; refine (HKP.out _ (Ext.trans hx7 xd)).mono ?_; rintro e w8 ⟨uk, rfl, huk, hx8⟩; have x8 := Ext.trans xd hx8)
                  | (go_at_call 21; refine (HSQ.out _ _ _ huk.any (HQV.out.ext (Ext.trans hx7 x8))).mono ?_; rintro e w9 ⟨rfl, d9, hd9⟩; have x9 : Ext w7 w9 := (by rw [hd9]; exact Ext.trans x8 (ext_drewN _ _)); clear hd9))
              all_goals
                have hw9 : Ext wz w9 := Ext.trans hx7 x9
                obtain ⟨_, _, _, _, _, i8, _⟩ := HS7.out _ x9
                have hgr9 : gr < w9.heap.size := Nat.lt_of_lt_of_le hgrz hw9.size
                have hta9 := hta.ext (Ext.trans hx67 x9)
                clear HS7 HKP HSQ hta hx67 xd x8 hx8 huk hx5 hx6 hx6'
                obtain ⟨A9, n9, c9, hv9, _, _, hrT⟩ := hta9
                injection hv9 with g1 g2 g3
                subst g1 g2 g3
                go_wp2
                go_loopw [18] (fun i wd => ∃ j : Nat, j ≤ n2 ∧ i = .int .i64 j ∧ Ext w9 wd) (fun i _ => n2 - (intOf i).toNat)
                case atStart => exact ⟨0, Nat.zero_le _, rfl, Below.refl _ _⟩
                case round =>
                  obtain ⟨j, hj, rfl, hxd⟩ := hrel
                  have hzd := Ext.trans hw9 hxd
                  by_cases hjl : j < n2
                  · obtain ⟨b2, o2, y, A'', c'', rfl, _, hy, _, m0, _⟩ := hrL.late hjl
                    obtain ⟨b3, o3, t, rfl, hb3, ht, my, _⟩ := hrT.int hjl
                    have hyk : t = y.1 := by
                      rw [HKS.out, List.getElem?_map, hy] at ht
                      simpa using ht.symm
                    subst hyk
                    have hb3' : b3 < w9.heap.size := hb3
                    have i0 := (hzd.cell (lt_of_cell' m0) _).trans m0
                    have iy := (hxd.cell hb3' _).trans my
                    have ir := (hxd.cell hgr9 8).trans i8
                    obtain ⟨yk, hyk2⟩ : ∃ yk, yk = y.1 := ⟨_, rfl⟩
                    rw [← hyk2] at i0 iy
                    have nn : (yk != yk) = false := by simp
                    have hj1 : j + 1 ≤ n2 := hjl
                    clear m0 my hy ht hyk2
                    go_wp2
                    go_quiet (fail)
                    go_wp2
                    go_roundw
                    case rel => exact ⟨j + 1, hj1, by go_num, Ext.trans hxd (ext_drewN _ _)⟩
                    case measure => simp [intOf]; omega
                  · have hbe := hid (hbz.out.ext hzd)
                    clear hbz hrT hrL i8
                    go_wp2
                    go_roundw
                    case rel => exact ⟨k + 1, s2, by omega, by go_num, he2, hr2', hbe, hO2⟩
                    case measure => simp [intOf]; omega
          · obtain rfl : k = n := by omega
            have hx := hP.out.ext0
            clear hP hO
            go_wp2_with (go_at_call 16; refine (HLV.out _).mono ?_; rintro e w8 ⟨rfl, hx8⟩)
            go_ret
            exact ⟨rfl, Ext.trans hx hx8⟩
end
end Go.Proofs.Ytjchobncmogcpaa
