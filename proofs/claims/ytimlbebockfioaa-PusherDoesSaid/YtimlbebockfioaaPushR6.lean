/- The pusher's reference: Take. -/
import Derived.Test.YtimlbebockfioaaPushR5
import Derived.Test.YtimlbebockfioaaPusher9
namespace Go.Proofs.Ytimlbebockfioaa
open Go.RowKit

/-- What the reference's Take comes to. -/
def TakeResR (F : Nat → Prop) (gr gt : Nat) (c : Cfg) (W : Nat) (w : World) (t : Option Ps) (e : Ending) (w' : World) : Prop :=
  match t with
  | none => e = .returned (.slice none 0 0) ∧ Ext w w'
  | some s1 => ∃ u, e = .returned u ∧ IsSlice repSl w' (fun q => Proofs.Ytimlbebockfioaa.fresh w w' q ∧ ¬ rtOwn w' gt q) u ((onL W s1).map (slideOf c.m s1)) ∧ RpAt F w' gr gt c (onS W s1) ∧ RpFr w w' gr gt
/-- How far the bits are read behind i rounds. -/
def bitN (i n : Nat) : Nat := min (i - 1) n
theorem bitN_zero (n : Nat) : bitN 0 n = 0 := by unfold bitN; omega
theorem bitN_end {n : Nat} (h : n ≤ 63) : bitN 64 n = n := by unfold bitN; omega
theorem bitN_step {T : List Tm} {bits q i n : Nat} (hi : 0 < i) (hin : i ≤ n) : bitT T bits q (bitN (i + 1) n) = if bits.testBit i = true then tdel (bitT T bits q (bitN i n)) ((q + i : Nat) : Int) else bitT T bits q (bitN i n) := by
  obtain ⟨j, rfl⟩ : ∃ j, i = j + 1 := ⟨i - 1, by omega⟩
  have e1 : bitN (j + 1 + 1) n = j + 1 := by unfold bitN; omega
  have e2 : bitN (j + 1) n = j := by unfold bitN; omega
  rw [e1, e2]
  rfl
theorem bitN_stay {i n : Nat} (h : i = 0 ∨ n < i) : bitN (i + 1) n = bitN i n := by unfold bitN; omega
theorem bits_rem (B : Nat) (i : Nat) (hB : B ≤ 18446744073709551615) (b : Bool) (h : B.testBit i = b) : ((((B / 2 ^ i : Nat) : Int).tmod 2) == 1) = b := by
  have e : ((B / 2 ^ i : Nat) : Int).tmod 2 = ((B / 2 ^ i % 2 : Nat) : Int) := by
    rw [Int.tmod_eq_emod_of_nonneg (Int.natCast_nonneg _)]
    generalize B / 2 ^ i = X
    omega
  rw [e, ← h, Nat.testBit_eq_decide_div_mod_eq]
  by_cases h3 : B / 2 ^ i % 2 = 1
  · rw [h3, decide_eq_true rfl]; rfl
  · have h0 : B / 2 ^ i % 2 = 0 := by omega
    rw [h0]; rfl
theorem bits_rem2 (B : Nat) (i : Nat) (hB : B ≤ 18446744073709551615) (b : Bool) (h : B.testBit i = b) : ((((B / 2 ^ i : Nat) : Int) % 2) == 1) = b := by
  have := bits_rem B i hB b h
  rwa [Int.tmod_eq_emod_of_nonneg (Int.natCast_nonneg _)] at this
theorem clearsT_len (T : List Tm) (a : Nat) : ∀ i, (clearsT T a i).length ≤ T.length
  | 0 => Nat.le_refl _
  | i + 1 => Nat.le_trans (tdel_len _ _) (clearsT_len T a i)
theorem bitT_len (T : List Tm) (bits q : Nat) : ∀ i, (bitT T bits q i).length ≤ T.length
  | 0 => Nat.le_refl _
  | i + 1 => by
    unfold bitT
    split
    · exact Nat.le_trans (tdel_len _ _) (bitT_len T bits q i)
    · exact bitT_len T bits q i
set_option maxRecDepth 100000
section
theorem rpTakeNo_any (w : World) (gr : Nat) (seq bt : Int) (A : Option Addr) (n cv : Nat) :
    Calls Try.prog 32 #[.pointer (some ⟨gr, 0, none⟩), .agg #[.bool false, .int .i64 seq, .int .u64 bt, .slice A n cv]] w fun e w' => e = .returned (.slice none 0 0) ∧ Ext w w' := by
  go_enter Try.func32, Try.ntmps32
  go_wp2
  go_ret
  exact ⟨rfl, ext_alloc _ _⟩
set_option maxHeartbeats 4000000 in
theorem rpTake_any (F : Nat → Prop) (w : World) (gr gt : Nat) (c : Cfg) (s : Ps) (W R : Nat) (h : RpAt F w gr gt c s) (hok : c.Ok) (hW : c.w = W) (hb1 : 1 ≤ c.b) (ok : PsOk W R c.b s) (hl : s.acc.length ≤ 1000000) (seq : Int) (bt : Nat) (A : Option Addr) (n cv : Nat) (hbt : bt ≤ 18446744073709551615) :
    Calls Try.prog 32 #[.pointer (some ⟨gr, 0, none⟩), .agg #[.bool true, .int .i64 seq, .int .u64 (bt : Int), .slice A n cv]] w fun e w' => TakeResR F gr gt c W w (takeP W c.m s true seq bt) e w' := by
  have hx1 := ext_alloc w (.cells #[.bool true, .int .i64 seq, .int .u64 (bt : Int), .slice A n cv] 41)
  have hbx := Blk.new w 41 #[.bool true, .int .i64 seq, .int .u64 (bt : Int), .slice A n cv]
  have h1 := h.ext hx1
  have HNR := hid (fun W1 => nearR_any (s.base : Int) ((W : Int) + 1) seq c.m W1)
  have hge := nearV_ge (base := s.base) (span := (W : Int) + 1) (seq := seq) (m := c.m)
  obtain ⟨TP, hTP⟩ : ∃ TP, TP = takeP W c.m s true seq bt := ⟨_, rfl⟩
  rw [← hTP]
  unfold takeP at hTP
  have hw64 := hok.w64
  have HH := hid h
  have HC := hid hok
  have HOK := hid ok
  have HL := hid hl
  have HB1 := hid hb1
  have HBT := hid hbt
  have hnl := ok.nl
  have hwp : wrap64 ((W : Int) + 1) = (W : Int) + 1 := IntWalk.wrap64_in _ (by omega)
  obtain ⟨nv, hnv⟩ : ∃ nv, nv = nearV (s.base : Int) ((W : Int) + 1) seq c.m := ⟨_, rfl⟩
  rw [← hnv] at HNR hge hTP
  obtain ⟨P, ok1⟩ := nv
  have HTP := hid hTP
  have HGE := hid hge
  clear hge hTP h hok ok hl hb1 hbt hnv
  go_enter Try.func32, Try.ntmps32
  go_upto_region 3 with (fail)
  generalize w.alloc (.cells #[.bool true, .int .i64 seq, .int .u64 (bt : Int), .slice A n cv] 41) = w1 at *
  have hgs : w.heap.size < w1.heap.size := hbx.lt
  generalize hgsz : w.heap.size = gs at *
  have HGS := hid hgsz
  clear hgsz
  obtain ⟨lv, hbk, _⟩ := h1.is
  obtain ⟨c1, c2, c5, c7, c8, c9, c10, _, _, _⟩ := rpCellsAt hbk
  have b1 := hbx.cell 1
  have b2 := hbx.cell 2
  clear hbk c5 c7 c10
  rw [hW] at c1
  go_quiet ((go_at_call 63; exact q_same (HNR.out _)))
  have h2 := h1.ext (ext_drewN w1 nq)
  have hb2 := hbx.drewN nq
  have hx2 := Ext.trans hx1 (ext_drewN w1 nq)
  clear h1 hbx hx1 c1 c2 c8 c9 b1 b2
  generalize w1.drewN nq = w2 at *
  obtain ⟨lv, hbk, _⟩ := h2.is
  obtain ⟨c1, c2, c5, c7, c8, c9, c10, _, _, _⟩ := rpCellsAt hbk
  clear hbk c1 c2 c5 c7 c10
  by_cases hcond : ok1 = true ∧ P ≤ (s.next : Int)
  · have htp := HTP.out
    obtain ⟨rfl, hPn⟩ := hcond
    rw [if_pos ⟨rfl, rfl, hPn⟩] at htp
    have hge := HGE.out rfl
    obtain ⟨q, rfl⟩ := Int.eq_ofNat_of_zero_le (a := P) (by omega)
    simp only [Int.toNat_natCast] at htp
    have hqb : s.base ≤ q := by have := hge.1; omega
    have hqn : q ≤ s.next := by omega
    have hqm : q ≤ 1000000 := by have := HL.out; omega
    have HTP2 := hid htp
    have hdP : decide ((s.next : Int) < (q : Int)) = false := decide_eq_false (by omega)
    have hdP2 : decide (s.next < q) = false := decide_eq_false (by omega)
    have hok3 := there_ok HOK.out HB1.out hqb hqn HL.out
    have HOK3 := hid hok3
    have HX2 := hid hx2
    have HBK := hid hb2
    have H2 := hid h2
    have hgs2 := hb2.lt
    obtain ⟨K, hK⟩ : ∃ K, K = q - s.base := ⟨_, rfl⟩
    have HK := hid hK
    have HQ := hid (show q = s.base + K by omega)
    have hTS : thereS s q = ⟨s.acc, q, s.next, if tlook (clearsT s.T s.base K) q = none ∧ q < s.next then tset (clearsT s.T s.base K) ⟨(q : Int), 1, 1⟩ else clearsT s.T s.base K⟩ := by rw [hK]; rfl
    have HTS := hid hTS
    have HTL := hid (HOK.out.tlen)
    have hgsx : ∀ w', RpFr w2 w' gr gt → Blk w' gs 41 #[.bool true, .int .i64 seq, .int .u64 (bt : Int), .slice A n cv] := fun w' hf => hb2.out hf.1 fun hy => by
      have e1 := HH.out.ltp
      have e2 := HGS.out
      rcases hy with e | e
      · omega
      · have := rtOwn_lt HH.out.rt (rtOwn_ext HH.out.rt hx2 e); omega
    have HGX := hid hgsx
    clear htp HTP HGE hge h2 hx2 hok3 hPn hb2 hK hTS hgsx
    go_wp2
    go_loopw [7] (fun i wr => ∃ k : Nat, k ≤ K ∧ i = .int .i64 ((s.base + k : Nat) : Int) ∧ RpAt F wr gr gt c ⟨s.acc, s.base, s.next, clearsT s.T s.base k⟩ ∧ RpFr w2 wr gr gt) (fun i _ => q - (intOf i).toNat)
    case atStart => exact ⟨0, Nat.zero_le _, rfl, H2.out, RpFr.of_ext H2.out (Below.refl _ _)⟩
    case round =>
      obtain ⟨k, hk, rfl, hps, hor⟩ := hrel
      obtain ⟨lv, hbk, _⟩ := hps.is
      obtain ⟨c1, c2, c5, c7, c8, c9, c10, f7, f8, f9⟩ := rpCellsAt hbk
      have htok := clearsT_ok HOK.out.tm s.base k
      by_cases hlt : k < K
      · have hd : decide (((s.base + k : Nat) : Int) < (q : Int)) = true := decide_eq_true (by have := HQ.out; omega)
        have hctl : (clearsT s.T s.base k).length ≤ 1000 := Nat.le_trans (clearsT_len _ _ _) (by have := HTL.out; omega)
        have HCL := hid (rtClear_any wr gt c.b _ hps.rt (by show (clearsT s.T s.base k).length ≤ 100000; omega) ((s.base + k : Nat) : Int))
        have HPS := hid hps
        clear hps hbk htok c7
        obtain ⟨i, hi⟩ : ∃ i : Int, i = ((s.base + k : Nat) : Int) := ⟨_, rfl⟩
        rw [← hi] at hd HCL ⊢
        have HI := hid hi
        have hib : 0 ≤ i ∧ i < 1000000 := by have := HQ.out; omega
        clear hi
        go_wp2_with (go_at_call 64; refine HCL.out.mono ?_; rintro e w3 ⟨rfl, htm3, _, hf3⟩)
        obtain ⟨hps3, hfr3⟩ := HPS.out.timer hf3 htm3
        go_roundw
        case rel =>
          refine ⟨k + 1, by omega, by have := HI.out; push_cast; rw [this]; go_num, ?_, hor.trans hfr3⟩
          rw [HI.out] at hps3
          exact hps3
        case measure => have := HI.out; have := HQ.out; simp [intOf]; omega
      · obtain rfl : k = K := by omega
        have hd : decide (((s.base + k : Nat) : Int) < (q : Int)) = false := decide_eq_false (by have := HQ.out; omega)
        have hHB := hbk
        have HPS := hid hps
        have HTOK := hid htok
        have HBKK := hid hbk
        obtain ⟨I, hI⟩ : ∃ I : Int, I = ((s.base + k : Nat) : Int) := ⟨_, rfl⟩
        rw [← hI] at hd ⊢
        have hctl : (clearsT s.T s.base k).length ≤ 1000 := Nat.le_trans (clearsT_len _ _ _) (by have := HTL.out; omega)
        clear hps hbk htok hI hHB c1 c2 c5 c9 c10 f7 f9
        go_upto_region 11 with (fail)
        have ho3 : Only gr wr (wr.setCell ⟨gr, 8, none⟩ (.int .i64 (q : Int))) := (Only.refl _ _).set_ _ _
        have hb3 : Blk (wr.setCell ⟨gr, 8, none⟩ (.int .i64 (q : Int))) gr 86 (psCells c lv q s.next gt) := HBKK.out.set_ 8 (.int .i64 (q : Int))
        obtain ⟨hp3, hf3, _⟩ := HPS.out.own ⟨s.acc, q, s.next, clearsT s.T s.base k⟩ rfl rfl ho3 c7 hb3
        have hfr3 := hor.trans hf3
        generalize wr.setCell ⟨gr, 8, none⟩ (.int .i64 (q : Int)) = w3 at *
        clear ho3 hf3 hor c7 c8 f8 HPS HBKK
        obtain ⟨lv3, hbk3, _⟩ := hp3.is
        obtain ⟨_, _, _, _, _, d9, d10, _, _, _⟩ := rpCellsAt hbk3
        have HAT := hid (rtAt_any w3 gt c.b _ hp3.rt (q : Int))
        have HST := hid fun w4 (he : Ext w3 w4) => rtSet_any w4 gt c.b _ (hp3.rt.ext he) (by show (clearsT s.T s.base k).length ≤ 100000; omega) (q : Int)
        have hgl3 := hp3.ltp
        have HP3 := hid hp3
        have HFR3 := hid hfr3
        have hts := HTS.out
        have htf := tfound_is HTOK.out.asc (q : Int)
        obtain ⟨T, hT⟩ : ∃ T, T = clearsT s.T s.base k := ⟨_, rfl⟩
        rw [← hT] at hts HAT HST HTOK HP3 htf hctl
        clear hp3 hfr3 hbk3 hb3 hT
        obtain ⟨tf, htfe⟩ : ∃ tf, tf = tfound T q := ⟨_, rfl⟩
        rw [← htfe] at HAT htf
        have hT2 : ∃ T2, thereS s q = ⟨s.acc, q, s.next, T2⟩ ∧ T2.length ≤ 1001 ∧ ((tf = false ∧ q < s.next ∧ T2 = tset T ⟨(q : Int), 1, 1⟩) ∨ (T2 = T ∧ (tf = true ∨ (tf = false ∧ ¬ q < s.next)))) := by
          by_cases hc : tlook T q = none ∧ q < s.next
          · refine ⟨_, hts.trans (by rw [if_pos hc]), Nat.le_trans (tset_len _ _) (by omega), .inl ⟨by rw [htf, hc.1]; rfl, hc.2, rfl⟩⟩
          · refine ⟨_, hts.trans (by rw [if_neg hc]), by omega, .inr ⟨rfl, ?_⟩⟩
            cases h0 : tlook T q with
            | none => exact .inr ⟨by rw [htf, h0]; rfl, fun h => hc ⟨h0, h⟩⟩
            | some t => exact .inl (by rw [htf, h0]; rfl)
        obtain ⟨T2, hth, hT2l, hcase⟩ := hT2
        rw [hth] at HTP2 HOK3
        have HTHX := hid hth
        clear hts htf htfe hth
        rcases hcase with ⟨rfl, hqn2, hT2⟩ | ⟨hT2, rfl | ⟨rfl, hqn2⟩⟩
        case' inl =>
          have hd2 : decide (q < s.next) = true := decide_eq_true hqn2
          go_upto_region 14 with (first
            | (go_at_call 65; refine HAT.out.mono ?_; rintro e w4 ⟨rfl, dn, hw4⟩; have hx4 : Ext w3 w4 := (by rw [hw4]; exact ext_drewN _ _); clear hw4; have m9 := (hx4.cell hgl3 9).trans d9; have m10 := (hx4.cell hgl3 10).trans d10)
            | (go_at_call 66; refine (HST.out _ hx4).mono ?_; rintro e wz ⟨rfl, htm5, _, hf5⟩))
          obtain ⟨hpz, hfz⟩ := (HP3.out.ext hx4).timer hf5 htm5
          have hfrz := (HFR3.out.trans (RpFr.of_ext HP3.out hx4)).trans hfz
          rw [← hT2] at hpz
          clear hT2 hf5 htm5 hfz hx4 m9 m10 hd2 hqn2 d9 d10
        case' inr.inl =>
          subst hT2
          go_upto_region 14 with (first
            | (go_at_call 65; refine HAT.out.mono ?_; rintro e wz ⟨rfl, dn, hw4⟩; have hx4 : Ext w3 wz := (by rw [hw4]; exact ext_drewN _ _); clear hw4; have m9 := (hx4.cell hgl3 9).trans d9; have m10 := (hx4.cell hgl3 10).trans d10))
          have hpz := HP3.out.ext hx4
          have hfrz := HFR3.out.trans (RpFr.of_ext HP3.out hx4)
          clear hx4 m9 m10 d9 d10
        case' inr.inr =>
          subst hT2
          have hd2 : decide (q < s.next) = false := decide_eq_false hqn2
          go_upto_region 14 with (first
            | (go_at_call 65; refine HAT.out.mono ?_; rintro e wz ⟨rfl, dn, hw4⟩; have hx4 : Ext w3 wz := (by rw [hw4]; exact ext_drewN _ _); clear hw4; have m9 := (hx4.cell hgl3 9).trans d9; have m10 := (hx4.cell hgl3 10).trans d10))
          have hpz := HP3.out.ext hx4
          have hfrz := HFR3.out.trans (RpFr.of_ext HP3.out hx4)
          clear hx4 m9 m10 d9 d10 hd2 hqn2
        all_goals
          have hwin := HOK3.out.win
          simp only at hwin
          obtain ⟨N, hN⟩ : ∃ N, N = s.next - q - 1 := ⟨_, rfl⟩
          have HNN := hid hN
          have hN63 : N ≤ 63 := by omega
          have HPZ := hid hpz
          have HFZ := hid hfrz
          have g2 := (HGX.out wz hfrz).cell 2
          clear HAT HST HP3 HFR3 hN hpz hfrz
          go_wp2
          go_loopw [10, 11] (fun bv i wr => ∃ j : Nat, j ≤ 64 ∧ bv = .int .u64 ((bt / 2 ^ j : Nat) : Int) ∧ i = .int .i64 j ∧ RpAt F wr gr gt c ⟨s.acc, q, s.next, bitT T2 bt q (bitN j N)⟩ ∧ RpFr w2 wr gr gt) (fun _ i _ => 64 - (intOf i).toNat)
          case atStart => exact ⟨0, by omega, by simp, rfl, by rw [bitN_zero]; exact HPZ.out, HFZ.out⟩
          case round =>
            obtain ⟨j, hj, rfl, rfl, hps, hor⟩ := hrel
            obtain ⟨lv, hbk, _⟩ := hps.is
            obtain ⟨c1, c2, c5, c7, c8, c9, c10, f7, f8, f9⟩ := rpCellsAt hbk
            have htok := bitT_ok HOK3.out.tm bt q (bitN j N)
            have hbl : (bitT T2 bt q (bitN j N)).length ≤ 1001 := Nat.le_trans (bitT_len _ _ _ _) hT2l
            have HPS := hid hps
            by_cases hlt : j < 64
            · have hbb := HBT.out
              have hb2 := bits_rem bt j hbb
              have hb3 := bits_rem2 bt j hbb
              have hdv : ((bt / 2 ^ j : Nat) : Int).tdiv 2 = ((bt / 2 ^ (j + 1) : Nat) : Int) := by
                rw [Int.tdiv_eq_ediv_of_nonneg (Int.natCast_nonneg _), Nat.pow_succ, ← Nat.div_div_eq_div_mul]
                generalize bt / 2 ^ j = X
                omega
              have hX : bt / 2 ^ j ≤ 18446744073709551615 := Nat.le_trans (Nat.div_le_self _ _) hbb
              obtain ⟨X, hXe⟩ : ∃ X, X = bt / 2 ^ j := ⟨_, rfl⟩
              obtain ⟨Y, hYe⟩ : ∃ Y, Y = bt / 2 ^ (j + 1) := ⟨_, rfl⟩
              rw [← hXe] at hX hb2 hb3 hdv ⊢
              rw [← hYe] at hdv
              have HY := hid hYe
              have hXY : (X : Int) / 2 = (Y : Int) := by rw [Int.tdiv_eq_ediv_of_nonneg (Int.natCast_nonneg _)] at hdv; exact hdv
              have HCL := hid (rtClear_any wr gt c.b _ hps.rt (by show (bitT T2 bt q (bitN j N)).length ≤ 100000; omega) ((q : Int) + (j : Int)))
              clear hps hbk hXe hYe c1 c2 c5 c7 c8 f7 f8 f9 htok
              by_cases hall : bt.testBit j = true ∧ 0 < j ∧ q + j < s.next
              · obtain ⟨t1, t2, t3⟩ := hall
                have hr := hb2 true t1
                have hr2 := hb3 true t1
                have ht2 : decide (0 < j) = true := decide_eq_true t2
                have ht3 : decide (q + j < s.next) = true := decide_eq_true t3
                have ht4 : decide ((q : Int) + (j : Int) < (s.next : Int)) = true := decide_eq_true (by omega)
                have hbs := bitN_step (T := T2) (bits := bt) (q := q) t2 (show j ≤ N by have := HNN.out; omega)
                rw [if_pos t1] at hbs
                have HBS := hid hbs
                clear hb2 hb3 t1 t2 t3 hbs
                go_wp2_with (go_at_call 64; refine HCL.out.mono ?_; rintro e w5 ⟨rfl, htm5, _, hf5⟩)
                obtain ⟨hps5, hfr5⟩ := HPS.out.timer hf5 htm5
                go_roundw
                case rel =>
                  refine ⟨j + 1, by omega, by rw [← HY.out], by go_num, ?_, hor.trans hfr5⟩
                  rw [HBS.out]
                  push_cast
                  exact hps5
                case measure => simp [intOf]; omega
              · have hst : bitT T2 bt q (bitN (j + 1) N) = bitT T2 bt q (bitN j N) := by
                  by_cases h0 : 0 < j ∧ j ≤ N
                  · rw [bitN_step h0.1 h0.2, if_neg fun ht => hall ⟨ht, h0.1, by have := HNN.out; omega⟩]
                  · rw [bitN_stay (by omega)]
                have HST := hid hst
                have hcs : bt.testBit j = false ∨ (bt.testBit j = true ∧ j = 0) ∨ (bt.testBit j = true ∧ 0 < j ∧ ¬ q + j < s.next) := by
                  cases hb : bt.testBit j with
                  | false => exact .inl rfl
                  | true =>
                    by_cases h0 : j = 0
                    · exact .inr (.inl ⟨rfl, h0⟩)
                    · exact .inr (.inr ⟨rfl, by omega, fun h => hall ⟨hb, by omega, h⟩⟩)
                clear hst hall HCL
                rcases hcs with t1 | ⟨t1, t2⟩ | ⟨t1, t2, t3⟩
                case' inl =>
                  have hr := hb2 false t1
                  have hr2 := hb3 false t1
                  clear hb2 hb3 t1
                  go_wp2_with fail
                case' inr.inl =>
                  have hr := hb2 true t1
                  have hr2 := hb3 true t1
                  have ht2 : decide (0 < j) = false := decide_eq_false (by omega)
                  have ht2' : decide ((0 : Int) < (j : Int)) = false := decide_eq_false (by omega)
                  clear hb2 hb3 t1 t2
                  go_wp2_with fail
                case' inr.inr =>
                  have hr := hb2 true t1
                  have hr2 := hb3 true t1
                  have ht2 : decide (0 < j) = true := decide_eq_true (by omega)
                  have ht2' : decide ((0 : Int) < (j : Int)) = true := decide_eq_true (by omega)
                  have ht3 : decide (q + j < s.next) = false := decide_eq_false t3
                  have ht4 : decide ((q : Int) + (j : Int) < (s.next : Int)) = false := decide_eq_false (by omega)
                  clear hb2 hb3 t1 t2 t3
                  go_wp2_with fail
                all_goals
                  go_roundw
                  case rel =>
                    refine ⟨j + 1, by omega, by rw [← HY.out], by go_num, ?_, hor⟩
                    rw [HST.out]
                    exact HPS.out
                  case measure => simp [intOf]; omega
            · obtain rfl : j = 64 := by omega
              have hbits := bits_ok HOK3.out bt
              have hbe : bitsS ⟨s.acc, q, s.next, T2⟩ bt = ⟨s.acc, q, s.next, bitT T2 bt q (bitN 64 N)⟩ := by rw [bitN_end hN63, HNN.out]; rfl
              rw [hbe] at hbits
              have htp := HTP2.out
              rw [hbe] at htp
              have HON := hid (rpOn_any F wr gr gt c _ W R HPS.out HC.out hW hbits HL.out HB1.out)
              have HTP3 := hid htp
              have HSZ := hid (Nat.le_trans HX2.out.size hor.1.size)
              clear hbits hbe htp hps hbk
              go_wp2_with (go_at_call 59; refine HON.out.mono ?_; rintro e w8 ⟨u, rfl, hu, hps8, hfr8, _⟩)
              go_ret
              rw [HTP3.out]
              have hfr := (RpFr.of_ext HH.out HX2.out).trans (hor.trans hfr8)
              exact ⟨u, rfl, hu.keep fun k hk => ⟨⟨⟨Nat.le_trans HSZ.out hk.1.1, hk.1.2⟩, hk.2⟩, fun _ => rfl⟩, hps8, hfr⟩
  · have htp := HTP.out
    have hno : ¬ (true = true ∧ (P, ok1).2 = true ∧ (P, ok1).1 ≤ (s.next : Int)) := fun h => hcond ⟨h.2.1, h.2.2⟩
    rw [if_neg hno] at htp
    subst htp
    cases ok1 with
    | false =>
      clear hcond hno HTP HGE
      go_wp2_with fail
      go_ret
      exact ⟨rfl, hx2⟩
    | true =>
      have hdP : decide ((s.next : Int) < P) = true := decide_eq_true (by have : ¬ P ≤ (s.next : Int) := fun h => hcond ⟨rfl, h⟩; omega)
      clear hcond hno HTP HGE
      go_wp2_with fail
      go_ret
      exact ⟨rfl, hx2⟩
end
end Go.Proofs.Ytimlbebockfioaa
