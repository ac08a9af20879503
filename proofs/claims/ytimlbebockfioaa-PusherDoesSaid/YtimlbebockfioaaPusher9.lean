/- The pusher: Take. -/
import Derived.Test.YtimlbebockfioaaPusher8
namespace Go.Proofs.Ytimlbebockfioaa
open Go.RowKit

def takeP (W : Nat) (m : Int) (s : Ps) (ack : Bool) (seq : Int) (bits : Nat) : Option Ps :=
  if ack = true ∧ (nearV s.base (W + 1 : Int) seq m).2 = true ∧ (nearV s.base (W + 1 : Int) seq m).1 ≤ s.next then some (bitsS (thereS s (nearV s.base (W + 1 : Int) seq m).1.toNat) bits) else none
/-- What Take comes to. -/
def TakeRes (F : Nat → Prop) (gp gt b : Nat) (c : Cfg) (W : Nat) (w : World) (t : Option Ps) (e : Ending) (w' : World) : Prop :=
  match t with
  | none => e = .returned (.slice none 0 0) ∧ Ext w w'
  | some s1 => ∃ u, e = .returned u ∧ IsSlice repSl w' (Proofs.Ytimlbebockfioaa.fresh w w') u ((onL W s1).map (slideOf c.m s1)) ∧ PsAt F w' gp gt b c (onS W s1) ∧ Out (fun k => k = gp ∨ k = b) w w'
theorem bit_at (B j : Nat) (hB : B ≤ 18446744073709551615) (b : Bool) (h : B.testBit j = b) : (bits BinOp.and IntKind.u64 ((B : Int) / 2 ^ j) 1 == 1) = b := by
  have hd := Nat.div_le_self B (2 ^ j)
  have e2 : (B : Int) / 2 ^ j = ((B / 2 ^ j : Nat) : Int) := by rw [Int.natCast_ediv]; simp
  have h1 := u64_and_nat (B / 2 ^ j) 1 (by omega) (by omega)
  rw [Nat.and_one_is_mod] at h1
  rw [e2]
  have h2 : bits BinOp.and IntKind.u64 ((B / 2 ^ j : Nat) : Int) 1 = ((B / 2 ^ j % 2 : Nat) : Int) := h1
  rw [h2, ← h, Nat.testBit_eq_decide_div_mod_eq]
  by_cases h3 : B / 2 ^ j % 2 = 1
  · rw [h3, decide_eq_true rfl]; rfl
  · have h0 : B / 2 ^ j % 2 = 0 := by omega
    rw [h0]; rfl
theorem nearV_ge {base span seq m : Int} (h : (nearV base span seq m).2 = true) : base ≤ (nearV base span seq m).1 ∧ 0 ≤ base := by
  unfold nearV at h ⊢
  split at h
  · cases h
  · rename_i hn
    rw [if_neg hn]
    have hn' : 0 ≤ nearN base seq m := Int.emod_nonneg _ (by omega)
    exact ⟨by show base ≤ base + nearN base seq m; omega, by omega⟩
set_option maxRecDepth 100000
section
set_option maxHeartbeats 2000000 in
theorem psTakeNo_any (F : Nat → Prop) (w : World) (gp gt b : Nat) (c : Cfg) (s : Ps) (W R : Nat) (h : PsAt F w gp gt b c s) (hok : c.Ok) (hW : c.w = W) (seq bt : Int) (A : Option Addr) (n cv : Nat) :
    Calls Try.prog 18 #[.pointer (some ⟨gp, 0, none⟩), .agg #[.bool false, .int .i64 seq, .int .u64 bt, .slice A n cv]] w fun e w' => e = .returned (.slice none 0 0) ∧ Ext w w' := by
  have HI := hid (psIs_any F (w.alloc (.cells #[.bool false, .int .i64 seq, .int .u64 bt, .slice A n cv] 41)) gp gt b c s (h.ext (ext_alloc _ _)))
  clear h hok hW
  go_enter Try.func18, Try.ntmps18
  go_wp2_with (go_at_call 36; refine HI.out.mono ?_; rintro e w2 ⟨rfl, rfl⟩)
  go_ret
  exact ⟨rfl, ext_alloc _ _⟩
set_option maxHeartbeats 2000000 in
theorem psTake_any (F : Nat → Prop) (w : World) (gp gt b : Nat) (c : Cfg) (s : Ps) (W R : Nat) (h : PsAt F w gp gt b c s) (hok : c.Ok) (hW : c.w = W) (hb1 : 1 ≤ c.b) (ok : PsOk W R c.b s) (hl : s.acc.length ≤ 1000000) (seq : Int) (bt : Nat) (A : Option Addr) (n cv : Nat) (hbt : bt ≤ 18446744073709551615) :
    Calls Try.prog 18 #[.pointer (some ⟨gp, 0, none⟩), .agg #[.bool true, .int .i64 seq, (.int .u64 (bt : Int)), .slice A n cv]] w fun e w' => TakeRes F gp gt b c W w (takeP W c.m s true seq bt) e w' := by
  have HI := hid (psIs_any F (w.alloc (.cells #[.bool true, .int .i64 seq, (.int .u64 (bt : Int)), .slice A n cv] 41)) gp gt b c s (h.ext (ext_alloc _ _)))
  have hx1 := ext_alloc w (.cells #[.bool true, .int .i64 seq, (.int .u64 (bt : Int)), .slice A n cv] 41)
  have hbx := Blk.new w 41 #[.bool true, .int .i64 seq, (.int .u64 (bt : Int)), .slice A n cv]
  have h1 := h.ext hx1
  have HNR := hid (fun W1 => near_any (s.base : Int) ((W : Int) + 1) seq c.m W1)
  have hge := nearV_ge (base := s.base) (span := (W : Int) + 1) (seq := seq) (m := c.m)
  obtain ⟨TP, hTP⟩ : ∃ TP, TP = takeP W c.m s true seq bt := ⟨_, rfl⟩
  rw [← hTP]
  unfold takeP at hTP
  have hw64 := hok.w64
  have HH := hid h
  have HC := hid hok
  have HOK := hid ok
  have HL := hid hl
  have HB1 := hid hb1
  have HBT := hid hbt
  have hnl := ok.nl
  have hwp : wrap64 ((W : Int) + 1) = (W : Int) + 1 := IntWalk.wrap64_in _ (by omega)
  obtain ⟨nv, hnv⟩ : ∃ nv, nv = nearV (s.base : Int) ((W : Int) + 1) seq c.m := ⟨_, rfl⟩
  rw [← hnv] at HNR hge hTP
  obtain ⟨P, ok1⟩ := nv
  have HTP := hid hTP
  have HGE := hid hge
  clear hge hTP h hok ok hl hb1 hbt hnv
  go_enter Try.func18, Try.ntmps18
  go_upto_region 3 with (go_at_call 36; refine HI.out.mono ?_; rintro e w2 ⟨rfl, rfl⟩)
  generalize w.alloc (.cells #[.bool true, .int .i64 seq, (.int .u64 (bt : Int)), .slice A n cv] 41) = w1 at *
  have hgs : w.heap.size < w1.heap.size := hbx.lt
  generalize hgsz : w.heap.size = gs at *
  have HGS := hid hgsz
  clear hgsz HI
  obtain ⟨lv, hbk, _⟩ := h1.is
  obtain ⟨c1, c2, c5, c7, c8, c9, c10, _, _, _⟩ := psCellsAt hbk
  have b1 := hbx.cell 1
  have b2 := hbx.cell 2
  clear hbk c5 c7 c10
  rw [hW] at c1
  go_quiet ((go_at_call 45; exact q_same (HNR.out _)))
  have h2 := h1.ext (ext_drewN w1 nq)
  have hb2 := hbx.drewN nq
  have hx2 := Ext.trans hx1 (ext_drewN w1 nq)
  clear h1 hbx hx1 c1 c2 c8 c9 b1 b2
  generalize w1.drewN nq = w2 at *
  obtain ⟨lv, hbk, _⟩ := h2.is
  obtain ⟨c1, c2, c5, c7, c8, c9, c10, _, _, _⟩ := psCellsAt hbk
  clear hbk c1 c2 c5 c7 c8 c10
  by_cases hcond : ok1 = true ∧ P ≤ (s.next : Int)
  · have htp := HTP.out
    obtain ⟨rfl, hPn⟩ := hcond
    rw [if_pos ⟨trivial, rfl, hPn⟩] at htp
    have hge := HGE.out rfl
    obtain ⟨q, rfl⟩ := Int.eq_ofNat_of_zero_le (a := P) (by omega)
    simp only [Int.toNat_natCast] at htp
    have hqb : s.base ≤ q := by have := hge.1; omega
    have hqn : q ≤ s.next := by omega
    have hqm : q ≤ 1000000 := by have := HL.out; omega
    have HTP2 := hid htp
    have hdP : decide ((s.next : Int) < (q : Int)) = false := decide_eq_false (by omega)
    have hdP2 : decide (s.next < q) = false := decide_eq_false (by omega)
    have HTH := hid fun w3 (he : Ext w2 w3) => psThere_any F w3 gp gt b c s W R (h2.ext he) HOK.out HL.out q hqb hqn
    have hok3 := there_ok HOK.out HB1.out hqb hqn HL.out
    have HOK3 := hid hok3
    have HX2 := hid hx2
    have HBK := hid hb2
    have hgp2 := h2.ltp
    have hgs2 := hb2.lt
    have hgne : gs ≠ gp := by have := HH.out.ltp; have := HGS.out; omega
    have hgnb : gs ≠ b := by have := HH.out.tm.lt.2; have := HGS.out; omega
    have c9' := c9
    clear htp HTP HGE hge h2 hx2 hok3 hPn hb2 c9
    go_wp2_with (first
      | (go_at_call 46; refine (HTH.out _ (Below.refl _ _)).mono ?_; rintro e w3 ⟨rfl, hps3, hout3⟩))
    obtain ⟨N, hN⟩ : ∃ N, N = s.next - q - 1 := ⟨_, rfl⟩
    have HNN := hid hN
    have HP3 := hid hps3
    have HO3 := hid hout3
    have hb3 := HBK.out.out hout3 (fun e => e.elim hgne hgnb)
    have HB3 := hid hb3
    obtain ⟨T, hT⟩ : ∃ T, T = (thereS s q).T := ⟨_, rfl⟩
    have hthere : thereS s q = ⟨s.acc, q, s.next, T⟩ := by rw [hT]; rfl
    rw [hthere] at HP3 HOK3 HTP2
    have hwin := HOK3.out.win
    simp only at hwin
    have hN64 : N ≤ 64 := by omega
    have hNn : q + 1 + N ≤ 1000100 := by omega
    clear hps3 hout3 hN hb3 hT hthere c9'
    go_loopw [7] (fun i wr => ∃ k : Nat, k ≤ N ∧ i = .int .i64 ((q : Int) + 1 + (k : Int)) ∧ PsAt F wr gp gt b c ⟨s.acc, q, s.next, bitT T bt q k⟩ ∧ Only b w3 wr) (fun i _ => q + 1 + N - (intOf i).toNat)
    case atStart => exact ⟨0, Nat.zero_le _, by simp, HP3.out, Only.refl _ _⟩
    case round =>
      obtain ⟨k, hk, rfl, hps, hor⟩ := hrel
      obtain ⟨lv, hbk, _⟩ := hps.is
      obtain ⟨c1, c2, c5, c7, c8, c9, c10, _, _, _⟩ := psCellsAt hbk
      have hbr := HB3.out.grown hor (fun e => by injection e with e; exact hgnb e)
      have b2 := hbr.cell 2
      have HPS := hid hps
      clear hbk hbr hps c1 c2 c5 c7 c8
      by_cases hlt : k < N
      · have hd : decide ((q : Int) + 1 + (k : Int) < (s.next : Int)) = true := decide_eq_true (by have := HNN.out; omega)
        have htok := bitT_ok HOK3.out.tm bt q k
        have HCL := hid (tmClear_any wr gt b c.b _ HPS.out.tm htok.asc ((q : Int) + 1 + (k : Int)))
        have hexp : q + 1 + k - q = k + 1 := by omega
        cases hbt : bt.testBit (k + 1) with
        | true =>
          have hbit := bit_at bt (q + 1 + k - q) HBT.out true (by rw [hexp]; exact hbt)
          have HBIT := hid hbt
          clear hexp htok hbt
          go_wp2_with (go_at_call 47; refine HCL.out.mono ?_; rintro e w5 ⟨rfl, htm5, ho5⟩)
          refine ⟨⟨k + 1, by omega, by push_cast; rw [Int.add_assoc], ?_, hor.trans ho5⟩, by simp [intOf]; omega⟩
          have h9 := HPS.out.timer ho5 htm5
          unfold bitT
          rw [if_pos HBIT.out]
          rw [show ((q + (k + 1) : Nat) : Int) = (q : Int) + 1 + (k : Int) by push_cast; omega]
          exact h9
        | false =>
          have hbit := bit_at bt (q + 1 + k - q) HBT.out false (by rw [hexp]; exact hbt)
          have HBIT := hid hbt
          clear hexp htok hbt
          go_wp2_with fail
          refine ⟨⟨k + 1, by omega, by push_cast; rw [Int.add_assoc], ?_, hor⟩, by simp [intOf]; omega⟩
          unfold bitT
          rw [if_neg (by rw [HBIT.out]; simp)]
          exact HPS.out
      · obtain rfl : k = N := by omega
        have hd : decide ((q : Int) + 1 + (k : Int) < (s.next : Int)) = false := decide_eq_false (by have := HNN.out; omega)
        have hbits := bits_ok HOK3.out bt
        have hbe : bitsS ⟨s.acc, q, s.next, T⟩ bt = ⟨s.acc, q, s.next, bitT T bt q k⟩ := by rw [HNN.out]; rfl
        rw [hbe] at hbits
        have htp := HTP2.out
        rw [hbe] at htp
        have HON := hid (psOn_any F wr gp gt b c _ W R HPS.out HC.out hW hbits HL.out HB1.out)
        have HTP3 := hid htp
        clear hbits hbe htp
        go_wp2_with (go_at_call 40; refine HON.out.mono ?_; rintro e w8 ⟨u, rfl, hu, hps8, hout8⟩)
        go_ret
        have hosz : w.heap.size ≤ wr.heap.size := Nat.le_trans HX2.out.size (Nat.le_trans HO3.out.size hor.size)
        rw [HTP3.out]
        refine ⟨u, rfl, hu.sinceSz hosz, hps8, ?_⟩
        exact (((Out.of_ext HX2.out).trans HO3.out).trans (Out.of_only hor (.inr rfl))).trans hout8
  · have htp := HTP.out
    have hno : ¬ (True ∧ ok1 = true ∧ P ≤ (s.next : Int)) := fun h => hcond ⟨h.2.1, h.2.2⟩
    rw [if_neg hno] at htp
    subst htp
    cases ok1 with
    | false =>
      clear hcond hno HTP HGE
      go_wp2_with fail
      go_ret
      exact ⟨rfl, hx2⟩
    | true =>
      have hdP : decide ((s.next : Int) < P) = true := decide_eq_true (by have : ¬ P ≤ (s.next : Int) := fun h => hcond ⟨rfl, h⟩; omega)
      clear hcond hno HTP HGE
      go_wp2_with fail
      go_ret
      exact ⟨rfl, hx2⟩
end
end Go.Proofs.Ytimlbebockfioaa
