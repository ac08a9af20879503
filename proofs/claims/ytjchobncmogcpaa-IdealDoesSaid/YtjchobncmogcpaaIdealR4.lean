/- The walk of the reference's Step, go on: a message comes out. -/
import Derived.BigQuiet
import Derived.Test.YtjchobncmogcpaaIdealR3
namespace Go.Proofs.Ytjchobncmogcpaa
open Go.RowKit

set_option maxRecDepth 100000
section
set_option maxHeartbeats 2000000 in
theorem stepRRet_any (w : World) (gr base : Nat) (s : Iq) (h : RqAt w gr base s) (hok : s.Ok) (hstk : s.stuck = false) (hn9 : s.sent.length ≤ 900) (st pl : Int) (dv : Value) (m : List UInt8) (hd : IsSlice repByte w (all w) dv m) :
    Calls Try.prog 59 #[.pointer (some ⟨gr, 0, none⟩), .agg #[.int .i64 st, .int .i64 2, .int .i64 pl, dv]] w fun e w' => e = .returned (.bool (!(retS s m).stuck)) ∧ RqAt w' gr base (retS s m) ∧ LowR gr w w' := by
  obtain ⟨Ad, cd, rfl⟩ := hd.shape
  obtain ⟨dl, hdle⟩ : ∃ dl, dl = m.length := ⟨_, rfl⟩
  rw [← hdle] at hd ⊢
  have hx1 := ext_alloc w (.cells #[.int .i64 st, .int .i64 2, .int .i64 pl, .slice Ad dl cd] 119)
  have hbe := Blk.new w 119 #[.int .i64 st, .int .i64 2, .int .i64 pl, .slice Ad dl cd]
  have h1 := h.ext hx1
  have hd1 := hd.ext hx1
  have hlow1 := lowR_ext hx1 (Nat.lt_of_lt_of_le h.q h.sz)
  clear hdle
  obtain ⟨hqb, hbz, v, u, hb, hown, hu⟩ := id h1
  obtain ⟨A, c, rfl, hc1, hc2, hrow⟩ := hown.slice.form'
  have hcl := rqCells hb
  rw [hstk] at hcl
  obtain ⟨c0, c1, c2, c3, c4⟩ := hcl
  have b1 := hbe.cell 1
  have b3 := hbe.cell 3
  have HB := hid hb
  obtain ⟨n, hnn⟩ : ∃ n, n = s.sent.length := ⟨_, rfl⟩
  have HNN := hid hnn
  rw [← hnn] at hn9 hc1 hrow c2
  have hrlt := hb.lt
  have helt := hbe.lt
  obtain ⟨NS, hNS⟩ : ∃ NS, NS = nextS s m := ⟨_, rfl⟩
  have HNS := hid hNS
  have hstb : (retS s m).stuck = NS.isEmpty := by rw [hNS]; rfl
  rw [hstb]
  clear hnn hb hNS hstb
  go_enter Try.func59, Try.ntmps59
  go_wp2
  generalize (w.alloc (.cells #[.int .i64 st, .int .i64 2, .int .i64 pl, .slice Ad dl cd] 119)) = w1 at *
  go_loopw [5, 6] (fun nx i wr => ∃ k : Nat, k ≤ n ∧ i = .int .i64 k ∧ Own (repInt .i64) 3 w1.heap.size wr nx (nextK s m k) ∧ Ext w1 wr) (fun _ i _ => n - (intOf i).toNat)
  case atStart => exact ⟨0, Nat.zero_le _, rfl, own_nil _ _ _ _, Below.refl _ _⟩
  case round =>
    obtain ⟨k, hk, rfl, hnx, hxr⟩ := hrel
    have d2 := (Ext.cell hxr hrlt 2).trans c2
    have e3 := (Ext.cell hxr helt 3).trans b3
    by_cases hlt : k < n
    · obtain ⟨b, off, A1, m1, c1', x, rfl, hbx, hx, hxa, hxb, hxc, hcx⟩ := hrow.slice hlt
      have hsx : IsSlice repByte wr (all wr) (.slice A1 m1 c1') x := IsSlice.ext ⟨A1, m1, c1', rfl, hxa, hxb, hxc⟩ hxr
      have hmx := hd1.ext hxr
      have hxe : s.sent[k]? = some x := hx
      have hcx' := (Ext.cell hxr (lt_of_cell' hcx) _).trans hcx
      have hrb := reachR_is hok (p := (k : Int)) (by rw [← HNN.out]; omega)
      have rq : ∀ q, Calls Try.prog 113 #[.pointer (some ⟨gr, 0, none⟩), .int .i64 (k : Int)] (wr.drewN q) fun e w' => e = .returned (.bool (reachR s.at_ k s.lost)) ∧ wr.drewN q = w' := fun q => reaches_any (wr.drewN q) gr base s ((h1.ext hxr).ext (ext_drewN _ q)) k
      have sq : ∀ q, Calls Try.prog 27 #[.slice A1 m1 c1', .slice Ad dl cd] (wr.drewN q) fun e w' => e = .returned (.bool (decide (x = m))) ∧ ∃ z, w' = (wr.drewN q).drewN z := fun q => sameB_any _ _ x m (wr.drewN q) (hsx.ext (ext_drewN _ q)) (hmx.ext (ext_drewN _ q))
      rw [hrb] at rq
      have hnl : (nextK s m k).length ≤ k := nextK_len s m k
      have hnx1 : nextK s m (k + 1) = nextK s m k ++ (if s.sent[k]? = some m ∧ reachB s k (leastI s) = true then [(k : Int) + 1] else []) := rfl
      rw [hxe] at hnx1
      obtain ⟨rb, hrbe⟩ : ∃ rb, rb = reachB s k (leastI s) := ⟨_, rfl⟩
      rw [← hrbe] at rq hnx1
      have RQ := hid rq
      clear hx hxa hxb hxc hsx hmx hcx hrbe hxe rq hrb
      by_cases hxm : x = m
      · rw [decide_eq_true hxm] at sq
        have SQ := hid sq
        clear sq
        cases rb with
        | true =>
          rw [if_pos ⟨by rw [hxm], rfl⟩] at hnx1
          have HNX := hid hnx1
          clear hnx1 hxm
          go_wp2
          go_quiet ((first | (go_at_call 27; exact Calls.quiet_of (SQ.out _)) | (go_at_call 113; first | exact q_same (RQ.out _) | exact q_same2 (RQ.out _))))
          have hnxq := hnx.ext (ext_drewN wr nq)
          have hbq : w1.heap.size ≤ (wr.drewN nq).heap.size := Nat.le_trans hxr.size (ext_drewN wr nq).size
          go_wp2_with (at_builtin; refine wpl_app1 (r := repInt .i64) (base := w1.heap.size) (x := (k : Int) + 1) (cs := #[.int .i64 ((k : Int) + 1)]) _ _ rfl rfl Try.underlying26 info_int (by decide) hnxq rfl rfl rfl ⟨rfl, wf_small (by omega) (by omega)⟩ (by omega) (by simp only [maxLen]; omega) hbq ?_; intro v3 w3 hown3 hg3)
          refine ⟨⟨k + 1, by omega, by go_num, by rw [HNX.out]; exact hown3, Below.grown (Ext.trans hxr (ext_drewN wr nq)) hg3 hbq (fun b hb => (hnxq.lt b hb).1)⟩, ?_⟩
          simp [intOf]
          omega
        | false =>
          rw [if_neg (fun h => by cases h.2), List.append_nil] at hnx1
          have HNX := hid hnx1
          clear hnx1 hxm
          go_wp2
          go_quiet ((first | (go_at_call 27; exact Calls.quiet_of (SQ.out _)) | (go_at_call 113; first | exact q_same (RQ.out _) | exact q_same2 (RQ.out _))))
          go_wp2
          refine ⟨⟨k + 1, by omega, by go_num, by rw [HNX.out]; exact hnx.ext (ext_drewN wr nq), Ext.trans hxr (ext_drewN wr nq)⟩, ?_⟩
          simp [intOf]
          omega
      · rw [decide_eq_false hxm] at sq
        rw [if_neg (fun h => hxm (by injection h.1)), List.append_nil] at hnx1
        have SQ := hid sq
        have HNX := hid hnx1
        clear sq hnx1 hxm RQ
        go_wp2
        go_quiet ((first | (go_at_call 27; exact Calls.quiet_of (SQ.out _))))
        go_wp2
        refine ⟨⟨k + 1, by omega, by go_num, by rw [HNX.out]; exact hnx.ext (ext_drewN wr nq), Ext.trans hxr (ext_drewN wr nq)⟩, ?_⟩
        simp [intOf]
        omega
    · obtain rfl : k = n := by omega
      have hNX : nextK s m k = NS := by rw [HNS.out]; unfold nextS; rw [HNN.out]
      rw [hNX] at hnx
      obtain ⟨A5, c5, rfl, _, _, _⟩ := hnx.form
      have hbr := HB.out.ext hxr
      have k1 := hbr.frozen 1
      have k4 := hbr.frozen 4
      have d4 := (rqCells hbr).2.2.2.2
      have d1 := (rqCells hbr).2.1
      obtain ⟨q, hq⟩ : ∃ q, q = NS.length := ⟨_, rfl⟩
      have HQ := hid hq
      rw [← hq] at hnx ⊢
      clear hq hNX hbr
      go_wp2
      go_ret
      have hbz2 : ((q : Int) == 0) = NS.isEmpty := by
        have h1 := HQ.out
        cases NS with
        | nil => subst h1; rfl
        | cons y ys => simp at h1; simp; omega
      have hst2 : (retS s m).stuck = ((q : Int) == 0) := by rw [hbz2, HNS.out]; rfl
      have hset := ((HB.out.ext hxr).set_ 4 (.slice A5 q c5)).set_ 1 (.bool ((q : Int) == 0))
      have hset2 : Blk ((wr.setCell ⟨gr, 4, none⟩ (.slice A5 q c5)).setCell ⟨gr, 1, none⟩ (.bool ((q : Int) == 0))) gr 121 #[.bool (retS s m).lossy, .bool (retS s m).stuck, .slice A s.sent.length c, .int .i64 (retS s m).lost, .slice A5 q c5] := by rw [hst2]; exact hset
      have hos : Only gr wr ((wr.setCell ⟨gr, 4, none⟩ (.slice A5 q c5)).setCell ⟨gr, 1, none⟩ (.bool ((q : Int) == 0))) := ((Only.refl _ _).set_ _ _).set_ _ _
      have hown5 := (hown.ext hxr).out (X := fun b => b = gr) (Out.of_only hos rfl) (fun b hb => by omega)
      have hu1 : IsSlice (repInt .i64) wr (AtIn gr wr (.slice A s.sent.length c)) (.slice A5 q c5) NS := hnx.own.keep fun b hb => ⟨⟨⟨by have := hb.1; omega, by have := hb.1; omega⟩, hb.2, fun e => by have := (hown.lt b e).2; have := hb.1; omega⟩, fun _ => rfl⟩
      have hu2 := atIn_set (atIn_set hu1 4 (.slice A5 q c5)) 1 (.bool ((q : Int) == 0))
      refine ⟨ret_bool (by rw [← hbz2]), ⟨hqb, Nat.le_trans hbz (Nat.le_trans hxr.size hos.size), _, _, hset2, hown5, ?_⟩, Below.trans (Below.trans hlow1 (lowR_ext hxr hrlt)) (lowR_only hos (Nat.lt_of_lt_of_le hrlt hxr.size))⟩
      rw [HNS.out] at hu2
      exact hu2
end
end Go.Proofs.Ytjchobncmogcpaa
