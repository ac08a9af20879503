/- The pusher's reference: Tick. -/
import Derived.Test.YtimlbebockfioaaPushR3
namespace Go.Proofs.Ytimlbebockfioaa
open Go.RowKit

theorem rtOwn_fwd {w w' : World} {gt : Nat} {most : Int} {T : List Tm} (h : RtAt w gt most T) (he : Ext w w') {k : Nat} (hk : rtOwn w gt k) : rtOwn w' gt k := by
  obtain ⟨v, hb, ho⟩ := h
  exact (rtOwn_is (hb.ext he) k).2 ((rtOwn_is hb k).1 hk)
set_option maxRecDepth 100000
section
set_option maxHeartbeats 2000000 in
theorem rpTick_any (F : Nat → Prop) (w : World) (gr gt : Nat) (c : Cfg) (s : Ps) (W R : Nat) (h : RpAt F w gr gt c s) (hok : c.Ok) (ok : PsOk W R c.b s) (hT : s.T.length ≤ 1000) (hb64 : c.b ≤ 64) :
    Calls Try.prog 31 #[.pointer (some ⟨gr, 0, none⟩)] w fun e w' => ∃ u, e = .returned u ∧ IsSlice repSl w' (fun q => Proofs.Ytimlbebockfioaa.fresh w w' q ∧ ¬ rtOwn w' gt q) u ((dueN s.T).map (slideOf c.m s)) ∧ RpAt F w' gr gt c ⟨s.acc, s.base, s.next, tickT c.b s.T⟩ ∧ RpFr w w' gr gt := by
  have hltp := h.ltp
  have HT := hid (rtTick_any w gt c.b s.T h.rt (by omega) hb64 ok.tm w.heap.size fun v hb k hk => rtOwn_lt h.rt ((rtOwn_is hb k).2 (.inr hk)))
  have hdue := dueN_is ok
  have hdb := dueN_in ok
  have hdl := dueN_len s.T
  obtain ⟨lv, hbk, _⟩ := h.is
  obtain ⟨_, _, _, _, _, _, c10, _, _, _⟩ := rpCellsAt hbk
  have HH := hid h
  have HC := hid hok
  have HSH := hid ok.short
  obtain ⟨D, hD⟩ : ∃ D, D = dueN s.T := ⟨_, rfl⟩
  rw [← hD] at hdue hdb hdl ⊢
  rw [hdue] at HT
  obtain ⟨n, hn⟩ : ∃ n, n = D.length := ⟨_, rfl⟩
  rw [← hn] at hdl
  have HN := hid hn
  have HDB := hid hdb
  have hnD : (natsI D).length = n := by rw [hn]; unfold natsI; simp
  have HND := hid hnD
  clear h hok ok hbk hdue hdb hD hn hnD
  go_enter Try.func31, Try.ntmps31
  go_upto_region 2 with (first
    | (go_at_call 61; refine HT.out.mono ?_; rintro e w1 ⟨du, rfl, hdu, ht1, _, hf1⟩; obtain ⟨Ad, cd, hdv⟩ := hdu.shape; rw [HND.out] at hdv; subst hdv))
  obtain ⟨hp1, hfr1⟩ := HH.out.timer hf1 ht1
  have HP1 := hid hp1
  have HFR1 := hid hfr1
  have hdu1 := hdu.any
  have hw1 : w.heap.size ≤ w1.heap.size := hfr1.1.size
  clear hp1 hfr1 hf1 ht1 HT c10 hdu
  obtain ⟨A9, n9, c9, hv9, _, hc9, hr9⟩ := hdu1
  injection hv9 with e1 e2 e3
  subst e1 e2 e3
  unfold maxLen at hc9
  go_wp2
  go_loopw [4, 5] (fun ov i wr => ∃ j : Nat, j ≤ n ∧ i = .int .i64 j ∧ OutR w1 wr gt ov ((D.take j).map (slideOf c.m s)) ∧ Ext w1 wr) (fun _ i _ => n - (intOf i).toNat)
  case atStart => exact ⟨0, Nat.zero_le _, rfl, OutR.nil _ _, Below.refl _ _⟩
  case round =>
    obtain ⟨j, hj, rfl, hout, hxr⟩ := hrel
    have hps := HP1.out.ext hxr
    by_cases hlt : j < n
    · obtain ⟨bk, off, y, rfl, hbW, hy, hcy, _⟩ := hr9.int hlt
      have hjD : j < D.length := by have := HN.out; omega
      have hpj : D[j]? = some D[j] := List.getElem?_eq_getElem hjD
      obtain ⟨p, hp⟩ : ∃ p, p = D[j] := ⟨_, rfl⟩
      rw [← hp] at hpj
      have hyp : y = (p : Int) := by
        unfold natsI at hy
        rw [List.getElem?_map, hpj] at hy
        simpa using hy.symm
      subst hyp
      obtain ⟨p1, p2⟩ := HDB.out p (List.mem_of_getElem? hpj)
      have hxp : s.acc[p]? = some s.acc[p] := List.getElem?_eq_getElem p2
      obtain ⟨x, hx⟩ : ∃ x, x = s.acc[p] := ⟨_, rfl⟩
      rw [← hx] at hxp
      have hx64 := HSH.out x (List.mem_of_getElem? hxp)
      have hsl : slideOf c.m s p = ⟨false, modV p c.m, 0, x⟩ := by
        unfold slideOf
        rw [List.getD_eq_getElem?_getD, hxp]
        rfl
      have htk := take_succ_of hpj
      have hmap : (D.take (j + 1)).map (slideOf c.m s) = (D.take j).map (slideOf c.m s) ++ [⟨false, modV p c.m, 0, x⟩] := by
        rw [htk, List.map_append, List.map_cons, List.map_nil, hsl]
      have HMAP := hid hmap
      have HSL := hid (rpSlide_any F wr gr gt c _ hps HC.out.m2 p x hxp hx64)
      have hcy' := (hxr.cell hbW _).trans hcy
      have hlen : ((D.take j).map (slideOf c.m s)).length = j := by rw [List.length_map, List.length_take]; omega
      have HLN := hid hlen
      obtain ⟨sq, hsq⟩ : ∃ sq, sq = modV p c.m := ⟨_, rfl⟩
      rw [← hsq] at HSL HMAP
      obtain ⟨LL, hLL⟩ : ∃ LL, LL = (D.take j).map (slideOf c.m s) := ⟨_, rfl⟩
      rw [← hLL] at hout HLN HMAP
      obtain ⟨G, hG1, hG2, hG3⟩ := hout
      have HG2 := hid hG2
      have HG3 := hid fun q hq => (hG2 q (hG3 q hq)).2.1
      have HPS := hid hps
      have HXR := hid hxr
      have hj1000 : j ≤ 1000 := by omega
      have hwr1 := hxr.size
      clear hsl htk hmap hpj hp hx hxp hlen hsq hLL hy hcy p1 p2 hG2 hG3 hps hjD
      go_wp2_with (first
        | (go_at_call 62; refine HSL.out.mono ?_; rintro e w3 ⟨u, rfl, hu, hx3⟩; have hrow3 := (hG1.frame hx3.size (fun q hq _ => hx3.block q hq)).mono (S' := grow G wr w3) (fun q _ hq => .inl hq); have HU := hid hu; obtain ⟨Au, cu, rfl⟩ := hu.shape; clear hu)
        | (at_builtin; refine wpl_rowF (S := grow G wr w3) (r := repSl) (x := ⟨false, sq, 0, x⟩) (cs := #[.bool false, .int .i64 sq, .int .u64 0, .slice Au x.length cu]) _ _ rfl rfl Try.underlying36 elem_sl (by decide) hrow3 rfl rfl rfl ⟨_, rfl, HU.out.keep fun q hq => ⟨⟨.inr hq, hq.2, fun e => absurd (HG3.out q e) (Nat.not_lt.2 hq.1)⟩, fun _ => rfl⟩⟩ (by rw [HLN.out]; omega) (by rw [HLN.out]; simp only [maxLen]; omega) ?_; intro v5 w5 hrow5 hg5 hsh5; obtain ⟨A5, c5, rfl⟩ := hsh5))
      have hx15 : Ext w1 w5 := hg5.ext_new (Ext.trans HXR.out hx3) fun q hq => by
        rcases hq.2 with e | e
        · exact (HG2.out q e).1
        · omega
      have hown5 : ∀ q, rtOwn w5 gt q → rtOwn wr gt q := fun q hq => rtOwn_fwd HP1.out.rt HXR.out (rtOwn_ext HP1.out.rt hx15 hq)
      have hout5 : OutR w1 w5 gt (.slice A5 (LL.length + 1) c5) ((D.take (j + 1)).map (slideOf c.m s)) := by
        rw [HMAP.out]
        exact OutR.app HG2.out HPS.out.rt hwr1 hx3.size hg5.size (by simp) hrow5 hown5
      go_roundw
      case rel => exact ⟨j + 1, by omega, by go_num, hout5, hx15⟩
      case measure => simp [intOf]; omega
    · obtain rfl : j = n := by omega
      have hD : D.take j = D := List.take_of_length_le (by have := HN.out; omega)
      rw [hD] at hout
      obtain ⟨AU, cU, hU⟩ := hout.len
      rw [show (D.map (slideOf c.m s)).length = j from by rw [List.length_map, HN.out]] at hU
      subst hU
      have hsl := hout.slice.keep (S' := fun q => Proofs.Ytimlbebockfioaa.fresh w wr q ∧ ¬ rtOwn wr gt q) fun q hq => ⟨⟨⟨Nat.le_trans hw1 hq.1.1, hq.1.2⟩, hq.2⟩, fun _ => rfl⟩
      have HEND := hid (⟨hsl, hps, HFR1.out.trans (RpFr.of_ext HP1.out hxr)⟩ : IsSlice repSl wr (fun q => Proofs.Ytimlbebockfioaa.fresh w wr q ∧ ¬ rtOwn wr gt q) (.slice AU j cU) (D.map (slideOf c.m s)) ∧ RpAt F wr gr gt c ⟨s.acc, s.base, s.next, tickT c.b s.T⟩ ∧ RpFr w wr gr gt)
      clear hout hps hsl hD
      go_wp2
      go_ret
      exact ⟨_, rfl, HEND.out⟩
end
end Go.Proofs.Ytimlbebockfioaa
