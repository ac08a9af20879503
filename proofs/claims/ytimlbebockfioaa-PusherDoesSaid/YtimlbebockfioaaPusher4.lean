/- The pusher: on. -/
import Derived.Test.YtimlbebockfioaaPusher3
namespace Go.Proofs.Ytimlbebockfioaa
open Go.RowKit

theorem Own.only3 {α : Type} {r : Rep α} {e base} {w w' : World} {v} {xs : List α} {g : Nat} (h : Own r e base w v xs) (ho : Only g w w') (hg : g < base) : Own r e base w' v xs := by
  refine h.keep ho ?_ (.inr fun b hb e => by injection e with e; have := hb.1; omega)
  cases hv : v.ownBlock
  · exact .inl rfl
  · rename_i k
    exact .inr fun e => by injection e with e; have := (h.lt k hv).1; omega
def nextOf (w : World) (gp : Nat) : Nat := match w.cell? ⟨gp, 9, none⟩ with
  | some (.int _ x) => x.toNat
  | _ => 0
theorem nextOf_ps {F : Nat → Prop} {w : World} {gp gt b : Nat} {c : Cfg} {s : Ps} (h : PsAt F w gp gt b c s) : nextOf w gp = s.next := by
  obtain ⟨lv, h1, _⟩ := h.is
  unfold nextOf
  rw [(psCellsAt h1).2.2.2.2.2.1]
  exact Int.toNat_natCast _
set_option maxRecDepth 100000
section
set_option maxHeartbeats 2000000 in
theorem psOn_any (F : Nat → Prop) (w : World) (gp gt b : Nat) (c : Cfg) (s : Ps) (W R : Nat) (h : PsAt F w gp gt b c s) (hok : c.Ok) (hW : c.w = W) (ok : PsOk W R c.b s) (hl : s.acc.length ≤ 1000000) (hb1 : 1 ≤ c.b) :
    Calls Try.prog 40 #[.pointer (some ⟨gp, 0, none⟩)] w fun e w' => ∃ u, e = .returned u ∧ IsSlice repSl w' (fresh w w') u ((onL W s).map (slideOf c.m s)) ∧ PsAt F w' gp gt b c (onS W s) ∧ Out (fun q => q = gp ∨ q = b) w w' := by
  have HH := hid h
  have HOK := hid ok
  have HC := hid hok
  have HL := hid hl
  have HB1 := hid hb1
  obtain ⟨C, hC⟩ : ∃ C, C = onC W s := ⟨_, rfl⟩
  have HCC := hid hC
  clear h ok hok hl hb1 hC
  go_enter Try.func40, Try.ntmps40
  go_wp2
  go_loopw [3] (fun ov wr => ∃ k : Nat, k ≤ C ∧ Own (repInt .i64) 3 w.heap.size wr ov (natsI (List.range' s.next k)) ∧ PsAt F wr gp gt b c ⟨s.acc, s.base, s.next + k, setsT s.T s.next k⟩ ∧ Out (fun q => q = gp ∨ q = b) w wr) (fun _ wr => s.next + C - nextOf wr gp)
  case atStart => exact ⟨0, Nat.zero_le _, own_nil _ _ _ _, HH.out, Out.refl _ _⟩
  case round =>
    obtain ⟨k, hk, hown, hps, hfr⟩ := hrel
    have hsz := hfr.size
    have hoc := onC_le HOK.out
    rw [← HCC.out] at hoc
    have hbn := HOK.out.bn
    have hal := HL.out
    have hw64 := HC.out.w64
    have hTok := setsT_ok (most := c.b) HB1.out HOK.out.tm s.next k (by omega)
    have hfp : ∀ q, F q ∨ q = gp ∨ q = gt ∨ q = b → q < w.heap.size := by
      rintro q (hq | rfl | rfl | rfl)
      · exact (HH.out.fp q hq).2
      · exact HH.out.ltp
      · exact HH.out.tm.lt.1
      · exact HH.out.tm.lt.2
    have HFP := hid hfp
    have HTOK := hid hTok
    have HDR := hid fun n => psAccepted_any F (wr.drewN n) gp gt b c ⟨s.acc, s.base, s.next + k, setsT s.T s.next k⟩ (hps.ext (ext_drewN _ n)) (by show s.base ≤ s.acc.length; omega) HL.out
    have HPS := hid hps
    have HFR := hid hfr
    have HSZ := hid hsz
    obtain ⟨lv, hb, hrow⟩ := hps.is
    obtain ⟨c1, c2, c5, c7, c8, c9, c10, f7, f8, f9⟩ := psCellsAt hb
    have hwr : wrap64 ((s.base : Int) + (W : Int)) = (s.base : Int) + (W : Int) := IntWalk.wrap64_in _ (by omega)
    clear hps hb hrow hfr hsz hTok hfp
    by_cases hlt : k < C
    · have hm : decide ((s.next : Int) + (k : Int) < min (s.acc.length : Int) ((s.base : Int) + (W : Int))) = true := decide_eq_true (by have h1 := HCC.out; unfold onC at h1; omega)
      have hm' : decide ((s.next : Int) + (k : Int) < min (s.acc.length : Int) (wrap64 ((s.base : Int) + (W : Int)))) = true := by rw [hwr]; exact hm
      have hwn : wrap64 ((s.next : Int) + (k : Int) + 1) = ((s.next + (k + 1) : Nat) : Int) := (IntWalk.wrap64_in _ (by omega)).trans (by omega)
      have HWN := hid hwn
      have hwfn : (Lit.int .i64 ((s.next : Int) + (k : Int))).wf = true := WalkArith.wf_i64 ⟨by omega, by omega⟩
      have HWF := hid hwfn
      have hlen : (natsI (List.range' s.next k)).length = k := by simp [natsI]
      have HLEN := hid hlen
      have hk100 : k ≤ 1000000 := by omega
      have happ : natsI (List.range' s.next (k + 1)) = natsI (List.range' s.next k) ++ [(s.next : Int) + (k : Int)] := by
        unfold natsI
        rw [List.range'_concat, List.map_append]
        simp
      have HAP := hid happ
      have HHB := hid hoc
      clear hm hwr hwn hwfn hlen happ hoc hbn hal hw64
      go_wp2
      go_quiet ((go_at_call 37; first | exact Calls.quiet_of (HDR.out _) | exact q_drew2 (HDR.out _)))
      have hown0 := hown.ext (ext_drewN wr nq)
      have hsz0 := HSZ.out
      go_upto_region 4 with (at_builtin; refine wpl_app1 (r := repInt .i64) (base := w.heap.size) (x := (s.next : Int) + (k : Int)) (cs := #[.int .i64 ((s.next : Int) + (k : Int))]) _ _ rfl rfl Try.underlying44 info_intM (by decide) hown0 rfl rfl rfl ⟨rfl, HWF.out⟩ (by rw [HLEN.out]; omega) (by rw [HLEN.out]; simp only [maxLen]; omega) (by simpa using hsz0) ?_; intro v5 w5 hown5 hg5)
      have hrow5 : ∀ q, u3.ownBlock = some q → q ≠ gp ∧ q ≠ gt ∧ q ≠ b ∧ ¬ F q := fun q hq => by
        have h1 := (hown0.lt q hq).1
        refine ⟨fun e => ?_, fun e => ?_, fun e => ?_, fun e => ?_⟩
        · have := HFP.out q (.inr (.inl e)); omega
        · have := HFP.out q (.inr (.inr (.inl e))); omega
        · have := HFP.out q (.inr (.inr (.inr e))); omega
        · have := HFP.out q (.inl e); omega
      have hps5 := (HPS.out.ext (ext_drewN wr nq)).other hg5 hrow5
      have hfr5 : Out (fun q => q = gp ∨ q = b) w w5 := by
        have h0 := HFR.out.then (ext_drewN wr nq)
        refine ⟨hg5.os.trans h0.os, hg5.tape.trans h0.tape, hg5.output.trans h0.output, Nat.le_trans h0.size hg5.size, fun q hq hn => ?_⟩
        rw [hg5.block q (Nat.lt_of_lt_of_le hq h0.size) (fun e => by have := (hown0.lt q e.symm).1; omega)]
        exact h0.block q hq hn
      have hsz5 : w.heap.size ≤ w5.heap.size := Nat.le_trans (by simpa using hsz0) hg5.size
      rw [← HAP.out] at hown5
      have HOWN5 := hid hown5
      have HPS5 := hid hps5
      have HFR5 := hid hfr5
      have HSZ5 := hid hsz5
      clear hown5 hps5 hfr5 hsz5 hg5 hrow5 hown0 hsz0 c1 c2 c5 c7 c8 c9 c10 f7 f8 f9 hm'
      refine still_tailT 8 (by kernel_rfl) (by kernel_rfl) ?_
      intro w6 hw6
      have hx6 : Ext w5 w6 := by rw [hw6]; exact ext_drewN _ 1
      clear hw6
      have hps6 := HPS5.out.ext hx6
      have HPS6 := hid hps6
      have HX6 := hid hx6
      obtain ⟨lv6, hb6, _⟩ := hps6.is
      obtain ⟨_, _, _, _, _, d9, d10, _, _, y9⟩ := psCellsAt hb6
      clear hb6 hps6 hx6
      simp only [List.take_succ_cons, List.take_zero, List.drop_succ_cons, List.drop_zero]
      repeat still_step
      refine wpStill_nil ?_
      have HSET := hid (tmSet_any w6 gt b c.b _ HPS6.out.tm HTOK.out.asc ((s.next : Int) + (k : Int)))
      go_upto_region 5 with (go_at_call 69; refine HSET.out.mono ?_; rintro e w7 ⟨rfl, htm7, ho7⟩)
      have hps7 := HPS6.out.timer ho7 htm7
      have hfr7 : Out (fun q => q = gp ∨ q = b) w w7 := (HFR5.out.then HX6.out).trans (Out.of_only ho7 (.inr rfl))
      have hsz7 : w.heap.size ≤ w7.heap.size := Nat.le_trans HSZ5.out (Nat.le_trans HX6.out.size ho7.size)
      have hown7 := Own.only3 (Own.ext HOWN5.out HX6.out) ho7 (HFP.out b (.inr (.inr (.inr rfl))))
      have HPS7 := hid hps7
      have HFR7 := hid hfr7
      have HSZ7 := hid hsz7
      have HOWN7 := hid hown7
      obtain ⟨lv7, hb7, _⟩ := hps7.is
      obtain ⟨_, _, _, _, _, g9, _, _, _, z9⟩ := psCellsAt hb7
      clear hb7 hps7 hfr7 hsz7 hown7 ho7 htm7 d9 d10 y9
      go_wp2
      go_roundw
      case rel =>
        have hpsN := HPS7.out.next (s.next + (k + 1)) _ HWN.out
        have ho8 : Only gp w7 (w7.setCell ⟨gp, 9, none⟩ (.int .i64 (wrap64 ((s.next : Int) + (k : Int) + 1)))) := (Only.refl _ _).set_ _ _
        refine ⟨k + 1, by omega, Own.only3 HOWN7.out ho8 (HFP.out gp (.inr (.inl rfl))), hpsN, HFR7.out.trans (Out.of_only ho8 (.inl rfl))⟩
      case measure =>
        rw [nextOf_ps HPS.out, nextOf_ps (HPS7.out.next (s.next + (k + 1)) _ HWN.out)]
        show s.next + C - (s.next + (k + 1)) < s.next + C - (s.next + k)
        omega
    · obtain rfl : k = C := by omega
      have hm : decide ((s.next : Int) + (k : Int) < min (s.acc.length : Int) ((s.base : Int) + (W : Int))) = false := decide_eq_false (by have h1 := HCC.out; unfold onC at h1; omega)
      have hm' : decide ((s.next : Int) + (k : Int) < min (s.acc.length : Int) (wrap64 ((s.base : Int) + (W : Int)))) = false := by rw [hwr]; exact hm
      have hk64 : k ≤ 64 := by have h1 := HCC.out; unfold onC at h1; have := HOK.out.bn; omega
      have HK := hid hk64
      have HHB := hid hoc
      clear hm hwr hoc hbn hal hw64 hk64
      go_wp2
      go_quiet ((go_at_call 37; first | exact Calls.quiet_of (HDR.out _) | exact q_drew2 (HDR.out _)))
      have HPQ := hid (HPS.out.ext (ext_drewN wr nq))
      have HSENT := hid (psSent_any F (wr.drewN nq) gp gt b c _ HPQ.out (by have := HC.out.m2; omega) (List.range' s.next k) (fun p hp => by
        have h1 := List.mem_range'_1.1 hp
        have h2 := HHB.out
        have h3 := HOK.out.bn
        exact ⟨by show s.base ≤ p; omega, by show p < s.acc.length; omega⟩) HL.out HOK.out.short (by have := HK.out; simp; omega) u3 (Own.slice (Own.ext hown (ext_drewN wr nq))))
      go_wp2_with (go_at_call 43; refine HSENT.out.mono ?_; rintro e w8 ⟨u, rfl, hu, hx8⟩)
      go_ret
      have hx9 := Ext.trans (ext_drewN wr nq) hx8
      have h7 := HSZ.out
      have h8 := (ext_drewN wr nq).size
      refine ⟨u, rfl, ?_, ?_, HFR.out.then hx9⟩
      · unfold onL
        rw [← HCC.out]
        exact hu.keep fun q hq => ⟨⟨Nat.le_trans h7 (Nat.le_trans h8 hq.1), hq.2⟩, fun _ => rfl⟩
      · have h9 := HPQ.out.ext hx8
        unfold onS
        rw [← HCC.out]
        exact h9
end
end Go.Proofs.Ytimlbebockfioaa
