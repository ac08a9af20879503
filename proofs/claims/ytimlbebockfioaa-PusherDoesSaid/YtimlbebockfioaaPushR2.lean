/- The pusher's reference: on. -/
import Derived.Test.YtimlbebockfioaaPushR
import Derived.Test.YtimlbebockfioaaPusher6
namespace Go.Proofs.Ytimlbebockfioaa
open Go.RowKit

section
variable {F : Nat → Prop} {w w' : World} {gr gt : Nat} {c : Cfg} {s : Ps}
/-- What is none of its turns. -/
theorem RpAt.away (h : RpAt F w gr gt c s) {Y : Nat → Prop} (ho : Out Y w w') (hY : ∀ q, Y q → q ≠ gr ∧ ¬ rtOwn w gt q ∧ ¬ F q) : RpAt F w' gr gt c s ∧ ∀ k, rtOwn w' gt k → rtOwn w gt k := by
  obtain ⟨lv, h1, h2⟩ := h.is
  obtain ⟨v, hbt, hot⟩ := h.rt
  have hYt : ∀ q, Y q → q ≠ gt ∧ v.ownBlock ≠ some q := fun q hq => ⟨fun e => (hY q hq).2.1 (.inl e), fun e => (hY q hq).2.1 ((rtOwn_is hbt q).2 (.inr e))⟩
  have hbt' := hbt.out ho fun hy => (hYt gt hy).1 rfl
  have hown : ∀ k, rtOwn w' gt k → rtOwn w gt k := fun k hk => (rtOwn_is hbt k).2 ((rtOwn_is hbt' k).1 hk)
  refine ⟨⟨fun hk => h.fr (hown _ hk), fun k hk => ⟨⟨(h.fp k hk).1.1, fun hh => (h.fp k hk).1.2 (hown _ hh)⟩, Nat.lt_of_lt_of_le (h.fp k hk).2 ho.size⟩, ⟨v, hbt', ?_⟩, lv, h1.out ho fun hy => (hY gr hy).1 rfl, h2.frame ho.size fun k hk hF => ho.block k hk fun hy => (hY k hy).2.2 hF⟩, hown⟩
  obtain ⟨ys, ⟨g1, g2⟩, g3⟩ := hot
  refine ⟨ys, ⟨g1, ?_⟩, fun j hj => flat_tm _ _ _ _ _ _ (g3 j hj)⟩
  rcases g2 with g2 | ⟨g, cap, cur, q1, q2, q3, q4⟩
  · exact .inl g2
  · have hlt : g < w.heap.size := (Array.getElem?_eq_some_iff.1 q3).1
    exact .inr ⟨g, cap, cur, q1, q2, (ho.block g hlt fun hy => (hYt g hy).2 (by rw [q1]; rfl)).trans q3, q4⟩
end
theorem RowF.ownIn {α : Type} {S : Nat → Prop} {r : Rep α} {e : TypeId} {w : World} {v : Value} {xs : List α} (h : RowF S r e w v xs) (hx : 0 < xs.length) : ∀ b, v.ownBlock = some b → S b := by
  rcases h with ⟨h1, h2⟩ | ⟨A, n, rfl, h2⟩
  · exact h2
  · obtain ⟨A', n', c', hv, _, _, hrow⟩ := h2
    injection hv with e1 e2 e3
    subst e1 e2 e3
    obtain ⟨b, off, rfl, hb, _⟩ := hrow.2 (by have := hrow.1; omega)
    intro q hq
    have : b = q := by simpa [Value.ownBlock] using hq
    exact this ▸ hb.1
theorem nextOf_rp {F : Nat → Prop} {w : World} {gr gt : Nat} {c : Cfg} {s : Ps} (h : RpAt F w gr gt c s) : nextOf w gr = s.next := by
  obtain ⟨lv, h1, _⟩ := h.is
  unfold nextOf
  rw [(rpCellsAt h1).2.2.2.2.2.1]
  exact Int.toNat_natCast _
/-- What goes out lies apart. -/
def OutR (w wr : World) (gt : Nat) (ov : Value) (l : List Sl) : Prop := ∃ G : Nat → Prop, RowF G repSl 41 wr ov l ∧ (∀ q, G q → w.heap.size ≤ q ∧ q < wr.heap.size ∧ ¬ rtOwn wr gt q) ∧ ∀ b, ov.ownBlock = some b → G b
theorem OutR.nil (w : World) (gt : Nat) : OutR w w gt (.slice none 0 0) [] := ⟨fun _ => False, .inl ⟨own_nil _ _ _ _, fun b hb => by cases hb⟩, fun _ h => h.elim, fun b hb => by cases hb⟩
theorem OutR.len {w wr : World} {gt : Nat} {ov : Value} {l : List Sl} (h : OutR w wr gt ov l) : ∃ A n, ov = .slice A l.length n := by
  obtain ⟨G, h1, _⟩ := h
  obtain ⟨A, c, h2, _⟩ := h1.len
  exact ⟨A, c, h2⟩
/-- Its timers turn beside it. -/
theorem OutR.timer {w wr w' : World} {gt : Nat} {ov : Value} {l : List Sl} (h : OutR w wr gt ov l) (hf : RtFr wr w' gt) : OutR w w' gt ov l := by
  obtain ⟨G, h1, h2, h3⟩ := h
  exact ⟨G, h1.frame hf.1.size fun k hk hG => hf.1.block k hk (h2 k hG).2.2, fun q hq => ⟨(h2 q hq).1, Nat.lt_of_lt_of_le (h2 q hq).2.1 hf.1.size, fun hh => (hf.2 q hh).elim (h2 q hq).2.2 fun h => by have := (h2 q hq).2.1; omega⟩, h3⟩
/-- A cell of its owner's turns beside it. -/
theorem OutR.own {w wr w' : World} {gr gt : Nat} {ov : Value} {l : List Sl} (h : OutR w wr gt ov l) (ho : Only gr wr w') (hg : gr < w.heap.size) (hr : ∀ k, rtOwn w' gt k → rtOwn wr gt k) : OutR w w' gt ov l := by
  obtain ⟨G, h1, h2, h3⟩ := h
  exact ⟨G, h1.frame ho.size fun k hk hG => ho.block k hk fun e => by injection e with e; have := (h2 k hG).1; omega, fun q hq => ⟨(h2 q hq).1, Nat.lt_of_lt_of_le (h2 q hq).2.1 ho.size, fun hh => (h2 q hq).2.2 (hr q hh)⟩, h3⟩
theorem OutR.slice {w wr : World} {gt : Nat} {ov : Value} {l : List Sl} (h : OutR w wr gt ov l) : IsSlice repSl wr (fun q => Proofs.Ytimlbebockfioaa.fresh w wr q ∧ ¬ rtOwn wr gt q) ov l := by
  obtain ⟨G, h1, h2, _⟩ := h
  exact h1.slice.keep fun q hq => ⟨⟨⟨(h2 q hq.1).1, hq.2⟩, (h2 q hq.1).2.2⟩, fun _ => rfl⟩
theorem OutR.ext {w wr w' : World} {gt : Nat} {ov : Value} {l : List Sl} {most : Int} {T : List Tm} (h : OutR w wr gt ov l) (he : Ext wr w') (hr : RtAt wr gt most T) : OutR w w' gt ov l := by
  obtain ⟨G, h1, h2, h3⟩ := h
  exact ⟨G, h1.frame he.size fun k hk _ => he.block k hk, fun q hq => ⟨(h2 q hq).1, Nat.lt_of_lt_of_le (h2 q hq).2.1 he.size, fun hh => (h2 q hq).2.2 (rtOwn_ext hr he hh)⟩, h3⟩
theorem OutR.app {w w1 w3 w5 : World} {gt : Nat} {v : Value} {l : List Sl} {most : Int} {T : List Tm} {G : Nat → Prop} (hG : ∀ q, G q → w.heap.size ≤ q ∧ q < w1.heap.size ∧ ¬ rtOwn w1 gt q) (hr : RtAt w1 gt most T) (hw : w.heap.size ≤ w1.heap.size) (hx : w1.heap.size ≤ w3.heap.size) (hs : w3.heap.size ≤ w5.heap.size)
    (hl : 0 < l.length) (h : RowF (grow (grow G w1 w3) w3 w5) repSl 41 w5 v l) (ho : ∀ k, rtOwn w5 gt k → rtOwn w1 gt k) : OutR w w5 gt v l := by
  refine ⟨_, h, fun q hq => ?_, h.ownIn hl⟩
  rcases hq with (hq | hq) | hq
  · exact ⟨(hG q hq).1, by have := (hG q hq).2.1; omega, fun hh => (hG q hq).2.2 (ho q hh)⟩
  · exact ⟨by omega, by omega, fun hh => by have := rtOwn_lt hr (ho q hh); omega⟩
  · exact ⟨by omega, by omega, fun hh => by have := rtOwn_lt hr (ho q hh); omega⟩
/-- Appended to beside it. -/
theorem RpAt.beside {F G : Nat → Prop} {w w1 w3 w5 : World} {gr gt : Nat} {c : Cfg} {s : Ps} {v : Value} (h : RpAt F w1 gr gt c s) (hG : ∀ q, G q → w.heap.size ≤ q ∧ q < w1.heap.size ∧ ¬ rtOwn w1 gt q) (hF : ∀ q, F q → q < w.heap.size) (hg : gr < w.heap.size) (hx : Ext w1 w3) (ho : Out (fun b => v.ownBlock = some b ∧ grow G w1 w3 b) w3 w5) (hw : w.heap.size ≤ w1.heap.size) :
    RpAt F w5 gr gt c s ∧ ∀ k, rtOwn w5 gt k → rtOwn w1 gt k := by
  obtain ⟨h1, h2⟩ := (h.ext hx).away ho fun q hq => by
    rcases hq.2 with e | e
    · exact ⟨by have := (hG q e).1; omega, fun hh => (hG q e).2.2 (rtOwn_ext h.rt hx hh), fun hh => by have := hF q hh; have := (hG q e).1; omega⟩
    · exact ⟨by omega, fun hh => by have := rtOwn_lt h.rt (rtOwn_ext h.rt hx hh); omega, fun hh => by have := hF q hh; omega⟩
  exact ⟨h1, fun k hk => rtOwn_ext h.rt hx (h2 k hk)⟩
set_option maxRecDepth 100000
section
set_option maxHeartbeats 2000000 in
theorem rpOn_any (F : Nat → Prop) (w : World) (gr gt : Nat) (c : Cfg) (s : Ps) (W R : Nat) (h : RpAt F w gr gt c s) (hok : c.Ok) (hW : c.w = W) (ok : PsOk W R c.b s) (hl : s.acc.length ≤ 1000000) (hb1 : 1 ≤ c.b) :
    Calls Try.prog 59 #[.pointer (some ⟨gr, 0, none⟩)] w fun e w' => ∃ u, e = .returned u ∧ IsSlice repSl w' (fun q => Proofs.Ytimlbebockfioaa.fresh w w' q ∧ ¬ rtOwn w' gt q) u ((onL W s).map (slideOf c.m s)) ∧ RpAt F w' gr gt c (onS W s) ∧ RpFr w w' gr gt ∧ ∀ lv, w.cell? ⟨gr, 7, none⟩ = some lv → w'.cell? ⟨gr, 7, none⟩ = some lv := by
  have HH := hid h
  obtain ⟨lv0, hb0, _⟩ := h.is
  have HB0 := hid hb0
  clear hb0
  have HOK := hid ok
  have HC := hid hok
  have HL := hid hl
  have HB1 := hid hb1
  obtain ⟨C, hC⟩ : ∃ C, C = onC W s := ⟨_, rfl⟩
  have HCC := hid hC
  clear h ok hok hl hb1 hC
  go_enter Try.func59, Try.ntmps59
  go_wp2
  go_loopw [3] (fun ov wr => ∃ k : Nat, k ≤ C ∧ OutR w wr gt ov ((List.range' s.next k).map (slideOf c.m s)) ∧ RpAt F wr gr gt c ⟨s.acc, s.base, s.next + k, setsT s.T s.next k⟩ ∧ RpFr w wr gr gt ∧ wr.cell? ⟨gr, 7, none⟩ = some lv0) (fun _ wr => s.next + C - nextOf wr gr)
  case atStart => exact ⟨0, Nat.zero_le _, OutR.nil _ _, HH.out, RpFr.of_ext HH.out (Below.refl _ _), (rpCellsAt HB0.out).2.2.2.1⟩
  case round =>
    obtain ⟨k, hk, hout, hps, hfr, h70⟩ := hrel
    have hoc := onC_le HOK.out
    rw [← HCC.out] at hoc
    have hbn := HOK.out.bn
    have hal := HL.out
    have hw64 := HC.out.w64
    have hgl := HH.out.ltp
    have hTok := setsT_ok (most := c.b) HB1.out HOK.out.tm s.next k (by omega)
    have htl : (setsT s.T s.next k).length ≤ 1000 := by
      have h1 := setsT_len s.T s.next k
      have h2 := keysLen HOK.out.tm.asc HOK.out.keys
      have h3 := HOK.out.win
      omega
    have HTL := hid htl
    have HTOK := hid hTok
    have HPS := hid hps
    have HFR := hid hfr
    have HOU := hid hout
    obtain ⟨lv, hb, hrow⟩ := hps.is
    obtain ⟨A, cc, rfl, _⟩ := hrow.len
    obtain ⟨c1, c2, c5, c7, c8, c9, c10, f7, f8, f9⟩ := rpCellsAt hb
    obtain rfl : lv0 = .slice A s.acc.length cc := by rw [c7] at h70; injection h70 with h70; exact h70.symm
    have HBR := hid hb
    clear h70
    obtain ⟨L, hL⟩ : ∃ L, L = s.acc.length := ⟨_, rfl⟩
    rw [← hL] at hoc hal c7
    have HLL := hid hL
    clear hps hb hrow hfr hTok hout hL htl
    have hbW : -9223372036854775808 ≤ (s.base : Int) + (W : Int) ∧ (s.base : Int) + (W : Int) ≤ 9223372036854775807 := by omega
    by_cases hlt : k < C
    · have hk1 : s.next + k < L := by omega
      have hk2 : s.next + k < s.base + W := by omega
      have hk100 : k ≤ 1000000 := by omega
      have hnw : -9223372036854775808 ≤ (s.next : Int) + (k : Int) + 1 ∧ (s.next : Int) + (k : Int) + 1 ≤ 9223372036854775807 := by omega
      have hm : decide ((s.next : Int) + (k : Int) < (L : Int)) = true := decide_eq_true (by exact_mod_cast hk1)
      have hm2 : decide ((s.next : Int) + (k : Int) < (s.base : Int) + (W : Int)) = true := decide_eq_true (by exact_mod_cast hk2)
      have hm3 : decide (s.next + k < L) = true := decide_eq_true hk1
      have hm4 : decide (s.next + k < s.base + W) = true := decide_eq_true hk2
      have hwr : wrap64 ((s.base : Int) + (W : Int)) = (s.base : Int) + (W : Int) := IntWalk.wrap64_in _ hbW
      have hwn : wrap64 ((s.next : Int) + (k : Int) + 1) = ((s.next + (k + 1) : Nat) : Int) := (IntWalk.wrap64_in _ hnw).trans (by push_cast; rw [Int.add_assoc])
      have HWN := hid hwn
      have HK1 := hid hk1
      clear hoc hbn hal hw64 hk1 hk2 hnw hwn hbW
      have hpL : s.next + k < s.acc.length := by have := HLL.out; have := HK1.out; omega
      have hxp : s.acc[s.next + k]? = some s.acc[s.next + k] := List.getElem?_eq_getElem hpL
      obtain ⟨x, hx⟩ : ∃ x, x = s.acc[s.next + k] := ⟨_, rfl⟩
      rw [← hx] at hxp
      have hx64 := HOK.out.short x (List.mem_of_getElem? hxp)
      have hsl : slideOf c.m s (s.next + k) = ⟨false, modV ((s.next + k : Nat) : Int) c.m, 0, x⟩ := by
        unfold slideOf
        rw [List.getD_eq_getElem?_getD, hxp]
        rfl
      have hmap : (List.range' s.next (k + 1)).map (slideOf c.m s) = (List.range' s.next k).map (slideOf c.m s) ++ [⟨false, modV ((s.next + k : Nat) : Int) c.m, 0, x⟩] := by
        rw [List.range'_concat, List.map_append, List.map_cons, List.map_nil, Nat.one_mul, hsl]
      have HSL := hid fun W1 (he : Ext wr W1) => rpSlide_any F W1 gr gt c _ (HPS.out.ext he) HC.out.m2 (s.next + k) x hxp hx64
      obtain ⟨sq, hsq⟩ : ∃ sq, sq = modV ((s.next + k : Nat) : Int) c.m := ⟨_, rfl⟩
      rw [← hsq] at HSL hmap
      rw [show ((s.next + k : Nat) : Int) = (s.next : Int) + (k : Int) by push_cast; rfl] at HSL
      have HMAP := hid hmap
      have hln : ((List.range' s.next k).map (slideOf c.m s)).length = k := by simp
      have HLN := hid hln
      obtain ⟨LL, hLL⟩ : ∃ LL, LL = (List.range' s.next k).map (slideOf c.m s) := ⟨_, rfl⟩
      rw [← hLL] at HMAP HLN HOU
      clear hsl hmap hx hxp hsq hLL hln hpL hx64
      go_wp2
      go_quiet (fail)
      have hx1 : Ext wr (wr.drewN nq) := ext_drewN _ _
      have hps1 := HPS.out.ext hx1
      obtain ⟨G, hG1, hG2, hG3⟩ := HOU.out.ext hx1 HPS.out.rt
      have HG3 := hid fun q hq => (hG2 q (hG3 q hq)).2.1
      have HSL1 := hid (HSL.out _ hx1)
      have HG2 := hid hG2
      have HPS1 := hid hps1
      have hwr0 : w.heap.size ≤ wr.heap.size := HFR.out.1.size
      have hwz : w.heap.size ≤ (wr.drewN nq).heap.size := Nat.le_trans hwr0 hx1.size
      clear hG2 hG3 hps1
      generalize wr.drewN nq = w1 at *
      obtain ⟨lv1, hb1', hrow1⟩ := HPS1.out.is
      obtain ⟨_, _, _, _, _, d9, _, _, _, _⟩ := rpCellsAt hb1'
      clear c1 c2 c5 c7 c8 c9 c10 f7 f8 f9 hb1' hrow1 hm hm2 hm3 hm4
      go_upto_region 4 with (first
        | (go_at_call 62; refine HSL1.out.mono ?_; rintro e w3 ⟨u, rfl, hu, hx3⟩; have hrow3 := (hG1.frame hx3.size (fun q hq _ => hx3.block q hq)).mono (S' := grow G w1 w3) (fun q _ hq => .inl hq); have HU := hid hu; obtain ⟨Au, cu, rfl⟩ := hu.shape; clear hu)
        | (at_builtin; refine wpl_rowF (S := grow G w1 w3) (r := repSl) (x := ⟨false, sq, 0, x⟩) (cs := #[.bool false, .int .i64 sq, .int .u64 0, .slice Au x.length cu]) _ _ rfl rfl Try.underlying36 elem_sl (by decide) hrow3 rfl rfl rfl ⟨_, rfl, HU.out.keep fun q hq => ⟨⟨.inr hq, hq.2, fun e => absurd (HG3.out q e) (Nat.not_lt.2 hq.1)⟩, fun _ => rfl⟩⟩ (by rw [HLN.out]; omega) (by rw [HLN.out]; simp only [maxLen]; omega) ?_; intro v5 w5 hrow5 hg5 hsh5; obtain ⟨A5, c5, rfl⟩ := hsh5))
      obtain ⟨hps5, hown5⟩ := HPS1.out.beside (w := w) HG2.out (fun q hq => (HH.out.fp q hq).2) HH.out.ltp hx3 hg5 hwz
      have hout5 : OutR w w5 gt (.slice A5 (LL.length + 1) c5) ((List.range' s.next (k + 1)).map (slideOf c.m s)) := by rw [HMAP.out]; exact OutR.app HG2.out HPS1.out.rt hwz hx3.size hg5.size (by simp) hrow5 hown5
      have hfr5 : RpFr w w5 gr gt := ⟨((HFR.out.1.then hx1).then hx3).trans2 hg5 fun q hq hy => by
        rcases hy.2 with e | e
        · have := (HG2.out q e).1; omega
        · omega, fun q hq => HFR.out.2 q (rtOwn_ext HPS.out.rt hx1 (hown5 q hq))⟩
      have HB5 := hid (((HBR.out.ext hx1).ext hx3).out hg5 (fun hy => by
        have hgg := HH.out.ltp
        rcases hy.2 with e | e
        · have := (HG2.out gr e).1; omega
        · omega))
      have HPS5 := hid hps5
      have HFR5 := hid hfr5
      have HOU5 := hid hout5
      have hx35 := Nat.le_trans hx3.size hg5.size
      clear hps5 hown5 hout5 hfr5 hrow3 hrow5 hg5 hG1 HG3 HU hx3 d9
      refine still_tailT 8 (by kernel_rfl) (by kernel_rfl) ?_
      intro w6 hw6
      have hx6 : Ext w5 w6 := by rw [hw6]; exact ext_drewN _ 1
      clear hw6
      have hps6 := HPS5.out.ext hx6
      have HPS6 := hid hps6
      have HX6 := hid hx6
      have HOU6 := hid (HOU5.out.ext hx6 HPS5.out.rt)
      obtain ⟨lv6, hb6, _⟩ := hps6.is
      obtain ⟨_, _, _, _, _, d9, d10, _, _, y9⟩ := rpCellsAt hb6
      clear hb6 hps6 hx6
      simp only [List.take_succ_cons, List.take_zero, List.drop_succ_cons, List.drop_zero]
      repeat still_step
      refine wpStill_nil ?_
      have HSET := hid (rtSet_any w6 gt c.b _ HPS6.out.rt (by show (setsT s.T s.next k).length ≤ 100000; have := HTL.out; omega) ((s.next : Int) + (k : Int)))
      go_upto_region 5 with (go_at_call 66; refine HSET.out.mono ?_; rintro e w7 ⟨rfl, htm7, _, hf7⟩)
      obtain ⟨hps7, hfr7⟩ := HPS6.out.timer hf7 htm7
      have HB57 := hid ((HB5.out.ext HX6.out).out hf7.1 HPS6.out.fr)
      have HPS7 := hid hps7
      have HFR7 := hid (HFR5.out.trans ((RpFr.of_ext HPS5.out HX6.out).trans hfr7))
      have HOU7 := hid (HOU6.out.timer hf7)
      obtain ⟨lv7, hb7, _⟩ := hps7.is
      have HB7 := hid hb7
      obtain ⟨_, _, _, g7, _, g9, _, _, _, z9⟩ := rpCellsAt hb7
      clear hb7 hps7 hfr7 hf7 htm7 d9 d10 y9
      go_wp2
      go_roundw
      case rel =>
        have ho8 : Only gr w7 (w7.setCell ⟨gr, 9, none⟩ (.int .i64 (wrap64 ((s.next : Int) + (k : Int) + 1)))) := (Only.refl _ _).set_ _ _
        have hb8 : Blk (w7.setCell ⟨gr, 9, none⟩ (.int .i64 (wrap64 ((s.next : Int) + (k : Int) + 1)))) gr 86 (psCells c lv7 s.base (s.next + (k + 1)) gt) := by
          have := HB7.out.set_ 9 (.int .i64 (wrap64 ((s.next : Int) + (k : Int) + 1)))
          rw [HWN.out] at this ⊢
          exact this
        obtain ⟨hpsN, hfrN, hownN⟩ := HPS7.out.own ⟨s.acc, s.base, s.next + (k + 1), setsT s.T s.next (k + 1)⟩ rfl rfl ho8 g7 hb8
        exact ⟨k + 1, by omega, HOU7.out.own ho8 HH.out.ltp hownN, hpsN, HFR7.out.trans hfrN, by rw [hb8.cell 7]; have h57 := (rpCellsAt HB57.out).2.2.2.1; rw [g7] at h57; exact h57⟩
      case measure =>
        have ho8 : Only gr w7 (w7.setCell ⟨gr, 9, none⟩ (.int .i64 (wrap64 ((s.next : Int) + (k : Int) + 1)))) := (Only.refl _ _).set_ _ _
        have hb8 : Blk (w7.setCell ⟨gr, 9, none⟩ (.int .i64 (wrap64 ((s.next : Int) + (k : Int) + 1)))) gr 86 (psCells c lv7 s.base (s.next + (k + 1)) gt) := by
          have := HB7.out.set_ 9 (.int .i64 (wrap64 ((s.next : Int) + (k : Int) + 1)))
          rw [HWN.out] at this ⊢
          exact this
        obtain ⟨hpsN, _, _⟩ := HPS7.out.own ⟨s.acc, s.base, s.next + (k + 1), setsT s.T s.next (k + 1)⟩ rfl rfl ho8 g7 hb8
        rw [nextOf_rp HPS.out, nextOf_rp hpsN]
        show s.next + C - (s.next + (k + 1)) < s.next + C - (s.next + k)
        omega
    · obtain rfl : k = C := by omega
      have hend : (decide (s.next + k < L) = false ∧ decide ((s.next : Int) + (k : Int) < (L : Int)) = false) ∨ (decide (s.next + k < L) = true ∧ decide ((s.next : Int) + (k : Int) < (L : Int)) = true ∧ decide (s.next + k < s.base + W) = false ∧ decide ((s.next : Int) + (k : Int) < (s.base : Int) + (W : Int)) = false) := by
        have h1 := HCC.out
        unfold onC at h1
        have h2 := HLL.out
        by_cases hlt : s.next + k < L
        · have hn : ¬ s.next + k < s.base + W := by omega
          exact .inr ⟨decide_eq_true hlt, decide_eq_true (by exact_mod_cast hlt), decide_eq_false hn, decide_eq_false (by exact_mod_cast hn)⟩
        · exact .inl ⟨decide_eq_false hlt, decide_eq_false (by exact_mod_cast hlt)⟩
      have hk64 : k ≤ 64 := by have h1 := HCC.out; unfold onC at h1; omega
      have hk1 : s.next ≤ 1000000 := by omega
      have HEND := hid (fun w' (he : Ext wr w') => (⟨(HOU.out.ext he HPS.out.rt).slice, HPS.out.ext he, HFR.out.trans (RpFr.of_ext HPS.out he), fun lv h => by
        have e1 : w.cell? ⟨gr, 7, none⟩ = _ := HB0.out.cell 7
        rw [e1] at h
        rw [← h]
        exact (HBR.out.ext he).cell 7⟩ : IsSlice repSl w' (fun q => Proofs.Ytimlbebockfioaa.fresh w w' q ∧ ¬ rtOwn w' gt q) u3 ((List.range' s.next k).map (slideOf c.m s)) ∧ RpAt F w' gr gt c ⟨s.acc, s.base, s.next + k, setsT s.T s.next k⟩ ∧ RpFr w w' gr gt ∧ ∀ lv, w.cell? ⟨gr, 7, none⟩ = some lv → w'.cell? ⟨gr, 7, none⟩ = some lv))
      obtain ⟨AU, cU, hU⟩ := HOU.out.len
      rw [show ((List.range' s.next k).map (slideOf c.m s)).length = k from by simp] at hU
      subst hU
      have hwr : wrap64 ((s.base : Int) + (W : Int)) = (s.base : Int) + (W : Int) := IntWalk.wrap64_in _ hbW
      clear hoc hbn hal hw64 hbW hlt HTL
      rcases hend with ⟨m1, m2⟩ | ⟨m1, m2, m3, m4⟩
      all_goals
        go_wp2
        go_quiet (fail)
        go_wp2
        go_ret
        have h9 := HEND.out _ (ext_drewN wr nq)
        unfold onL onS
        rw [← HCC.out]
        exact ⟨_, rfl, h9⟩
end
end Go.Proofs.Ytimlbebockfioaa
