/- The pusher's reference: Send. -/
import Derived.Test.YtimlbebockfioaaPushR4
namespace Go.Proofs.Ytimlbebockfioaa
open Go.RowKit

/-- A message is taken on. -/
theorem RpAt.send {F : Nat → Prop} {w w1 w3 w4 : World} {gr gt : Nat} {c : Cfg} {s : Ps} {v u4 : Value} {x : List UInt8} (h : RpAt F w gr gt c s) (x01 : Ext w w1) (x13 : Ext w1 w3) (hg4 : Out (fun q => v.ownBlock = some q ∧ grow F w1 w3 q) w3 w4)
    (hrow4 : RowF (grow (grow F w1 w3) w3 w4) (repSlice repByte) 39 w4 u4 (s.acc ++ [x])) (hb4 : Blk w4 gr 86 (psCells c v s.base s.next gt)) :
    RpAt (grow F w (w4.setCell ⟨gr, 7, none⟩ u4)) (w4.setCell ⟨gr, 7, none⟩ u4) gr gt c ⟨s.acc ++ [x], s.base, s.next, s.T⟩ ∧ Out (fun q => q = gr ∨ F q) w (w4.setCell ⟨gr, 7, none⟩ u4) ∧ ∀ k, rtOwn (w4.setCell ⟨gr, 7, none⟩ u4) gt k → rtOwn w gt k := by
  have x03 := Ext.trans x01 x13
  have ho5 : Only gr w4 (w4.setCell ⟨gr, 7, none⟩ u4) := (Only.refl _ _).set_ _ _
  have hgr := h.ltp
  have hF : ∀ q, F q → (q ≠ gr ∧ ¬ rtOwn w gt q) ∧ q < w.heap.size := h.fp
  have hz1 := x01.size
  have hz3 := x13.size
  have hz4 := hg4.size
  have hnew : ∀ q, grow F w1 w3 q → F q ∨ (w.heap.size ≤ q ∧ q < w3.heap.size) := fun q hq => hq.elim .inl fun e => .inr ⟨by omega, e.2⟩
  have ho4 : Out (fun q => F q) w w4 := (Out.of_ext x03).trans2 hg4 fun q hq hy => (hnew q hy.2).elim id fun e => by omega
  have hout : Out (fun q => q = gr ∨ F q) w (w4.setCell ⟨gr, 7, none⟩ u4) := (ho4.mono fun q hq => .inr hq).trans (Out.of_only ho5 (.inl rfl))
  obtain ⟨hp4, hown4⟩ := (h.ext x03).away (Y := fun q => False) (w' := w3) (Out.refl _ _) (fun _ h => h.elim)
  have hrtk : ∀ k, rtOwn w gt k → ¬ (k = gr ∨ F k) := fun k hk hh => hh.elim (fun e => h.fr (e ▸ hk)) fun e => (hF k e).1.2 hk
  obtain ⟨v0, hbt, hot⟩ := h.rt
  have hbt' := hbt.out hout (hrtk gt (.inl rfl))
  have hown : ∀ k, rtOwn (w4.setCell ⟨gr, 7, none⟩ u4) gt k → rtOwn w gt k := fun k hk => (rtOwn_is hbt k).2 ((rtOwn_is hbt' k).1 hk)
  have hsz5 : (w4.setCell ⟨gr, 7, none⟩ u4).heap.size = w4.heap.size := by simp
  refine ⟨⟨fun hk => h.fr (hown _ hk), fun k hk => ?_, ⟨v0, hbt', ?_⟩, u4, hb4.set_ 7 u4, ?_⟩, hout, hown⟩
  · rcases hk with hk | hk
    · exact ⟨⟨(hF k hk).1.1, fun hh => (hF k hk).1.2 (hown k hh)⟩, Nat.lt_of_lt_of_le (hF k hk).2 hout.size⟩
    · exact ⟨⟨by omega, fun hh => by have := rtOwn_lt h.rt (hown k hh); omega⟩, hk.2⟩
  · obtain ⟨ys, ⟨g1, g2⟩, g3⟩ := hot
    refine ⟨ys, ⟨g1, ?_⟩, fun j hj => flat_tm _ _ _ _ _ _ (g3 j hj)⟩
    rcases g2 with g2 | ⟨g, cap, cur, q1, q2, q3, q4⟩
    · exact .inl g2
    · have hlt : g < w.heap.size := (Array.getElem?_eq_some_iff.1 q3).1
      exact .inr ⟨g, cap, cur, q1, q2, (hout.block g hlt (hrtk g ((rtOwn_is hbt g).2 (.inr (by rw [q1]; rfl))))).trans q3, q4⟩
  · have hgg : ∀ q, grow (grow F w1 w3) w3 w4 q → grow F w (w4.setCell ⟨gr, 7, none⟩ u4) q := fun q hq => by
      rcases hq with (hq | hq) | hq
      · exact .inl hq
      · exact .inr ⟨by omega, by omega⟩
      · exact .inr ⟨by omega, by omega⟩
    refine RowF.mono (RowF.frame hrow4 ho5.size (fun k hk hS => ho5.block k hk (fun e => ?_))) (fun q hq hS => hgg q hS)
    injection e with e
    rcases hgg k hS with h1 | h1
    · exact (hF k h1).1.1 e
    · omega
set_option maxRecDepth 100000
section
theorem rpSendLong_any (w : World) (gr : Nat) (A : Option Addr) (n cv : Nat) (hn : 64 < n) :
    Calls Try.prog 29 #[.pointer (some ⟨gr, 0, none⟩), .slice A n cv] w fun e w' => e = .returned (.tuple #[.int .i64 0, .slice none 0 0, .int .i64 2]) ∧ w = w' := by
  have hB : decide (64 < n) = true := decide_eq_true hn
  have hB2 : decide ((64 : Int) < (n : Int)) = true := decide_eq_true (by omega)
  clear hn
  go_enter Try.func29, Try.ntmps29
  go_wp2
  exact bodyPost_ret (results3 rfl _ _ _) rfl ⟨rfl, rfl⟩
theorem rpSendFull_any (F : Nat → Prop) (w : World) (gr gt : Nat) (c : Cfg) (s : Ps) (h : RpAt F w gr gt c s) (A : Option Addr) (n cv : Nat) (hn : n ≤ 64) (hl : s.acc.length ≤ 1000000) (hbl : s.base ≤ s.acc.length) (hr : c.room ≤ (s.acc.length - s.base : Nat)) :
    Calls Try.prog 29 #[.pointer (some ⟨gr, 0, none⟩), .slice A n cv] w fun e w' => e = .returned (.tuple #[.int .i64 0, .slice none 0 0, .int .i64 3]) ∧ ∃ d, w' = w.drewN d := by
  obtain ⟨lv, hbk, hrow⟩ := h.is
  obtain ⟨A1, cc, rfl, hcc⟩ := hrow.len
  obtain ⟨_, _, c5, c7, c8, _, _, _, _, _⟩ := rpCellsAt hbk
  obtain ⟨L, hL⟩ : ∃ L, L = s.acc.length := ⟨_, rfl⟩
  rw [← hL] at c7 hr hl hbl
  obtain ⟨B, hB⟩ : ∃ B : Int, B = (s.base : Int) := ⟨_, rfl⟩
  rw [← hB] at c8
  have hBL : 0 ≤ B ∧ B ≤ L := by omega
  have hB1 : decide (64 < n) = false := decide_eq_false (by omega)
  have hB2 : decide ((64 : Int) < (n : Int)) = false := decide_eq_false (by omega)
  have hB3 : decide (c.room ≤ (L : Int) - B) = true := decide_eq_true (by omega)
  clear h hn hbk hrow hL hr hcc hB hbl
  go_enter Try.func29, Try.ntmps29
  go_wp2
  go_quiet (fail)
  go_wp2
  exact bodyPost_ret (results3 rfl _ _ _) rfl ⟨rfl, _, rfl⟩
set_option maxHeartbeats 2000000 in
theorem rpSend_any (F : Nat → Prop) (w : World) (gr gt : Nat) (c : Cfg) (s : Ps) (W R : Nat) (h : RpAt F w gr gt c s) (hok : c.Ok) (hW : c.w = W) (hR : c.room = R) (ok : PsOk W R c.b s) (hl : s.acc.length + 1 ≤ 1000000) (hb1 : 1 ≤ c.b)
    (v : Value) (x : List UInt8) (hv : IsSlice repByte w (all w) v x) (hx : x.length ≤ 64) (hrm : s.acc.length < s.base + R) :
    Calls Try.prog 29 #[.pointer (some ⟨gr, 0, none⟩), v] w fun e w' => ∃ u, e = .returned (.tuple #[.int .i64 (s.acc.length : Int), u, .int .i64 0]) ∧ ∃ F' : Nat → Prop, (∀ q, F' q → F q ∨ Proofs.Ytimlbebockfioaa.fresh w w' q) ∧ IsSlice repSl w' (fun q => Proofs.Ytimlbebockfioaa.fresh w w' q ∧ ¬ rtOwn w' gt q ∧ ¬ F' q) u ((onL W ⟨s.acc ++ [x], s.base, s.next, s.T⟩).map (slideOf c.m ⟨s.acc ++ [x], s.base, s.next, s.T⟩)) ∧ RpAt F' w' gr gt c (sendS W s x) ∧ Out (fun q => q = gr ∨ rtOwn w gt q ∨ F q) w w' ∧ ∀ k, rtOwn w' gt k → rtOwn w gt k ∨ w.heap.size ≤ k := by
  obtain ⟨Av, cv, rfl⟩ := hv.shape
  have hbl : s.base ≤ s.acc.length := Nat.le_trans ok.bn ok.nl
  obtain ⟨dl, hdle⟩ : ∃ dl, dl = x.length := ⟨_, rfl⟩
  rw [← hdle] at hv hx ⊢
  have HH := hid h
  have HC := hid hok
  have HL := hid hl
  have HV := hid hv
  have HDL := hid hdle
  have HB1 := hid hb1
  obtain ⟨lv, hbk, hrow⟩ := h.is
  obtain ⟨A, cc, rfl, hcc⟩ := hrow.len
  obtain ⟨_, _, c5, c7, c8, _, _, _, _, _⟩ := rpCellsAt hbk
  obtain ⟨L, hLe⟩ : ∃ L, L = s.acc.length := ⟨_, rfl⟩
  rw [← hLe] at c7 hbk hrow hl hrm hbl ⊢
  rw [hR] at c5
  obtain ⟨B, hB⟩ : ∃ B : Int, B = (s.base : Int) := ⟨_, rfl⟩
  have c8' := c8
  rw [← hB] at c8
  have HLE := hid hLe
  have HBK := hid hbk
  have HROW := hid hrow
  have hd1 : decide (64 < dl) = false := decide_eq_false (by omega)
  have hd3 : decide ((64 : Int) < (dl : Int)) = false := decide_eq_false (by omega)
  have hBL : 0 ≤ B ∧ B ≤ L := by omega
  have hd2 : decide ((R : Int) ≤ (L : Int) - B) = false := decide_eq_false (by omega)
  have hgl := hbk.lt
  have hok5 : PsOk W R c.b ⟨s.acc ++ [x], s.base, s.next, s.T⟩ := by
    refine ⟨ok.tm, ok.bn, ?_, ok.win, ?_, ok.keys, ok.first, fun y hy => ?_⟩
    · have := ok.nl; simp; omega
    · simp; omega
    · rcases List.mem_append.1 hy with hy | hy
      · exact ok.short y hy
      · simp at hy; subst hy; omega
  have HOK5 := hid hok5
  clear h ok hok hv hdle hbk hrow hb1 hok5 hcc hLe hB c8' hR
  go_enter Try.func29, Try.ntmps29
  go_wp2
  go_quiet (fail)
  go_upto_region 5 with (fail)
  have hx1 : Ext w (w.drewN nq) := ext_drewN _ _
  generalize w.drewN nq = w1 at *
  have xd : Ext w1 w1.drew := Below.drew (Below.refl _ _)
  have HJ := hid fun (W : World) (he : Ext w1 W) => copyB_any (.slice Av dl cv) x W (HV.out.ext (Ext.trans hx1 he)) (by have := HDL.out; omega)
  have d7 := (hx1.cell hgl 7).trans c7
  have hgl1 : gr < w1.heap.size := Nat.lt_of_lt_of_le hgl hx1.size
  have HROW1 := hid (HROW.out.frame hx1.size (fun k hk _ => hx1.block k hk))
  have HFP := hid HH.out.fp
  go_region_law (first
    | (go_simp; go_at_call 58; refine (HJ.out _ xd).mono ?_; rintro r w3 ⟨u3, rfl, hu3, hx3⟩; have x13 := Ext.trans xd hx3; have x03 := Ext.trans hx1 x13; obtain ⟨Au, cu, rfl⟩ := hu3.shape; have hrow3 := HROW1.out.frame x13.size (fun k hk _ => x13.block k hk); have hb3 := HBK.out.ext x03; have HU3 := hid hu3; have c73 := (rpCellsAt hb3).2.2.2.1; have c7b : (w3.alloc (.cells #[.slice Au x.length cu] 39)).cell? ⟨gr, 7, none⟩ = some (.slice A L cc) := (World.cell?_alloc_lt w3 _ _ hb3.lt).trans c73; clear hu3; dsimp only)
    | (refine step_rowF (T := F) (S := grow F w1 w3) (r := repSlice repByte) (x := x) (cs := #[.slice Au x.length cu]) _ _ rfl rfl Try.underlying83 info_bytes (by decide) hrow3 (fun q hq => .inl hq) rfl rfl rfl (isSlice_single (HU3.out.keep fun q hq => ⟨⟨.inr ⟨Nat.le_trans (by simp) hq.1, hq.2⟩, hq.2⟩, fun _ => rfl⟩)) (fun hF => isSlice_single (HU3.out.keep fun q hq => ⟨⟨.inr ⟨Nat.le_trans (by simp) hq.1, hq.2⟩, hq.2, fun e => by have h1 := (HFP.out q (hF q e)).2; have h2 := Nat.le_trans hx1.size (Nat.le_trans (by simp) hq.1); omega⟩, fun _ => rfl⟩)) (by have := HL.out; omega) (by have := HL.out; simp only [maxLen]; omega) ?_; intro v4 w4 hrow4 hg4 hsh4; obtain ⟨A4, c4', rfl⟩ := hsh4; have hb4 := hb3.out hg4 (fun e => by rcases e.2 with h1 | h1; exact ((HFP.out gr h1).1.1 rfl).elim; omega); have c74 := (rpCellsAt hb4).2.2.2.1; have k74 := (rpCellsAt hb4).2.2.2.2.2.2.2.1))
  all_goals
    have hS := HH.out.send hx1 x13 hg4 hrow4 hb4
    have hc7 : (w4.setCell ⟨gr, 7, none⟩ (.slice A4 (s.acc.length + 1) c4')).cell? ⟨gr, 7, none⟩ = some (.slice A4 (s.acc.length + 1) c4') := (hb4.set_ 7 _).cell 7
    clear hrow4 hg4 hb4 c74 k74 hrow3 hb3 c73 c7b
    go_upto_region 6 with (fail)
    have hLL := HLE.out
    obtain ⟨L1, hL1⟩ : ∃ L1, L1 = s.acc.length + 1 := ⟨_, rfl⟩
    rw [← hL1] at hS hc7 ⊢
    have hsub : IntKind.i64.wrap ((L1 : Int) - 1) = (L : Int) := (IntWalk.i64_in _ (by omega)).trans (by omega)
    have hL1b : 1 ≤ L1 ∧ L1 ≤ 1000000 := by omega
    have hsub2 : (L1 : Int) - 1 = (L : Int) := by omega
    have HSUB := hid hsub
    clear hLL hL1 hsub2 hsub
    generalize w4.setCell ⟨gr, 7, none⟩ (.slice A4 L1 c4') = w5 at *
    obtain ⟨hps5, hout5, hown5⟩ := hS
    have HON := hid (rpOn_any _ w5.drew gr gt c _ W R (hps5.ext (Below.drew (Below.refl _ _))) HC.out hW HOK5.out (by show (s.acc ++ [x]).length ≤ 1000000; rw [List.length_append]; exact HL.out) HB1.out)
    have HPS5 := hid hps5
    have HOUT5 := hid hout5
    have HOWN5 := hid hown5
    clear hps5 hout5 hown5
    go_region_held3 (fun W => W.cell? ⟨gr, 7, none⟩ = some (.slice A4 L1 c4'))
      (first | exact hc7 | exact h77)
      (first
        | (go_at_call 59; refine HON.out.mono ?_; rintro e w7 ⟨u, rfl, hu, hps7, hfr7, hc77⟩; have h77 := hc77 _ hc7))
    go_wp2
    refine bodyPost_ret (results3 rfl _ _ _) rfl ?_
    have hz7 : w5.heap.size ≤ w7.heap.size := Nat.le_trans (by simp) hfr7.1.size
    have hz5 := HOUT5.out.size
    have hown7 : ∀ k, rtOwn w5.drew gt k → rtOwn w gt k := fun k hk => HOWN5.out k (rtOwn_ext HPS5.out.rt (Below.drew (Below.refl _ _)) hk)
    refine ⟨u, by rw [← HSUB.out]; rfl, grow F w w5, fun q hq => hq.elim .inl fun e => .inr ⟨e.1, by omega⟩, hu.keep fun q hq => ⟨⟨⟨Nat.le_trans hz5 (Nat.le_trans (by simp) hq.1.1), hq.1.2⟩, hq.2, fun hF => ?_⟩, fun _ => rfl⟩, hps7, ((HOUT5.out.mono fun q hq => hq.elim .inl fun h => .inr (.inr h)).then (Below.drew (Below.refl _ _))).trans2 hfr7.1 fun q _ hq => hq.elim .inl fun e => .inr (.inl (hown7 q e)), fun k hk => (hfr7.2 k hk).elim (fun e => .inl (hown7 k e)) fun e => .inr (Nat.le_trans hz5 (Nat.le_trans (by simp) e))⟩
    have h5 : w5.heap.size ≤ q := Nat.le_trans (by simp) hq.1.1
    rcases hF with hF | hF
    · have := (HFP.out q hF).2; omega
    · omega
end
end Go.Proofs.Ytimlbebockfioaa
