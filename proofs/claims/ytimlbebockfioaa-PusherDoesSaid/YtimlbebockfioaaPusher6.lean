/- The pusher: Send. -/
import Derived.Test.YtimlbebockfioaaPusher5
namespace Go.Proofs.Ytimlbebockfioaa
open Go.RowKit

theorem results3 {fn : Func} {t u v : Tmp} (h : fn.results = #[.tmp t, .tmp u, .tmp v]) (tmps : Array Value) (P : Program) (w : World) :
    (results fn tmps).run P w = .ok (.tuple #[tmps.getD t undef, tmps.getD u undef, tmps.getD v undef]) w := by simp [results, h]
theorem IsSlice.sinceSz {α : Type} {r : Rep α} {w0 w w' : World} {v : Value} {xs : List α} (h : IsSlice r w' (Proofs.Ytimlbebockfioaa.fresh w w') v xs) (he : w0.heap.size ≤ w.heap.size) : IsSlice r w' (Proofs.Ytimlbebockfioaa.fresh w0 w') v xs := h.keep fun _ hb => ⟨⟨Nat.le_trans he hb.1, hb.2⟩, fun _ => rfl⟩
theorem TmAt.out3 {w w' : World} {gt b : Nat} {most : Int} {T : List Tm} (h : TmAt w gt b most T) {X : Nat → Prop} (hb : Out X w w') (h1 : ¬ X gt) (h2 : ¬ X b) : TmAt w' gt b most T := by
  have hlt := h.lt
  obtain ⟨hbl, hne, l, ⟨es, clock, m1, m2⟩, hL⟩ := h
  exact ⟨(hb.block gt hlt.1 h1).trans hbl, hne, l, ⟨es, clock, (hb.block b hlt.2 h2).trans m1, m2⟩, hL⟩
theorem PsAt.send {F : Nat → Prop} {w w3 w4 : World} {gp gt b : Nat} {c : Cfg} {s : Ps} {v u4 : Value} {x : List UInt8} (h : PsAt F w gp gt b c s) (hbl : s.base ≤ s.acc.length) (x03 : Ext w w3) (hg4 : Out (fun q => v.ownBlock = some q ∧ grow F w w3 q) w3 w4)
    (hrow4 : RowF (grow (grow F w w3) w3 w4) (repSlice repByte) 39 w4 u4 (s.acc.drop s.base ++ [x])) (hb4 : Blk w4 gp 97 (psCells c v s.base s.next gt)) :
    PsAt (grow F w (w4.setCell ⟨gp, 7, none⟩ u4)) (w4.setCell ⟨gp, 7, none⟩ u4) gp gt b c ⟨s.acc ++ [x], s.base, s.next, s.T⟩ ∧ Out (fun q => q = gp ∨ F q) w (w4.setCell ⟨gp, 7, none⟩ u4) := by
  have ho5 : Only gp w4 (w4.setCell ⟨gp, 7, none⟩ u4) := (Only.refl _ _).set_ _ _
  have hgp := h.ltp
  have htl := h.tm.lt
  have hgr : ∀ q, q < w.heap.size → grow F w w3 q → F q := fun q hq h1 => by
    rcases h1 with h1 | h1
    · exact h1
    · omega
  have hF : ∀ q, F q → (q ≠ gp ∧ q ≠ gt ∧ q ≠ b) ∧ q < w.heap.size := h.fp
  have ho4 : Out (fun q => q = gp ∨ F q) w w4 := ⟨hg4.os.trans x03.os, hg4.tape.trans x03.tape, hg4.output.trans x03.output, Nat.le_trans x03.size hg4.size, fun k hk hn => (hg4.block k (Nat.lt_of_lt_of_le hk x03.size) (fun e => hn (.inr (hgr k hk e.2)))).trans (x03.block k hk)⟩
  have hout : Out (fun q => q = gp ∨ F q) w (w4.setCell ⟨gp, 7, none⟩ u4) := ho4.trans (Out.of_only ho5 (.inl rfl))
  have hsz4 := ho4.size
  have hgg : ∀ q, grow (grow F w w3) w3 w4 q → grow F w w4 q := fun q hq => by
    have h3 := x03.size
    have h4 := hg4.size
    rcases hq with (hq | hq) | hq
    · exact .inl hq
    · exact .inr ⟨hq.1, by omega⟩
    · exact .inr ⟨by omega, hq.2⟩
  have hsz5 : (w4.setCell ⟨gp, 7, none⟩ u4).heap.size = w4.heap.size := by simp
  refine ⟨⟨h.ne1, h.ne2, fun k hk => ?_, h.tm.out3 hout ?_ ?_, u4, hb4.set_ 7 u4, ?_⟩, hout⟩
  · rcases hk with hk | hk
    · exact ⟨(hF k hk).1, Nat.lt_of_lt_of_le (hF k hk).2 hout.size⟩
    · exact ⟨⟨by omega, by omega, by omega⟩, hk.2⟩
  · rintro (e | e)
    · exact h.ne1 e.symm
    · exact (hF gt e).1.2.1 rfl
  · rintro (e | e)
    · exact h.ne2 e.symm
    · exact (hF b e).1.2.2 rfl
  · show RowF _ (repSlice repByte) 39 _ u4 ((s.acc ++ [x]).drop s.base)
    rw [List.drop_append_of_le_length hbl]
    refine RowF.mono (RowF.frame hrow4 ho5.size (fun k hk hS => ho5.block k hk (fun e => ?_))) (fun q hq hS => ?_)
    · injection e with e
      subst e
      rcases hgg k hS with h1 | h1
      · exact (hF k h1).1.1 rfl
      · omega
    · rcases hgg q hS with h1 | h1
      · exact .inl h1
      · exact .inr ⟨h1.1, hq⟩
set_option maxRecDepth 100000
section
set_option maxHeartbeats 2000000 in
theorem psSend_any (F : Nat → Prop) (w : World) (gp gt b : Nat) (c : Cfg) (s : Ps) (W R : Nat) (h : PsAt F w gp gt b c s) (hok : c.Ok) (hW : c.w = W) (hR : c.room = R) (ok : PsOk W R c.b s) (hl : s.acc.length + 1 ≤ 1000000) (hb1 : 1 ≤ c.b)
    (v : Value) (x : List UInt8) (hv : IsSlice repByte w (all w) v x) (hx : x.length ≤ 64) (hrm : s.acc.length < s.base + R) :
    Calls Try.prog 14 #[.pointer (some ⟨gp, 0, none⟩), v] w fun e w' => ∃ u, e = .returned (.tuple #[.int .i64 (s.acc.length : Int), u, .int .i64 0]) ∧ ∃ F' : Nat → Prop, (∀ q, F' q → F q ∨ Proofs.Ytimlbebockfioaa.fresh w w' q) ∧ IsSlice repSl w' (fun q => Proofs.Ytimlbebockfioaa.fresh w w' q ∧ ¬ F' q) u ((onL W ⟨s.acc ++ [x], s.base, s.next, s.T⟩).map (slideOf c.m ⟨s.acc ++ [x], s.base, s.next, s.T⟩)) ∧ PsAt F' w' gp gt b c (sendS W s x) ∧ Out (fun q => q = gp ∨ q = b ∨ F q) w w' := by
  obtain ⟨Av, cv, rfl⟩ := hv.shape
  have hbl : s.base ≤ s.acc.length := Nat.le_trans ok.bn ok.nl
  obtain ⟨d, hd⟩ : ∃ d, d = s.acc.length - s.base := ⟨_, rfl⟩
  obtain ⟨dl, hdle⟩ : ∃ dl, dl = x.length := ⟨_, rfl⟩
  rw [← hdle] at hv hx ⊢
  have HIS := hid (psIs_any F w gp gt b c s h)
  have HH := hid h
  have HOK := hid ok
  have HC := hid hok
  have HL := hid hl
  have HV := hid hv
  have HD := hid hd
  have HDL := hid hdle
  have HB1 := hid hb1
  obtain ⟨lv, hbk, hrow⟩ := h.is
  obtain ⟨A, cc, rfl, hcc⟩ := hrow.len
  obtain ⟨_, _, c5, c7, _, _, _, _, _, _⟩ := psCellsAt hbk
  rw [List.length_drop, ← hd] at c7 hbk hrow
  have HBK := hid hbk
  have HROW := hid hrow
  have hd1 : decide (64 < dl) = false := decide_eq_false (by omega)
  have hd3 : decide ((64 : Int) < (dl : Int)) = false := decide_eq_false (by omega)
  have hd2 : decide (R ≤ d) = false := decide_eq_false (by omega)
  have hgl := hbk.lt
  have hok5 : PsOk W R c.b ⟨s.acc ++ [x], s.base, s.next, s.T⟩ := by
    refine ⟨ok.tm, ok.bn, ?_, ok.win, ?_, ok.keys, ok.first, fun y hy => ?_⟩
    · have := ok.nl; simp; omega
    · simp; omega
    · rcases List.mem_append.1 hy with hy | hy
      · exact ok.short y hy
      · simp at hy; subst hy; omega
  have HOK5 := hid hok5
  clear h ok hok hl hv hd hdle hbk hrow hb1 hok5
  go_enter Try.func14, Try.ntmps14
  go_wp2_with (go_at_call 36; refine HIS.out.mono ?_; rintro e w2 ⟨rfl, rfl⟩)
  go_quiet (fail)
  go_upto_region 7 with (fail)
  have hx1 : Ext w (w.drewN nq) := ext_drewN _ _
  generalize w.drewN nq = w1 at *
  have hj : ∀ (W : World), Ext w1 W → Calls Try.prog 39 #[.slice (some ⟨W.heap.size, 0, none⟩) 1 1] (W.alloc (.cells #[.slice Av dl cv] 39)) fun e w' => ∃ u, e = .returned u ∧ IsSlice repByte w' (fresh (W.alloc (.cells #[.slice Av dl cv] 39)) w') u x ∧ Ext (W.alloc (.cells #[.slice Av dl cv] 39)) w' := fun W he => by
    have h1 := join_any _ [x] _ (isSlice_lit1 (r := repSlice repByte) (e := 39) (isSlice_single (HV.out.ext (Ext.trans hx1 he)))) (by have := HDL.out; simp; omega)
    rw [show [x].flatten = x by simp] at h1
    exact h1
  have HJ := hid hj
  have xd : Ext w1 w1.drew := Below.drew (Below.refl _ _)
  have d7 := (hx1.cell hgl 7).trans c7
  have hgl1 : gp < w1.heap.size := Nat.lt_of_lt_of_le hgl hx1.size
  have HROW1 := hid (HROW.out.frame hx1.size (fun k hk _ => hx1.block k hk))
  clear hj
  have HFP := hid HH.out.fp
  have hTS : ∀ q, F q → grow F w w1 q := fun q hq => .inl hq
  go_region_law (first
    | (go_simp; go_at_call 39; refine (HJ.out _ xd).mono ?_; rintro r w3 ⟨u3, rfl, hu3, hx3⟩; have x13 := Ext.trans (Ext.trans xd (ext_alloc _ _)) hx3; have x03 := Ext.trans hx1 x13; obtain ⟨Au, cu, rfl⟩ := hu3.shape; have hrow3 := HROW1.out.frame x13.size (fun k hk _ => x13.block k hk); have hb3 := HBK.out.ext x03; have HU3 := hid hu3; have c73 := (psCellsAt hb3).2.2.2.1; have c7b : (w3.alloc (.cells #[.slice Au x.length cu] 39)).cell? ⟨gp, 7, none⟩ = some (.slice A d cc) := (World.cell?_alloc_lt w3 _ _ hb3.lt).trans c73; clear hu3; dsimp only)
    | (refine step_rowF (T := F) (S := grow F w w3) (r := repSlice repByte) (x := x) (cs := #[.slice Au x.length cu]) _ _ rfl rfl Try.underlying83 info_bytes (by decide) hrow3 (fun q hq => .inl hq) rfl rfl rfl (isSlice_single (HU3.out.keep fun q hq => ⟨⟨.inr ⟨Nat.le_trans hx1.size (Nat.le_trans (by simp) hq.1), hq.2⟩, hq.2⟩, fun _ => rfl⟩)) (fun hF => isSlice_single (HU3.out.keep fun q hq => ⟨⟨.inr ⟨Nat.le_trans hx1.size (Nat.le_trans (by simp) hq.1), hq.2⟩, hq.2, fun e => by have h1 := (HFP.out q (hF q e)).2; have h2 := Nat.le_trans hx1.size (Nat.le_trans (by simp) hq.1); omega⟩, fun _ => rfl⟩)) (by have := HL.out; rw [List.length_drop]; omega) (by have := HL.out; rw [List.length_drop]; simp only [maxLen]; omega) ?_; intro v4 w4 hrow4 hg4 hsh4; obtain ⟨A4, c4', rfl⟩ := hsh4; have hb4 := hb3.out hg4 (fun e => by rcases e.2 with h1 | h1; exact ((HFP.out gp h1).1.1 rfl).elim; omega); have c74 := (psCellsAt hb4).2.2.2.1; have k74 := (psCellsAt hb4).2.2.2.2.2.2.2.1))
  all_goals
    have hS := HH.out.send hbl x03 hg4 hrow4 hb4
    rw [List.length_drop] at hS
    clear hrow4 hg4 hb4 c74 k74 hrow3 hb3 c73 c7b
    go_upto_region 8 with (fail)
    generalize w4.setCell ⟨gp, 7, none⟩ (.slice A4 (s.acc.length - s.base + 1) c4') = w5 at *
    obtain ⟨hps5, hout5⟩ := hS
    obtain ⟨L, hL⟩ : ∃ L : Int, L = ((s.acc ++ [x]).length : Int) := ⟨_, rfl⟩
    have hacc := psAccepted_any _ w5 gp gt b c _ hps5 (by show s.base ≤ (s.acc ++ [x]).length; rw [List.length_append]; omega) (by show (s.acc ++ [x]).length ≤ 1000000; rw [List.length_append]; exact HL.out)
    have hacc' : Calls Try.prog 37 #[.pointer (some ⟨gp, 0, none⟩)] w5 fun e w' => e = .returned (.int .i64 L) ∧ ∃ n, w' = w5.drewN n := by rw [hL]; exact hacc
    have hsub : wrap64 (L - 1) = (s.acc.length : Int) := by rw [hL, List.length_append]; have := HL.out; exact (IntWalk.wrap64_in _ (by simp; omega)).trans (by simp)
    have HACC := hid hacc'
    have HSUB := hid hsub
    have HON := hid fun n => psOn_any _ (w5.drewN n) gp gt b c _ W R (hps5.ext (ext_drewN _ n)) HC.out hW HOK5.out (by show (s.acc ++ [x]).length ≤ 1000000; rw [List.length_append]; exact HL.out) HB1.out
    have HPS5 := hid hps5
    have HOUT5 := hid hout5
    clear hacc hacc' hsub hps5 hout5 hL
    go_wp2_with (first
      | (go_at_call 37; refine HACC.out.mono ?_; rintro e w6 ⟨rfl, n6, rfl⟩)
      | (go_at_call 40; refine (HON.out n6).mono ?_; rintro e w7 ⟨u, rfl, hu, hps7, hout7⟩))
    refine bodyPost_ret (results3 rfl _ _ _) rfl ?_
    have hz7 : w5.heap.size ≤ w7.heap.size := Nat.le_trans (by simp) hout7.size
    refine ⟨u, by rw [← HSUB.out]; rfl, grow F w w5, fun q hq => hq.elim .inl fun e => .inr ⟨e.1, by omega⟩, hu.keep fun q hq => ⟨⟨⟨Nat.le_trans HOUT5.out.size (Nat.le_trans (by simp) hq.1), hq.2⟩, fun hF => ?_⟩, fun _ => rfl⟩, hps7, ((HOUT5.out.mono fun q hq => hq.elim .inl fun h => .inr (.inr h)).then (ext_drewN _ n6)).trans (hout7.mono fun q hq => hq.elim .inl fun h => .inr (.inl h))⟩
    have h5 : w5.heap.size ≤ q := Nat.le_trans (by simp) hq.1
    rcases hF with hF | hF
    · have := (HFP.out q hF).2; have := HOUT5.out.size; omega
    · omega
end
end Go.Proofs.Ytimlbebockfioaa
