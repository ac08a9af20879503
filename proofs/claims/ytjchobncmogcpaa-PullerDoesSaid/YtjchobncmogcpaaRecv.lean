/- The walks of puller's Receive, State, Kept, New. -/
import Derived.Carry
import Derived.Test.YtjchobncmogcpaaTake
namespace Go.Proofs.Ytjchobncmogcpaa
open Go.RowKit

def recvTell (c : Cfg) (s s' : Pu) : List Sl := if s.ent < s'.ent then [tellS c s'] else []
theorem IsSlice.keepNew {α : Type} {r : Rep α} {X : Nat → Prop} {w0 w w' : World} {v : Value} {xs : List α} (h : IsSlice r w (fresh w0 w) v xs) (hX : ∀ b, X b → b < w0.heap.size) (ho : Out X w w') : IsSlice r w' (fresh w0 w') v xs :=
  h.keep fun b hb => ⟨⟨hb.1, Nat.lt_of_lt_of_le hb.2 ho.size⟩, fun o => ho.cell hb.2 (fun hx => by have := hX b hx; have := hb.1; omega) o⟩

theorem results3 {fn : Func} {t u v : Tmp} (h : fn.results = #[.tmp t, .tmp u, .tmp v]) (tmps : Array Value) (P : Program) (w : World) :
    (results fn tmps).run P w = .ok (.tuple #[tmps.getD t undef, tmps.getD u undef, tmps.getD v undef]) w := by simp [results, h]
set_option maxRecDepth 100000
section
theorem recvNil_any (X : Nat → Prop) (w : World) (gp gq gm : Nat) (c : Cfg) (s : Pu) (h : PuAt X w gp gq gm c s) (hq : s.q = []) :
    Calls Try.prog 17 #[.pointer (some ⟨gp, 0, none⟩)] w fun e w' => e = .returned (.tuple #[.slice none 0 0, .slice none 0 0, .bool false]) ∧ w = w' := by
  have HI := hid (isP_any X w gp gq gm c s h)
  obtain ⟨c1, c2, c3, c7, c8, c9, c10, f9, f10⟩ := puCellsAt h.blk
  have hqa := h.q
  rw [hq] at hqa
  have HP := hid (popNil_any _ w gq c.room hqa)
  clear h hqa hq
  go_enter Try.func17, Try.ntmps17
  go_wp2_with (first
    | (go_at_call 70; refine HI.out.mono ?_; rintro e w2 ⟨rfl, rfl⟩)
    | (go_at_call 71; refine HP.out.mono ?_; rintro e w2 ⟨rfl, rfl⟩))
  refine bodyPost_ret (results3 rfl _ _ _) rfl ⟨rfl, rfl⟩
set_option maxHeartbeats 1000000 in
theorem recv_any (X : Nat → Prop) (w : World) (gp gq gm : Nat) (c : Cfg) (s : Pu) (h : PuAt X w gp gq gm c s) (hc : c.Ok) (hs : s.ent ≤ 100000) (hr : s.ret ≤ 100000) (x : List UInt8) (s' : Pu) (hrec : recvS c.room.toNat s = some (x, s')) :
    Calls Try.prog 17 #[.pointer (some ⟨gp, 0, none⟩)] w fun e w' => ∃ u v, e = .returned (.tuple #[u, v, .bool true]) ∧ IsSlice repByte w' (fresh w w') u x ∧ IsSlice repSl w' (fresh w w') v (recvTell c s s') ∧ PuAt X w' gp gq gm c s' ∧ Out (own3 gp gq gm) w w' := by
  obtain ⟨ent, ret, q, ah⟩ := s
  cases q with
  | nil => cases hrec
  | cons y q =>
  simp only [recvS, Option.some.injEq, Prod.mk.injEq] at hrec
  obtain ⟨rfl, rfl⟩ := hrec
  have hr1 := hc.r1
  have hr2 := hc.r2
  have hE := enterS_ent c.room.toNat ⟨ent, ret + 1, q, ah⟩
  simp only at hE hs hr
  have HI := hid (isP_any X w gp gq gm c _ h)
  obtain ⟨c1, c2, c3, c7, c8, c9, c10, f9, f10⟩ := puCellsAt h.blk
  have hX := h.ltX
  have HX := hid hX
  have HP := hid (pop_any _ w gq c.room q y h.q hX)
  have HEN := hid (fun (W : World) (hW : PuAt X W gp gq gm c ⟨ent, ret + 1, q, ah⟩) => enter_any X W gp gq gm c _ hW (by simp only; omega))
  have HTL := hid (fun (W : World) (hW : PuAt X W gp gq gm c (enterS c.room.toNat ⟨ent, ret + 1, q, ah⟩)) => tells_any X W gp gq gm c _ hW hc (by omega))
  simp only [recvTell]
  obtain ⟨S2, hS2⟩ : ∃ S2, S2 = enterS c.room.toNat ⟨ent, ret + 1, q, ah⟩ := ⟨_, rfl⟩
  rw [← hS2] at HEN HTL hE ⊢
  clear hS2 hX
  have hlt := h.ltp
  go_enter Try.func17, Try.ntmps17
  by_cases hgt : ent < S2.ent
  · have hgtB : decide (ent < S2.ent) = true := decide_eq_true hgt
    rw [if_pos hgt]
    rw [hgtB] at HEN
    clear hgt hgtB
    go_wp2_with (first
      | (go_at_call 70; refine HI.out.mono ?_; rintro e w2 ⟨rfl, rfl⟩)
      | (go_at_call 71; refine HP.out.mono ?_; rintro e w2 ⟨u, rfl, hu, hq2, ho2⟩; have hp2 := h.queue ho2 hq2; obtain ⟨_, _, _, _, _, _, d10, _, g10⟩ := puCellsAt hp2.blk)
      | (go_at_call 72; refine (HEN.out _ (hp2.ret (ret + 1) _ (by push_cast; rfl))).mono ?_; rintro e w3 ⟨rfl, hp3, ho3⟩)
      | (go_at_call 73; refine (HTL.out _ hp3).mono ?_; rintro e w4 ⟨v, rfl, hv, hx4⟩))
    refine bodyPost_ret (results3 rfl _ _ _) rfl ?_
    have ho23 : Out (own3 gp gq gm) w2 w3 := (Out.of_only ((Only.refl gp w2).set_ _ _) (.inl rfl)).trans ho3
    exact ⟨_, _, rfl, (hu.keepNew (fun b hb => HX.out b (h.sub b hb)) ho23).later hx4, hv.sinceSz (Nat.le_trans ho2.size ho23.size), hp3.ext hx4, ((Out.of_only ho2 (.inr (.inl rfl))).trans ho23).then hx4⟩
  · have hgtB : decide (ent < S2.ent) = false := decide_eq_false hgt
    rw [if_neg hgt]
    rw [hgtB] at HEN
    clear hgt hgtB
    go_wp2_with (first
      | (go_at_call 70; refine HI.out.mono ?_; rintro e w2 ⟨rfl, rfl⟩)
      | (go_at_call 71; refine HP.out.mono ?_; rintro e w2 ⟨u, rfl, hu, hq2, ho2⟩; have hp2 := h.queue ho2 hq2; obtain ⟨_, _, _, _, _, _, d10, _, g10⟩ := puCellsAt hp2.blk)
      | (go_at_call 72; refine (HEN.out _ (hp2.ret (ret + 1) _ (by push_cast; rfl))).mono ?_; rintro e w3 ⟨rfl, hp3, ho3⟩))
    refine bodyPost_ret (results3 rfl _ _ _) rfl ?_
    have ho23 : Out (own3 gp gq gm) w2 w3 := (Out.of_only ((Only.refl gp w2).set_ _ _) (.inl rfl)).trans ho3
    exact ⟨_, _, rfl, hu.keepNew (fun b hb => HX.out b (h.sub b hb)) ho23, isSlice_nil _ _ _, hp3, (Out.of_only ho2 (.inr (.inl rfl))).trans ho23⟩
theorem kept_any (X : Nat → Prop) (w : World) (gp gq gm : Nat) (c : Cfg) (s : Pu) (h : PuAt X w gp gq gm c s) :
    Calls Try.prog 20 #[.pointer (some ⟨gp, 0, none⟩)] w fun e w' => ∃ u, e = .returned u ∧ IsSlice (repSlice repByte) w' (fresh w w') u s.q ∧ Ext w w' := by
  have HI := hid (isP_any X w gp gq gm c s h)
  obtain ⟨c1, c2, c3, c7, c8, c9, c10, f9, f10⟩ := puCellsAt h.blk
  have HP := hid (all_any _ w gq c.room s.q h.q)
  clear h
  go_enter Try.func20, Try.ntmps20
  go_wp2_with (first
    | (go_at_call 70; refine HI.out.mono ?_; rintro e w2 ⟨rfl, rfl⟩)
    | (go_at_call 76; refine HP.out.mono ?_; rintro e w2 ⟨u, rfl, hu, hx⟩))
  go_ret
  exact ⟨_, rfl, hu, hx⟩
theorem state_any (X : Nat → Prop) (w : World) (gp gq gm : Nat) (c : Cfg) (s : Pu) (h : PuAt X w gp gq gm c s) :
    Calls Try.prog 18 #[.pointer (some ⟨gp, 0, none⟩)] w fun e w' => e = .returned (.agg #[.int .i64 s.ent, .int .i64 s.ret]) ∧ Ext w w' := by
  have h1 := h.ext (ext_alloc w (.cells #[.int .i64 0, .int .i64 0] 38))
  have HI := hid (isP_any X _ gp gq gm c s h1)
  obtain ⟨c1, c2, c3, c7, c8, c9, c10, f9, f10⟩ := puCellsAt h1.blk
  have hb := Blk.new w 38 #[.int .i64 0, .int .i64 0]
  have b0 := hb.cell 0
  have b1 := hb.cell 1
  have k0 := hb.frozen 0
  have k1 := hb.frozen 1
  clear h h1
  go_enter Try.func18, Try.ntmps18
  go_wp2_with (first
    | (go_at_call 70; refine HI.out.mono ?_; rintro e w2 ⟨rfl, rfl⟩))
  exact bodyPost_ret (results_cell_row rfl _ _ w.heap.size _ _ (0, 0) _ rfl (Blk.new w 38 #[.int .i64 s.ent, .int .i64 s.ret]) Try.underlying38 rfl (by kernel_rfl)) rfl ⟨rfl, ext_alloc _ _⟩
theorem newPBad_any (w : World) (c : Cfg) (hw : (Lit.int .i64 c.w).wf = true) (hb : checkV c.w c.m c.l ≠ 0) :
    Calls Try.prog 14 #[.agg (cfgVals c).toArray] w fun e w' => e = .returned (.tuple #[.pointer none, .int .i64 (checkV c.w c.m c.l)]) ∧ Ext w w' := by
  have hwb := bounds_i64 hw
  have HC := hid (fun W => checkRing_any c.w c.m c.l W hwb.1 hwb.2)
  have hbB : (checkV c.w c.m c.l != 0) = true := by simpa using hb
  unfold cfgVals
  generalize checkV c.w c.m c.l = cv at *
  clear hw hwb hb
  go_enter Try.func14, Try.ntmps14
  go_wp2_with (go_at_call 68; refine (HC.out _).mono ?_; rintro e w2 ⟨rfl, rfl⟩)
  go_ret2
  exact ⟨rfl, ext_alloc _ _⟩
theorem newPRoom_any (w : World) (c : Cfg) (hw : (Lit.int .i64 c.w).wf = true) (hb : checkV c.w c.m c.l = 0) (hr : c.room < 1 ∨ 16 < c.room) :
    Calls Try.prog 14 #[.agg (cfgVals c).toArray] w fun e w' => e = .returned (.tuple #[.pointer none, .int .i64 1]) ∧ Ext w w' := by
  have hwb := bounds_i64 hw
  have HC := hid (fun W => checkRing_any c.w c.m c.l W hwb.1 hwb.2)
  have HQ := hid (fun W => newQBad_any c.room W hr)
  rw [hb] at HC
  unfold cfgVals
  clear hw hwb hb hr
  go_enter Try.func14, Try.ntmps14
  go_wp2_with (first
    | (go_at_call 68; refine (HC.out _).mono ?_; rintro e w2 ⟨rfl, rfl⟩)
    | (go_at_call 69; refine (HQ.out _).mono ?_; rintro e w2 ⟨rfl, rfl⟩))
  go_ret2
  exact ⟨rfl, ext_alloc _ _⟩
theorem cfg_ok {c : Cfg} (hb : checkV c.w c.m c.l = 0) (h1 : 1 ≤ c.room) (h2 : c.room ≤ 16) : c.Ok := by
  unfold checkV at hb
  split at hb
  · omega
  · split at hb
    · omega
    · split at hb
      · omega
      · exact ⟨by omega, by omega, by omega, by omega, by omega, by omega, h1, h2⟩
theorem newP_any (w : World) (c : Cfg) (hw : (Lit.int .i64 c.w).wf = true) (hb : checkV c.w c.m c.l = 0) (h1 : 1 ≤ c.room) (h2 : c.room ≤ 16) :
    Calls Try.prog 14 #[.agg (cfgVals c).toArray] w fun e w' => ∃ gp gq gm, e = .returned (.tuple #[.pointer (some ⟨gp, 0, none⟩), .int .i64 0]) ∧ PuAt (own3 gp gq gm) w' gp gq gm c ⟨0, 0, [], []⟩ ∧ Ext w w' ∧ w.heap.size ≤ gp ∧ w.heap.size ≤ gq ∧ w.heap.size ≤ gm := by
  have hwb := bounds_i64 hw
  have HC := hid (fun W => checkRing_any c.w c.m c.l W hwb.1 hwb.2)
  have HQ := hid (fun W => newQ_any c.room W h1 h2)
  rw [hb] at HC
  unfold cfgVals
  have hb1 := Blk.new w 24 (cfgVals c).toArray
  unfold cfgVals at hb1
  have hx1 := ext_alloc w (.cells (cfgVals c).toArray 24)
  unfold cfgVals at hx1
  clear hw hwb hb
  have hmm := @run_makeMap Try.prog
  go_enter Try.func14, Try.ntmps14
  go_wp2_with (first
    | (go_at_call 68; refine (HC.out _).mono ?_; rintro e w2 ⟨rfl, rfl⟩)
    | (go_at_call 69; refine (HQ.out _).mono ?_; rintro e w2 ⟨rfl, hq2, hx2⟩; have hb2 := hb1.ext hx2; have b0 := hb2.cell 0; have b1 := hb2.cell 1; have b2 := hb2.cell 2; have b3 := hb2.cell 3; have b4 := hb2.cell 4; have b5 := hb2.cell 5; have b6 := hb2.cell 6))
  go_ret2
  have hq3 : Blk w2 (w.heap.size + 1) 196 (queueCells c.room 0 0 (List.replicate 16 (.slice none 0 0))) := by simpa using hq2
  have hlt := hq3.lt
  have hm := mapSt_made (keyInt .i64) w2
  have hx3 := ext_alloc w2 (.map #[] 0)
  have hsz : (w2.alloc (.map #[] 0)).heap.size = w2.heap.size + 1 := by simp
  have hbp := Blk.new (w2.alloc (.map #[] 0)) 132 (puCells c (w.heap.size + 1) w2.heap.size 0 0)
  rw [hsz] at hbp
  have hx4 := ext_alloc (w2.alloc (.map #[] 0)) (.cells (puCells c (w.heap.size + 1) w2.heap.size 0 0) 132)
  refine ⟨w2.heap.size + 1, w.heap.size + 1, w2.heap.size, rfl, ⟨by omega, by omega, by omega, fun _ h => h, fun b hb => by rcases hb with rfl | rfl | rfl <;> simp <;> omega, hbp, ⟨.inr (.inl rfl), h1, h2, by show ((0 : Nat) : Int) ≤ c.room; omega, 0, _, (hq3.ext hx3).ext hx4, ⟨by simp, by omega, by simp, fun i hi => absurd hi (by simp), fun i hi => absurd hi (by simp)⟩⟩, [], hm.ext hx4, ⟨by simp, fun k => by simp [alook, hlook, AhOne]⟩⟩, Ext.trans (Ext.trans (Ext.trans hx1 hx2) hx3) hx4, by omega, by omega, by omega⟩
end
end Go.Proofs.Ytjchobncmogcpaa
