/- The puller's reference: enter. -/
import Derived.Test.YtjchobncmogcpaaPullR2
namespace Go.Proofs.Ytjchobncmogcpaa
open Go.RowKit

theorem still_tailP {P : Program} {id : Nat} {Q : Exit → Act → World → Prop} {a : Act} {w : World} {l : List Oper} (n : Nat) (hm : P.follows .mixedOrders = true) (hB : Region.lexTailB .any l.toArray n = true)
    (h : ∀ w', w' = w.drewN 1 → wpStill P l.toArray w' (fun a' => wpList P l.toArray Q (l.drop n) a' w') (l.take n) a) : (Code.region id l.toArray true).wp P Q a w := wp_region_still_tail n hm hB (h _ rfl)
theorem enterS_step' {room : Nat} {s : Pu} {x : List UInt8} (hr : s.q.length < room) (h : hlook s.ah s.ent = some x) : enterS room s = enterS room ⟨s.ent + 1, s.ret, s.q ++ [x], hdel s.ah s.ent⟩ := enterS_step hr h
/-- The late ones stay where they lie while the queue's row grows, or moves. -/
theorem late_push {gr gn : Nat} {w w' : World} {qv qv' lv : Value} {l : List (Int × List UInt8)} (h : IsSlice repLate w (LateIn gr w qv) lv l) (hlt : gn < gr) (ho : Out (qOwn gn qv) w w') (hq : ∀ b, qv'.ownBlock = some b → qv.ownBlock = some b ∨ w.heap.size ≤ b) : IsSlice repLate w' (LateIn gr w' qv') lv l :=
  h.keep fun b hb => ⟨⟨hb.1, Nat.lt_of_lt_of_le hb.2.1 ho.size, fun e => by
    rcases hq b e with h1 | h1
    · exact hb.2.2 h1
    · have := hb.2.1; omega⟩, fun o => ho.cell hb.2.1 (fun hh => by
      rcases hh with h1 | h1
      · have := hb.1; omega
      · exact hb.2.2 h1) o⟩
/-- The queue's own row lies from B on. -/
def QB (w : World) (gn : Nat) (room : Int) (B : Nat) : Prop := ∀ qv, Blk w gn 61 #[.int .i64 room, qv] → ∀ k, qv.ownBlock = some k → B ≤ k
theorem qb_of {w : World} {gn B : Nat} {room : Int} {qv : Value} (h : Blk w gn 61 #[.int .i64 room, qv]) (hq : ∀ k, qv.ownBlock = some k → B ≤ k) : QB w gn room B := fun v hv k hk => by
  have he : Obj.cells #[.int .i64 room, v] 61 (0, 0) = Obj.cells #[.int .i64 room, qv] 61 (0, 0) := by
    have := hv.symm.trans h
    injection this
  injection he with he _ _
  have hve : v = qv := by
    have := congrArg (fun a : Array Value => a[1]?) he
    simpa using this
  subst hve
  exact hq k hk
/-- What the reference's enter writes. -/
def entOwn (gn gr B : Nat) : Nat → Prop := fun k => k = gn ∨ k = gr ∨ B ≤ k
theorem Out.lowEnt {gn gr B : Nat} {w w' : World} (h : Out (entOwn gn gr B) w w') (h1 : gn < gr) (h2 : gn ≤ B) (hs : gn ≤ w.heap.size) : Below gn w w' := ⟨h.os, h.tape, h.output, h.size, fun k hk => h.block k (by omega) (fun hh => by rcases hh with e | e | e <;> omega)⟩
set_option maxRecDepth 100000
section
set_option maxHeartbeats 4000000 in
theorem enterR_any (w : World) (gn gr : Nat) (c : Cfg) (s : Pu) (h : PrAt w gn gr c s) (hc : c.Ok) (hok : PuOk c s) (hs : s.ent ≤ 1000000) (hn0 : s.ah.length ≤ 100000) (B : Nat) (hQB : QB w gn c.room B) (hBs : B ≤ w.heap.size) :
    Calls Try.prog 82 #[.pointer (some ⟨gr, 0, none⟩)] w fun e w' => e = .returned (.int .i64 (((enterS c.room.toNat s).ent : Int) - s.ent)) ∧ PrAt w' gn gr c (enterS c.room.toNat s) ∧ Out (entOwn gn gr B) w w' := by
  have hr1 := hc.r1
  have hr2 := hc.r2
  have hcap := hok.cap
  obtain ⟨S2, hS2⟩ : ∃ S2, S2 = enterS c.room.toNat s := ⟨_, rfl⟩
  rw [← hS2]
  have HS2 := hid hS2
  have H := hid h
  have HOK := hid hok
  obtain ⟨e0, he0⟩ : ∃ e0, e0 = s.ent := ⟨_, rfl⟩
  rw [← he0] at hs ⊢
  have HE0 := hid he0
  obtain ⟨q0, hq0⟩ : ∃ q0, q0 = s.q.length := ⟨_, rfl⟩
  rw [← hq0] at hcap
  have HQ0 := hid hq0
  have HQB := hid hQB
  clear hc hS2 h hok he0 hq0 hQB
  go_enter Try.func82, Try.ntmps82
  go_wp2
  go_loopw [3] (fun i wr => ∃ (m : Nat) (sj : Pu), m ≤ 16 ∧ i = .int .i64 m ∧ sj.ent = e0 + m ∧ sj.q.length = q0 + m ∧ sj.ah.length ≤ 100000 ∧ Wall (PrAt wr gn gr c sj) ∧ Wall (PuOk c sj) ∧ Wall (enterS c.room.toNat sj = S2) ∧ Out (entOwn gn gr B) w wr ∧ w.heap.size ≤ wr.heap.size ∧ Wall (QB wr gn c.room B)) (fun i _ => 16 - (intOf i).toNat)
  case atStart => exact ⟨0, s, by omega, rfl, by have := HE0.out; omega, by have := HQ0.out; omega, hn0, H, HOK, hid HS2.out.symm, Out.refl _ _, Nat.le_refl _, HQB⟩
  case round =>
    obtain ⟨m, sj, hm, rfl, hej, hqj, hnj, hP, hO, hE, hbel, hsz, hqb⟩ := hrel
    obtain ⟨hlt0, qv, lv, hb, hbn, hown, hl⟩ := hP.out
    have hgr := hb.lt
    obtain ⟨A, n, cc, rfl, hnc, hcm, hrow⟩ := hl
    have hn := hrow.1
    obtain ⟨_, _, c7, c8, c9, _, z8, z9, _⟩ := prCellsAt hb
    obtain ⟨E, hEe⟩ : ∃ E : Int, E = (sj.ent : Int) := ⟨_, rfl⟩
    rw [← hEe] at c9
    have HEE := hid hEe
    have hEb : 0 ≤ E ∧ E ≤ 1000016 := by omega
    clear hEe
    unfold maxLen at hcm
    rcases hO.out.head with ⟨ha, hlk⟩ | ⟨k, x, l, ha, hlk, hdl⟩
    · have hS : S2 = sj := by rw [← hE.out, enterS_none hlk]
      have hn00 : n = 0 := by rw [ha] at hn; simpa using hn.symm
      subst hn00
      have HSJ := hid hS
      clear ha hlk hS hb hbn hown hrow hn
      go_wp2
      go_quiet (fail)
      go_wp2
      go_ret
      refine ⟨ret_int (by rw [HSJ.out, hej]; push_cast; omega), by rw [HSJ.out]; exact hP.out.ext (ext_drewN _ _), hbel.then (ext_drewN _ _)⟩
    · obtain ⟨n1, rfl⟩ : ∃ n1, n = n1 + 1 := ⟨l.length, by rw [ha] at hn; simpa using hn.symm⟩
      obtain ⟨b, off, y, A', c', rfl, hbS, hy, hyd, m0, m1⟩ := hrow.late (k := 0) (by omega)
      obtain rfl : y = (k, x) := by rw [ha] at hy; simpa using hy.symm
      simp only [Nat.zero_mul, Nat.add_zero] at m0 m1 hyd
      have hnp : decide ((0 : Int) < ((n1 + 1 : Nat) : Int)) = true := decide_eq_true (by omega)
      have hnp2 : (0 : Int) < (n1 : Int) + 1 := by omega
      by_cases hk : k = sj.ent
      · rw [if_pos hk] at hlk
        have hkB : (k == E) = true := by rw [HEE.out]; simpa using hk
        have hd2 := hdl hk
        have hx64 : x.length ≤ 64 := (hO.out.bnd (k, x) (by rw [ha]; simp)).2.2
        have hdata : IsSlice repByte wr (all wr) (.slice A' x.length c') x := hyd.keep fun b hb => ⟨hb.2.1, fun _ => rfl⟩
        have hls : IsSlice repLate wr (LateIn gr wr qv) (.slice (some ⟨b, off, none⟩) (n1 + 1) cc) sj.ah := ⟨_, _, _, rfl, hnc, by unfold maxLen; exact hcm, hrow⟩
        have hln : l.length = n1 := by rw [ha] at hn; simpa using hn
        have hbl := lt_of_cell' m0
        have hn1 : n1 ≤ 100000 := by omega
        by_cases hfull : (sj.q.length : Int) < c.room
        · have hstep := enterS_step' (room := c.room.toNat) (by omega) hlk
          rw [hd2] at hstep
          have hokn := hO.out.step ha hk hfull
          have HPU := hid (fun (w4 : World) (he : Ext wr w4) => pushR_any w4 gn (gr + 1) c.room qv sj.q (hbn.ext he) (hown.ext he) (by omega) (by have := he.size; omega) hfull hr2 _ x (hdata.ext he) hx64)
          have HST := hid hstep
          have HON := hid hokn
          have HB := hid hb
          have HLS := hid hls
          have HAH := hid ha
          have HLN := hid hln
          have HKE := hid hk
          have hm16 : m + 1 ≤ 16 := by omega
          have HEJ := hid hej
          have HQJ := hid hqj
          have hqo : ∀ b, qv.ownBlock = some b → gr + 1 ≤ b := fun b hb => (hown.lt b hb).1
          have HQO := hid hqo
          have HQ1 := hid (hqb.out qv hbn)
          clear hlk hd2 hstep hokn hb hbn hown hrow hls ha hln hk hn hy hdl hyd hdata hqo hnp hqj hfull hej
          go_wp2_with fail
          refine still_tailP 32 (by kernel_rfl) (by kernel_rfl) ?_
          intro w4 hw4
          have hx4 : Ext wr w4 := by rw [hw4]; exact ext_drewN _ _
          clear hw4
          have d7 := (hx4.cell hgr 7).trans c7
          have d8 := (hx4.cell hgr 8).trans c8
          have d9 := (hx4.cell hgr 9).trans c9
          have y0 := (hx4.cell hbl _).trans m0
          have y1 := (hx4.cell hbl _).trans m1
          clear c7 c8 c9 m0 m1
          simp only [List.take_succ_cons, List.take_zero, List.drop_succ_cons, List.drop_zero]
          repeat still_step
          refine wpStill_nil ?_
          go_upto_region 3 with (go_at_call 125; refine (HPU.out _ hx4).mono ?_; rintro e w5 ⟨rfl, ho5, qv', hbn5, hown5, hq5⟩)
          have hb5 := (HB.out.ext hx4).out ho5 (fun hh => by
            rcases hh with h1 | h1
            · omega
            · have := HQO.out gr h1; omega)
          have hl4 : IsSlice repLate w4 (LateIn gr w4 qv) (.slice (some ⟨b, off, none⟩) (n1 + 1) cc) sj.ah := HLS.out.keep fun b hb => ⟨⟨hb.1, Nat.lt_of_lt_of_le hb.2.1 hx4.size, hb.2.2⟩, fun _ => hx4.cell hb.2.1 _⟩
          have hl5 := late_push hl4 hlt0 ho5 hq5
          obtain ⟨A1, hr1', hs1⟩ := cut_from (P := Try.prog) Try.underlying57 elem_late hl5 (k := 1) (by omega)
          have hcut : ∀ w, (Instr.sliceAt 57 (.slice (some ⟨b, off, none⟩) (n1 + 1) cc) (some (.int .i64 1)) none none).run Try.prog w = .ok (.slice A1 n1 (cc - 1)) w := hr1'
          have hs2 : IsSlice repLate w5 (LateIn gr w5 qv') (.slice A1 n1 (cc - 1)) l := by
            have := hs1
            rw [HAH.out] at this
            exact this
          obtain ⟨_, _, _, g8, g9, _, k8, k9, _⟩ := prCellsAt hb5
          rw [← HEE.out] at g9
          have hgr5 := hb5.lt
          have HB5 := hid hb5
          have HBN5 := hid hbn5
          have HOW5 := hid hown5
          have hqlt : ∀ b, qv'.ownBlock = some b → b < w5.heap.size := fun b hb => (hown5.lt b hb).2
          have HQL := hid hqlt
          have hb45 : Out (entOwn gn gr B) wr w5 := (Out.of_ext hx4).trans (ho5.mono fun b hh => by
            rcases hh with h1 | h1
            · exact .inl h1
            · exact .inr (.inr (HQ1.out b h1)))
          have hqb5 : QB w5 gn c.room B := qb_of hbn5 fun k hk => by
            rcases hq5 k hk with h1 | h1
            · exact HQ1.out k h1
            · have := hx4.size; omega
          have HQ5 := hid hqb5
          have hsz5 : wr.heap.size ≤ w5.heap.size := Nat.le_trans hx4.size ho5.size
          clear hr1' hs1 hb5 hbn5 hown5 hqlt hl4 hl5 ho5 hq5 hqb5 d7 d8 d9 y0 y1
          go_upto_region 4 with (at_builtin; refine wpl_app (r := repOut (fun b => qv'.ownBlock = some b) repLate) (base := gr + 1) (v := .slice (some ⟨w5.heap.size, 0, none⟩) 0 0) (xs := []) (news := l) _ _ rfl rfl Try.underlying57 elem_late (by show 0 < 2; decide) (own_lit (xs := []) hgr5 (by simp [maxLen]) (by simp) (by simp)) (hs2.toOut (ext_alloc w5 _) (fun b hb => hb) (by simp [Value.ownBlock])) rfl rfl (by have := HLN.out; simp; omega) (by have := HLN.out; simp [maxLen]; omega) (by simp; omega) ?_; intro v6 w6 hown6 hg6 hb66)
          have hown6' : Own (repOut (fun b => qv'.ownBlock = some b) repLate) 63 (gr + 1) w6 v6 l := by simpa using hown6
          have hx6 : Ext w5 w6 := Below.grown (ext_alloc w5 _) hg6 (by simp) (by simp [Value.ownBlock])
          have hv6 : ∀ k, v6.ownBlock = some k → w5.heap.size ≤ k := fun k hk => by
            rcases hb66 with h | h
            · rw [h] at hk; simp [Value.ownBlock] at hk; omega
            · rw [h] at hk; simp at hk; omega
          have hl7 := hown6'.fromOut (fun b hb e => by have := hv6 b hb; have := HQL.out b e; omega)
          obtain ⟨A7, c7', rfl, _⟩ := hown6'.form
          rw [HLN.out] at hl7 ⊢
          have hb6 := HB5.out.ext hx6
          have i8 := hb6.cell 8
          have i9 : w6.cell? ⟨gr, 9, none⟩ = some (.int .i64 E) := (hx6.cell hgr5 9).trans g9
          have j8 := hb6.frozen 8
          have j9 := hb6.frozen 9
          have HB6 := hid hb6
          have HL7 := hid hl7
          clear hb6 hl7 hv6 hown6 hown6' hg6 hb66 g8 g9 k8 k9 hcut hs2
          go_wp2
          go_roundw
          case rel =>
            have hE1 : E + 1 = ((sj.ent + 1 : Nat) : Int) := by have := HEE.out; push_cast; omega
            have hbf := (HB6.out.set_ 8 (.slice A7 n1 c7')).set_ 9 (.int .i64 (E + 1))
            rw [hE1] at hbf ⊢
            have hof : Only gr w6 ((w6.setCell ⟨gr, 8, none⟩ (.slice A7 n1 c7')).setCell ⟨gr, 9, none⟩ (.int .i64 ((sj.ent + 1 : Nat) : Int))) := ((Only.refl _ _).set_ _ _).set_ _ _
            refine ⟨m + 1, ⟨sj.ent + 1, sj.ret, sj.q ++ [x], l⟩, by omega, by go_num, ?_, ?_, ?_, ⟨⟨hlt0, qv', _, hbf, (HBN5.out.ext hx6).grown hof (fun e => by injection e with e; omega), (HOW5.out.ext hx6).out (X := fun b => b = gr) (Out.of_only hof rfl) (fun b hb => by omega), HL7.out.keep (fun b hb => ⟨⟨by have := hb.1; omega, Nat.lt_of_lt_of_le hb.2.1 hof.size, hb.2.2⟩, fun o => hof.cell hb.2.1 (by have := hb.1; omega) o⟩)⟩⟩, ?_, ?_, ?_, ?_, ?_⟩
            · show sj.ent + 1 = e0 + (m + 1)
              rw [HEJ.out]; omega
            · show (sj.q ++ [x]).length = q0 + (m + 1)
              rw [List.length_append, HQJ.out]; rfl
            · show l.length ≤ 100000
              rw [HLN.out]; exact hn1
            · exact HON
            · exact ⟨HST.out.symm.trans hE.out⟩
            · exact hbel.trans (hb45.trans ((Out.of_ext hx6).trans (Out.of_only hof (.inr (.inl rfl)))))
            · have := hx6.size; have := hof.size; omega
            · exact ⟨qb_of ((HBN5.out.ext hx6).grown hof (fun e => by injection e with e; omega)) fun k hk => HQ5.out qv' HBN5.out k hk⟩
          case measure => simp [intOf]; omega
        · have hS : S2 = sj := by rw [← hE.out, enterS_full (by omega)]
          have HSJ := hid hS
          have HPU := hid (fun (w4 : World) (he : Ext wr w4) => pushFull_any w4 gn (gr + 1) c.room qv sj.q (hbn.ext he) (hown.ext he) (by omega) _ x (hdata.ext he) hx64)
          have HEJ := hid hej
          clear hlk hd2 hS hb hbn hown hrow hls ha hln hk hn hy hdl hyd hdata hnp hqj hfull hej
          go_wp2_with fail
          refine still_tailP 32 (by kernel_rfl) (by kernel_rfl) ?_
          intro w4 hw4
          have hx4 : Ext wr w4 := by rw [hw4]; exact ext_drewN _ _
          clear hw4
          have d7 := (hx4.cell hgr 7).trans c7
          have d8 := (hx4.cell hgr 8).trans c8
          have d9 := (hx4.cell hgr 9).trans c9
          have y0 := (hx4.cell hbl _).trans m0
          have y1 := (hx4.cell hbl _).trans m1
          clear c7 c8 c9 m0 m1
          simp only [List.take_succ_cons, List.take_zero, List.drop_succ_cons, List.drop_zero]
          repeat still_step
          refine wpStill_nil ?_
          go_wp2_with (go_at_call 125; refine (HPU.out _ hx4).mono ?_; rintro e w5 ⟨rfl, hx5⟩)
          go_ret
          have hx45 := Ext.trans hx4 hx5
          refine ⟨ret_int (by rw [HSJ.out, HEJ.out]; push_cast; omega), by rw [HSJ.out]; exact hP.out.ext hx45, hbel.then hx45⟩
      · rw [if_neg hk] at hlk
        have hS : S2 = sj := by rw [← hE.out, enterS_none hlk]
        have HSJ := hid hS
        have hkB : (k == E) = false := by rw [HEE.out]; simpa using hk
        clear ha hlk hS hb hbn hown hrow hn hy hdl hk hyd m1
        go_wp2
        go_quiet (fail)
        go_wp2
        go_ret
        refine ⟨ret_int (by rw [HSJ.out, hej]; push_cast; omega), by rw [HSJ.out]; exact hP.out.ext (ext_drewN _ _), hbel.then (ext_drewN _ _)⟩
end
end Go.Proofs.Ytjchobncmogcpaa
