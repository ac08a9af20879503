/- The walk of the reference's Same. -/
import Derived.Test.YtjchobncmogcpaaKeepEq2
import Derived.Test.YtjchobncmogcpaaKeepW
import Derived.StillTailTactics
namespace Go.Proofs.Ytjchobncmogcpaa
open Go.RowKit
theorem still_tail' {P : Program} {id : Nat} {Q : Exit → Act → World → Prop} {a : Act} {w : World} {l : List Oper} (n : Nat) (hm : P.follows .mixedOrders = true) (hB : Region.lexTailB .any l.toArray n = true)
    (h : ∀ w', w' = w.drewN 1 → wpStill P l.toArray w' (fun a' => wpList P l.toArray Q (l.drop n) a' w') (l.take n) a) : (Code.region id l.toArray true).wp P Q a w := wp_region_still_tail n hm hB (h _ rfl)
set_option maxRecDepth 100000
section
set_option maxHeartbeats 8000000 in
theorem sameR42_any (x y : KRun) (u1 u2 z1 z2 : Value) (w : World) (h1 : IsSlice (repInt .u64) w (all w) u1 x.draws) (h2 : IsSlice repCh w (all w) u2 x.chs) (k1 : IsSlice (repInt .u64) w (all w) z1 y.draws) (k2 : IsSlice repCh w (all w) z2 y.chs) :
    Calls Try.prog 37 #[.agg (kVals x u1 u2), .agg (kVals y z1 z2)] w fun e w' => e = .returned (.bool (eqB x y)) ∧ Ext w w' := by
  obtain ⟨w1, hw1⟩ : ∃ w1, w.alloc (.cells (kVals x u1 u2) 69) = w1 := ⟨_, rfl⟩
  obtain ⟨w2, hw2⟩ : ∃ w2, w1.alloc (.cells (kVals y z1 z2) 69) = w2 := ⟨_, rfl⟩
  have hx1 : Ext w w1 := hw1 ▸ ext_alloc _ _
  have hx2 : Ext w1 w2 := hw2 ▸ ext_alloc _ _
  have hb1 : Blk w1 w.heap.size 69 (kVals x u1 u2) := by rw [← hw1]; exact Blk.new _ _ _
  have hb2 : Blk w2 w1.heap.size 69 (kVals y z1 z2) := by rw [← hw2]; exact Blk.new _ _ _
  have hb1' := hb1.ext hx2
  obtain ⟨p0, p1, p2, p3, p4, p5, p6, p7, p8⟩ := kCells hb1'
  obtain ⟨q0, q1, q2, q3, q4, q5, q6, q7, q8⟩ := kCells hb2
  have hx := Ext.trans hx1 hx2
  obtain ⟨A1, n1, c1, rfl, hnc1, hcm1, hr1⟩ := h1.ext hx
  obtain ⟨A2, n2, c2, rfl, hnc2, hcm2, hr2⟩ := h2.ext hx
  obtain ⟨A3, n3, c3, rfl, hnc3, hcm3, hr3⟩ := k1.ext hx
  obtain ⟨A4, n4, c4, rfl, hnc4, hcm4, hr4⟩ := k2.ext hx
  have HN1 := hid hr1.1
  have HN2 := hid hr2.1
  have HN3 := hid hr3.1
  have HN4 := hid hr4.1
  obtain ⟨R, hR⟩ : ∃ R, R = eqB x y := ⟨_, rfl⟩
  rw [← hR]
  have HR := hid hR
  obtain ⟨bd, hbd⟩ : ∃ bd : Bool, bd = !((x.eng == y.eng) && (x.w == y.w) && (x.m == y.m) && (x.l == y.l) && (x.b == y.b) && (x.room == y.room) && (x.beg == y.beg) && ((n1 : Int) == (n3 : Int)) && ((n2 : Int) == (n4 : Int))) := ⟨_, rfl⟩
  have HBD := hid hbd
  have HNE := hid (show bd = true → eqB x y = false from fun hb => eqB_f fun e => by
    subst e
    have e1 : n1 = n3 := HN1.out.symm.trans HN3.out
    have e2 : n2 = n4 := HN2.out.symm.trans HN4.out
    rw [hbd, e1, e2] at hb
    simp at hb)
  have HEQ := hid (show bd = false → ((x.eng == y.eng) = true ∧ (x.w == y.w) = true ∧ (x.m == y.m) = true ∧ (x.l == y.l) = true ∧ (x.b == y.b) = true ∧ (x.room == y.room) = true ∧ (x.beg == y.beg) = true) ∧ n1 = n3 ∧ n2 = n4 from fun hb => by
    rw [hbd] at hb
    simp only [Bool.not_eq_false', Bool.and_eq_true] at hb
    obtain ⟨⟨⟨⟨⟨⟨⟨⟨a0, a1⟩, a2⟩, a3⟩, a4⟩, a5⟩, a6⟩, a7⟩, a8⟩ := hb
    simp only [beq_iff_eq] at a7 a8
    exact ⟨⟨a0, a1, a2, a3, a4, a5, a6⟩, by omega, by omega⟩)
  clear hR hbd h1 h2 k1 k2
  have hm1 : n1 ≤ 9223372036854775807 := by unfold maxLen at hcm1; omega
  have hm2 : n2 ≤ 9223372036854775807 := by unfold maxLen at hcm2; omega
  have hm3 : n3 ≤ 9223372036854775807 := by unfold maxLen at hcm3; omega
  have hm4 : n4 ≤ 9223372036854775807 := by unfold maxLen at hcm4; omega
  have hB1 := hid hb1'
  have hB2 := hid hb2
  clear hb1 hb1' hb2
  unfold kVals at *
  go_enter Try.func37, Try.ntmps37
  go_upto_region 1 with fail
  go_cut [31] (fun s31 wx => s31 = .bool bd ∧ wx = w2)
  case first =>
    rcases bool_cases (x.eng == y.eng) with e0 | e0
    · rcases bool_cases (x.w == y.w) with e1 | e1
      · rcases bool_cases (x.m == y.m) with e2 | e2
        · rcases bool_cases (x.l == y.l) with e3 | e3
          · rcases bool_cases (x.b == y.b) with e4 | e4
            · rcases bool_cases (x.room == y.room) with e5 | e5
              · rcases bool_cases (x.beg == y.beg) with e6 | e6
                · rcases bool_cases (((n1 : Int) == (n3 : Int))) with e7 | e7
                  · rcases bool_cases (((n2 : Int) == (n4 : Int))) with e8 | e8
                    · have hb : bd = false := by rw [HBD.out, e0, e1, e2, e3, e4, e5, e6, e7, e8]; first | rfl | (simp only [Bool.and_false, Bool.false_and, Bool.not_false])
                      have e7' : ((n1 : Int) != (n3 : Int)) = false := by rw [bne, e7]; rfl
                      have e8' : ((n2 : Int) != (n4 : Int)) = false := by rw [bne, e8]; rfl
                      subst hb
                      clear HBD HEQ HNE
                      go_wp2_with fail
                      all_goals
                        go_meet
                        exact ⟨rfl, rfl⟩
                    · have hb : bd = true := by rw [HBD.out, e0, e1, e2, e3, e4, e5, e6, e7, e8]; first | rfl | (simp only [Bool.and_false, Bool.false_and, Bool.not_false])
                      have e7' : ((n1 : Int) != (n3 : Int)) = false := by rw [bne, e7]; rfl
                      have e8' : ((n2 : Int) != (n4 : Int)) = true := by rw [bne, e8]; rfl
                      subst hb
                      clear HBD HEQ HNE
                      go_wp2_with fail
                      all_goals
                        go_meet
                        exact ⟨rfl, rfl⟩
                  · have hb : bd = true := by rw [HBD.out, e0, e1, e2, e3, e4, e5, e6, e7]; first | rfl | (simp only [Bool.and_false, Bool.false_and, Bool.not_false])
                    have e7' : ((n1 : Int) != (n3 : Int)) = true := by rw [bne, e7]; rfl
                    subst hb
                    clear HBD HEQ HNE
                    go_wp2_with fail
                    all_goals
                      go_meet
                      exact ⟨rfl, rfl⟩
                · have hb : bd = true := by rw [HBD.out, e0, e1, e2, e3, e4, e5, e6]; first | rfl | (simp only [Bool.and_false, Bool.false_and, Bool.not_false])
                  subst hb
                  clear HBD HEQ HNE
                  go_wp2_with fail
                  all_goals
                    go_meet
                    exact ⟨rfl, rfl⟩
              · have hb : bd = true := by rw [HBD.out, e0, e1, e2, e3, e4, e5]; first | rfl | (simp only [Bool.and_false, Bool.false_and, Bool.not_false])
                subst hb
                clear HBD HEQ HNE
                go_wp2_with fail
                all_goals
                  go_meet
                  exact ⟨rfl, rfl⟩
            · have hb : bd = true := by rw [HBD.out, e0, e1, e2, e3, e4]; first | rfl | (simp only [Bool.and_false, Bool.false_and, Bool.not_false])
              subst hb
              clear HBD HEQ HNE
              go_wp2_with fail
              all_goals
                go_meet
                exact ⟨rfl, rfl⟩
          · have hb : bd = true := by rw [HBD.out, e0, e1, e2, e3]; first | rfl | (simp only [Bool.and_false, Bool.false_and, Bool.not_false])
            subst hb
            clear HBD HEQ HNE
            go_wp2_with fail
            all_goals
              go_meet
              exact ⟨rfl, rfl⟩
        · have hb : bd = true := by rw [HBD.out, e0, e1, e2]; first | rfl | (simp only [Bool.and_false, Bool.false_and, Bool.not_false])
          subst hb
          clear HBD HEQ HNE
          go_wp2_with fail
          all_goals
            go_meet
            exact ⟨rfl, rfl⟩
      · have hb : bd = true := by rw [HBD.out, e0, e1]; first | rfl | (simp only [Bool.and_false, Bool.false_and, Bool.not_false])
        subst hb
        clear HBD HEQ HNE
        go_wp2_with fail
        all_goals
          go_meet
          exact ⟨rfl, rfl⟩
    · have hb : bd = true := by rw [HBD.out, e0]; first | rfl | (simp only [Bool.and_false, Bool.false_and, Bool.not_false])
      subst hb
      clear HBD HEQ HNE
      go_wp2_with fail
      all_goals
        go_meet
        exact ⟨rfl, rfl⟩
  case rest =>
    obtain ⟨rfl, rfl⟩ := hcut
    cases bd with
    | true =>
      have HF := hid (HNE.out rfl)
      clear HBD HEQ HNE
      go_wp2
      go_ret
      exact ⟨ret_bool (by rw [HR.out, HF.out]), hx⟩
    | false =>
      obtain ⟨⟨a0, a1, a2, a3, a4, a5, a6⟩, rfl, rfl⟩ := HEQ.out rfl
      have HA := hid (And.intro a0 (And.intro a1 (And.intro a2 (And.intro a3 (And.intro a4 (And.intro a5 a6))))))
      clear HBD HEQ HNE a0 a1 a2 a3 a4 a5 a6
      go_wp2
      go_loopw [5] (fun i wr => ∃ k : Nat, k ≤ n1 ∧ i = .int .i64 k ∧ Wall (UpTo' x.draws y.draws k) ∧ ∃ d, wr = wc.drewN d) (fun i _ => n1 - (intOf i).toNat)
      case atStart => exact ⟨0, Nat.zero_le _, rfl, hid fun j hj => absurd hj (by omega), 0, rfl⟩
      case round =>
        obtain ⟨k, hk, rfl, HUP, d, rfl⟩ := hrel
        by_cases hlt : k < n1
        · obtain ⟨b, off, xk, rfl, _, hxk, hcx, _⟩ := hr1.int hlt
          obtain ⟨b2, off2, yk, rfl, _, hyk, hcy, _⟩ := hr3.int hlt
          have HX := hid hxk
          have HY := hid hyk
          clear hxk hyk
          by_cases hxy : (xk != yk) = true
          · have HF := hid (eqB_f (x := x) (y := y) fun e => ne_at HX.out HY.out (by simpa using hxy) (by rw [e]))
            go_wp2
            go_quiet (fail)
            go_wp2
            go_ret
            exact ⟨ret_bool (by rw [HR.out, HF.out]), Ext.trans hx (by first | exact ext_drewN _ _ | exact Ext.trans (ext_drewN _ _) (ext_drewN _ _))⟩
          · have hxy : (xk != yk) = false := by simpa using hxy
            go_wp2
            go_quiet (fail)
            go_wp2
            go_roundw
            case rel => exact ⟨k + 1, by omega, by go_num, hid (upTo_succ HUP.out HX.out HY.out (by simpa using hxy)), _, by first | exact World.drewN_drewN _ _ _ | rfl⟩
            case measure => simp [intOf]; omega
        · have hkk : k = n1 := by omega
          have HDR := hid (show x.draws = y.draws from upTo_eq (hkk ▸ HUP.out) HN1.out HN3.out)
          clear hkk
          go_wp2
          go_loopw [6] (fun i wr => ∃ k : Nat, k ≤ n2 ∧ i = .int .i64 k ∧ Wall (UpTo' x.chs y.chs k) ∧ Ext wc wr) (fun i _ => n2 - (intOf i).toNat)
          case atStart => exact ⟨0, Nat.zero_le _, rfl, hid fun j hj => absurd hj (by omega), ext_drewN _ _⟩
          case round =>
            obtain ⟨m, hm, rfl, HUM, hxr⟩ := hrel
            have e8 : wr.cell? ⟨w.heap.size, 8, none⟩ = some (.slice A2 n2 c2) := (hxr.cell hB1.out.lt 8).trans p8
            have f8 : wr.cell? ⟨w1.heap.size, 8, none⟩ = some (.slice A4 n2 c4) := (hxr.cell hB2.out.lt 8).trans q8
            by_cases hlm : m < n2
            · obtain ⟨b, off, xc, v1, v2, rfl, hbl, hxm, hs1, hs2, x0, x1, x2, x3, x4, ⟨D1, l1, d1, hu1⟩, ⟨D2, l2, d2, hu2⟩⟩ := hr2.chX hxr hlm
              obtain ⟨b2, off2, yc, v3, v4, rfl, hbl2, hym, hs3, hs4, y0, y1, y2, y3, y4, ⟨D3, l3, d3, hu3⟩, ⟨D4, l4, d4, hu4⟩⟩ := hr4.chX hxr hlm
              subst hu1 hu2 hu3 hu4
              have HX := hid hxm
              have HY := hid hym
              clear hxm hym
              have HSa := hid (fun (W : World) (he : Ext wr W) => sameB_any _ _ xc.data yc.data W (hs1.ext (Ext.trans hxr he)) (hs3.ext (Ext.trans hxr he)))
              have HSb := hid (fun (W : World) (he : Ext wr W) => eqEdR_any _ _ xc.edits yc.edits W (hs2.ext (Ext.trans hxr he)) (hs4.ext (Ext.trans hxr he)))
              simp only [eqB_dec] at HSa
              have hdiff : xc ≠ yc → Wall (eqB x y = false) := fun e => hid (eqB_f fun e2 => ne_at HX.out HY.out e (by rw [e2]))
              generalize hDd : eqB xc.data yc.data = D at *
              generalize hEd : eqB xc.edits yc.edits = E at *
              have HD := hid hDd
              have HEE := hid hEd
              clear hDd hEd hs1 hs2 hs3 hs4
              go_upto_region 11 with fail
              go_cut [7, 8] (fun s7 s8 wx => ∃ ga gb, s7 = .pointer (some ⟨ga, 0, none⟩) ∧ s8 = .pointer (some ⟨gb, 0, none⟩) ∧ Blk wx ga 147 #[.int .i64 xc.kind, .int .i64 xc.who, .int .i64 xc.at_, .slice D1 l1 d1, .slice D2 l2 d2] ∧ Blk wx gb 147 #[.int .i64 yc.kind, .int .i64 yc.who, .int .i64 yc.at_, .slice D3 l3 d3, .slice D4 l4 d4] ∧ Ext wr wx)
              case first =>
                have hbr := lt_of_cell' x0
                have hbr2 := lt_of_cell' y0
                have hwr := lt_of_cell' e8
                have hwr1 := lt_of_cell' f8
                have HS := hid (fun (w' : World) (he : Ext wr w') => (⟨⟨(he.cell hbr _).trans x0, (he.cell hbr _).trans x1, (he.cell hbr _).trans x2, (he.cell hbr _).trans x3, (he.cell hbr _).trans x4⟩, ⟨(he.cell hbr2 _).trans y0, (he.cell hbr2 _).trans y1, (he.cell hbr2 _).trans y2, (he.cell hbr2 _).trans y3, (he.cell hbr2 _).trans y4⟩, (he.cell hwr _).trans e8, (he.cell hwr1 _).trans f8, he⟩ : (fun w' => (w'.cell? ⟨b, off + m * 5, none⟩ = some (.int .i64 xc.kind) ∧ w'.cell? ⟨b, off + m * 5 + 1, none⟩ = some (.int .i64 xc.who) ∧ w'.cell? ⟨b, off + m * 5 + 2, none⟩ = some (.int .i64 xc.at_) ∧ w'.cell? ⟨b, off + m * 5 + 3, none⟩ = some (.slice D1 l1 d1) ∧ w'.cell? ⟨b, off + m * 5 + 4, none⟩ = some (.slice D2 l2 d2)) ∧ (w'.cell? ⟨b2, off2 + m * 5, none⟩ = some (.int .i64 yc.kind) ∧ w'.cell? ⟨b2, off2 + m * 5 + 1, none⟩ = some (.int .i64 yc.who) ∧ w'.cell? ⟨b2, off2 + m * 5 + 2, none⟩ = some (.int .i64 yc.at_) ∧ w'.cell? ⟨b2, off2 + m * 5 + 3, none⟩ = some (.slice D3 l3 d3) ∧ w'.cell? ⟨b2, off2 + m * 5 + 4, none⟩ = some (.slice D4 l4 d4)) ∧ w'.cell? ⟨w.heap.size, 8, none⟩ = some (.slice (some ⟨b, off, none⟩) n2 c2) ∧ w'.cell? ⟨w1.heap.size, 8, none⟩ = some (.slice (some ⟨b2, off2, none⟩) n2 c4) ∧ Ext wr w') w'))
                go_region_held3 (fun w' => (w'.cell? ⟨b, off + m * 5, none⟩ = some (.int .i64 xc.kind) ∧ w'.cell? ⟨b, off + m * 5 + 1, none⟩ = some (.int .i64 xc.who) ∧ w'.cell? ⟨b, off + m * 5 + 2, none⟩ = some (.int .i64 xc.at_) ∧ w'.cell? ⟨b, off + m * 5 + 3, none⟩ = some (.slice D1 l1 d1) ∧ w'.cell? ⟨b, off + m * 5 + 4, none⟩ = some (.slice D2 l2 d2)) ∧ (w'.cell? ⟨b2, off2 + m * 5, none⟩ = some (.int .i64 yc.kind) ∧ w'.cell? ⟨b2, off2 + m * 5 + 1, none⟩ = some (.int .i64 yc.who) ∧ w'.cell? ⟨b2, off2 + m * 5 + 2, none⟩ = some (.int .i64 yc.at_) ∧ w'.cell? ⟨b2, off2 + m * 5 + 3, none⟩ = some (.slice D3 l3 d3) ∧ w'.cell? ⟨b2, off2 + m * 5 + 4, none⟩ = some (.slice D4 l4 d4)) ∧ w'.cell? ⟨w.heap.size, 8, none⟩ = some (.slice (some ⟨b, off, none⟩) n2 c2) ∧ w'.cell? ⟨w1.heap.size, 8, none⟩ = some (.slice (some ⟨b2, off2, none⟩) n2 c4) ∧ Ext wr w')
                  ((refine HS.out _ ?_; repeat (first | exact Below.refl _ _ | refine Below.drew ?_ | refine Below.setCell ?_ (by simp) _ | refine Below.alloc ?_ (by simp) _)))
                  (fail)
                all_goals
                  go_wp2_with fail
                  go_meet
                  first
                    | exact ⟨_, _, rfl, rfl, ((Blk.new wr _ _).alloc _).drew, (Blk.newE (by simp) rfl).drew, Below.drew (Below.alloc (Below.alloc (Below.refl _ _) (by simp) _) (by simp) _)⟩
                    | exact ⟨_, _, rfl, rfl, (Blk.newE (by simp) rfl).drew, ((Blk.new wr _ _).alloc _).drew, Below.drew (Below.alloc (Below.alloc (Below.refl _ _) (by simp) _) (by simp) _)⟩
              case rest =>
                obtain ⟨ga, gb, rfl, rfl, hga, hgb, hxw⟩ := hcut
                obtain ⟨ga0, ga1, ga2, ga3, ga4⟩ := chCells5 hga
                obtain ⟨gb0, gb1, gb2, gb3, gb4⟩ := chCells5 hgb
                rcases bool_cases (xc.kind == yc.kind) with e1 | e1
                · rcases bool_cases (xc.who == yc.who) with e2 | e2
                  · rcases bool_cases (xc.at_ == yc.at_) with e3 | e3
                    · rcases bool_cases (D) with e4 | e4
                      · rcases bool_cases (E) with e5 | e5
                        · have HG := hid (ch_ext e1 e2 e3 (HD.out.trans e4) (HEE.out.trans e5))
                          subst e4 e5
                          clear hdiff
                          have e1' : (xc.kind != yc.kind) = false := by rw [bne, e1]; rfl
                          have e2' : (xc.who != yc.who) = false := by rw [bne, e2]; rfl
                          have e3' : (xc.at_ != yc.at_) = false := by rw [bne, e3]; rfl
                          go_wp2_with (first
                            | (go_at_call 27
                               refine (HSa.out _ hxw).mono ?_
                               rintro e w3 ⟨rfl, nd, rfl⟩
                               have g4 : (wc.drewN nd).cell? ⟨ga, 4, none⟩ = some (.slice D2 l2 d2) := ga4
                               have k4 : (wc.drewN nd).cell? ⟨gb, 4, none⟩ = some (.slice D4 l4 d4) := gb4)
                            | (go_at_call 103
                               refine (HSb.out _ (Ext.trans hxw (ext_drewN _ nd))).mono ?_
                               rintro e w4 ⟨rfl, ne, rfl⟩))
                          go_roundw
                          case rel => exact ⟨m + 1, by omega, by go_num, hid (upTo_succ HUM.out HX.out HY.out HG.out), Ext.trans (Ext.trans hxr hxw) (ext_drewN _ _)⟩
                          case measure => simp [intOf]; omega
                        · have HF := hdiff (ch_ne (x := xc) (y := yc) (.inr (.inr (.inr (.inr ((HEE.out.trans e5)))))))
                          clear hdiff
                          subst e4 e5
                          have e1' : (xc.kind != yc.kind) = false := by rw [bne, e1]; rfl
                          have e2' : (xc.who != yc.who) = false := by rw [bne, e2]; rfl
                          have e3' : (xc.at_ != yc.at_) = false := by rw [bne, e3]; rfl
                          go_wp2_with (first
                            | (go_at_call 27
                               refine (HSa.out _ hxw).mono ?_
                               rintro e w3 ⟨rfl, nd, rfl⟩
                               have g4 : (wc.drewN nd).cell? ⟨ga, 4, none⟩ = some (.slice D2 l2 d2) := ga4
                               have k4 : (wc.drewN nd).cell? ⟨gb, 4, none⟩ = some (.slice D4 l4 d4) := gb4)
                            | (go_at_call 103
                               refine (HSb.out _ (Ext.trans hxw (ext_drewN _ nd))).mono ?_
                               rintro e w4 ⟨rfl, ne, rfl⟩))
                          have hq := Ext.trans hx (Ext.trans hxr hxw)
                          go_ret
                          exact ⟨ret_bool (by rw [HR.out, HF.out]), Ext.trans hq (ext_drewN _ _)⟩
                      · have HF := hdiff (ch_ne (x := xc) (y := yc) (.inr (.inr (.inr (.inl (HD.out.trans e4))))))
                        clear hdiff
                        subst e4
                        have e1' : (xc.kind != yc.kind) = false := by rw [bne, e1]; rfl
                        have e2' : (xc.who != yc.who) = false := by rw [bne, e2]; rfl
                        have e3' : (xc.at_ != yc.at_) = false := by rw [bne, e3]; rfl
                        go_wp2_with (first
                          | (go_at_call 27
                             refine (HSa.out _ hxw).mono ?_
                             rintro e w3 ⟨rfl, nd, rfl⟩
                             have g4 : (wc.drewN nd).cell? ⟨ga, 4, none⟩ = some (.slice D2 l2 d2) := ga4
                             have k4 : (wc.drewN nd).cell? ⟨gb, 4, none⟩ = some (.slice D4 l4 d4) := gb4)
                          | (go_at_call 103
                             refine (HSb.out _ (Ext.trans hxw (ext_drewN _ nd))).mono ?_
                             rintro e w4 ⟨rfl, ne, rfl⟩))
                        have hq := Ext.trans hx (Ext.trans hxr hxw)
                        go_ret
                        exact ⟨ret_bool (by rw [HR.out, HF.out]), Ext.trans hq (ext_drewN _ _)⟩
                    · have HF := hdiff (ch_ne (x := xc) (y := yc) (.inr (.inr (.inl e3))))
                      clear hdiff
                      have e1' : (xc.kind != yc.kind) = false := by rw [bne, e1]; rfl
                      have e2' : (xc.who != yc.who) = false := by rw [bne, e2]; rfl
                      have e3' : (xc.at_ != yc.at_) = true := by rw [bne, e3]; rfl
                      go_wp2_with (first
                        | (go_at_call 27
                           refine (HSa.out _ hxw).mono ?_
                           rintro e w3 ⟨rfl, nd, rfl⟩
                           have g4 : (wc.drewN nd).cell? ⟨ga, 4, none⟩ = some (.slice D2 l2 d2) := ga4
                           have k4 : (wc.drewN nd).cell? ⟨gb, 4, none⟩ = some (.slice D4 l4 d4) := gb4)
                        | (go_at_call 103
                           refine (HSb.out _ (Ext.trans hxw (ext_drewN _ nd))).mono ?_
                           rintro e w4 ⟨rfl, ne, rfl⟩))
                      have hq := Ext.trans hx (Ext.trans hxr hxw)
                      go_ret
                      exact ⟨ret_bool (by rw [HR.out, HF.out]), hq⟩
                  · have HF := hdiff (ch_ne (x := xc) (y := yc) (.inr (.inl e2)))
                    clear hdiff
                    have e1' : (xc.kind != yc.kind) = false := by rw [bne, e1]; rfl
                    have e2' : (xc.who != yc.who) = true := by rw [bne, e2]; rfl
                    go_wp2_with (first
                      | (go_at_call 27
                         refine (HSa.out _ hxw).mono ?_
                         rintro e w3 ⟨rfl, nd, rfl⟩
                         have g4 : (wc.drewN nd).cell? ⟨ga, 4, none⟩ = some (.slice D2 l2 d2) := ga4
                         have k4 : (wc.drewN nd).cell? ⟨gb, 4, none⟩ = some (.slice D4 l4 d4) := gb4)
                      | (go_at_call 103
                         refine (HSb.out _ (Ext.trans hxw (ext_drewN _ nd))).mono ?_
                         rintro e w4 ⟨rfl, ne, rfl⟩))
                    have hq := Ext.trans hx (Ext.trans hxr hxw)
                    go_ret
                    exact ⟨ret_bool (by rw [HR.out, HF.out]), hq⟩
                · have HF := hdiff (ch_ne (x := xc) (y := yc) (.inl e1))
                  clear hdiff
                  have e1' : (xc.kind != yc.kind) = true := by rw [bne, e1]; rfl
                  go_wp2_with (first
                    | (go_at_call 27
                       refine (HSa.out _ hxw).mono ?_
                       rintro e w3 ⟨rfl, nd, rfl⟩
                       have g4 : (wc.drewN nd).cell? ⟨ga, 4, none⟩ = some (.slice D2 l2 d2) := ga4
                       have k4 : (wc.drewN nd).cell? ⟨gb, 4, none⟩ = some (.slice D4 l4 d4) := gb4)
                    | (go_at_call 103
                       refine (HSb.out _ (Ext.trans hxw (ext_drewN _ nd))).mono ?_
                       rintro e w4 ⟨rfl, ne, rfl⟩))
                  have hq := Ext.trans hx (Ext.trans hxr hxw)
                  go_ret
                  exact ⟨ret_bool (by rw [HR.out, HF.out]), hq⟩
            · have hmm : m = n2 := by omega
              have HF := hid (run_ext (x := x) (y := y) HA.out.1 HA.out.2.1 HA.out.2.2.1 HA.out.2.2.2.1 HA.out.2.2.2.2.1 HA.out.2.2.2.2.2.1 HA.out.2.2.2.2.2.2 (eqB_t HDR.out) (eqB_t (upTo_eq (hmm ▸ HUM.out) HN2.out HN4.out)))
              clear hmm
              go_wp2
              go_ret
              exact ⟨ret_bool (by rw [HR.out]; exact (eqB_t HF.out).symm), Ext.trans hx hxr⟩
end
end Go.Proofs.Ytjchobncmogcpaa
