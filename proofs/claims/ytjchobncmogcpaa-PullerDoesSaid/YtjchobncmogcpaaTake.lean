/- The walks of puller's Take, Receive, State, Kept, New. -/
import Derived.Deep.DeepCutAuto
import Derived.Test.YtjchobncmogcpaaTells
namespace Go.Proofs.Ytjchobncmogcpaa
open Go.RowKit

theorem enterF_ent : ∀ (n : Nat) (s : Pu), (enterF n s).ent ≤ s.ent + n ∧ s.ent ≤ (enterF n s).ent
  | 0, s => ⟨Nat.le_refl _, Nat.le_refl _⟩
  | n + 1, s => by
    unfold enterF
    cases hlook s.ah s.ent with
    | none =>
      show s.ent ≤ s.ent + (n + 1) ∧ s.ent ≤ s.ent
      omega
    | some x =>
      have := enterF_ent n ⟨s.ent + 1, s.ret, s.q ++ [x], hdel s.ah s.ent⟩
      simp only at this ⊢
      omega
theorem enterS_ent (room : Nat) (s : Pu) : (enterS room s).ent ≤ s.ent + room ∧ s.ent ≤ (enterS room s).ent := by
  have := enterF_ent (room - s.q.length) s
  unfold enterS
  omega
theorem IsSlice.sinceSz {α : Type} {r : Rep α} {w0 w w' : World} {v : Value} {xs : List α} (h : IsSlice r w' (Proofs.Ytjchobncmogcpaa.fresh w w') v xs) (he : w0.heap.size ≤ w.heap.size) : IsSlice r w' (Proofs.Ytjchobncmogcpaa.fresh w0 w') v xs := h.keep fun _ hb => ⟨⟨Nat.le_trans he hb.1, hb.2⟩, fun _ => rfl⟩

/-- What a packet's taking keeps. -/
def keepS (w m : Int) (s : Pu) (seq : Int) (data : List UInt8) : Pu :=
  if (nearV s.ent w seq m).2 = true ∧ hlook s.ah (nearV s.ent w seq m).1 = none ∧ data.length ≤ 64 then ⟨s.ent, s.ret, s.q, hins s.ah (nearV s.ent w seq m).1 data⟩ else s
theorem takeS_eq (w m : Int) (room : Nat) (s : Pu) (seq : Int) (data : List UInt8) : takeS w m room s seq data = enterS room (keepS w m s seq data) := rfl
theorem keepS_ent (w m : Int) (s : Pu) (seq : Int) (data : List UInt8) : (keepS w m s seq data).ent = s.ent := by unfold keepS; split <;> rfl

set_option maxRecDepth 100000
section
theorem takeAck_any (X : Nat → Prop) (w : World) (gp gq gm : Nat) (c : Cfg) (s : Pu) (h : PuAt X w gp gq gm c s) (seq bt : Int) (v : Value) :
    Calls Try.prog 19 #[.pointer (some ⟨gp, 0, none⟩), .agg #[.bool true, .int .i64 seq, .int .u64 bt, v]] w fun e w' => e = .returned (.slice none 0 0) ∧ Ext w w' := by
  have HI := hid (isP_any X (w.alloc (.cells #[.bool true, .int .i64 seq, .int .u64 bt, v] 42)) gp gq gm c s (h.ext (ext_alloc _ _)))
  clear h
  go_enter Try.func19, Try.ntmps19
  go_wp2_with (go_at_call 70; refine HI.out.mono ?_; rintro e w2 ⟨rfl, rfl⟩)
  go_ret
  exact ⟨rfl, ext_alloc _ _⟩
set_option maxHeartbeats 1000000 in
theorem take_any (X : Nat → Prop) (w : World) (gp gq gm : Nat) (c : Cfg) (s : Pu) (h : PuAt X w gp gq gm c s) (hc : c.Ok) (hs : s.ent ≤ 100000) (seq bt : Int) (v : Value) (data : List UInt8) (hv : IsSlice repByte w (all w) v data) (hd : data.length ≤ 16777216) :
    Calls Try.prog 19 #[.pointer (some ⟨gp, 0, none⟩), .agg #[.bool false, .int .i64 seq, .int .u64 bt, v]] w fun e w' => ∃ u, e = .returned u ∧ IsSlice repSl w' (fresh w w') u [tellS c (takeS c.w c.m c.room.toNat s seq data)] ∧ PuAt X w' gp gq gm c (takeS c.w c.m c.room.toNat s seq data) ∧ Out (own3 gp gq gm) w w' := by
  rw [takeS_eq]
  have HD := hid hd
  clear hd
  have hr1 := hc.r1
  have hr2 := hc.r2
  have hE := enterS_ent c.room.toNat (keepS c.w c.m s seq data)
  rw [keepS_ent] at hE
  have HEN := hid (fun (W : World) (hW : PuAt X W gp gq gm c (keepS c.w c.m s seq data)) => enter_any X W gp gq gm c _ hW (by rw [keepS_ent]; omega))
  have HTL := hid (fun (W : World) (hW : PuAt X W gp gq gm c (enterS c.room.toNat (keepS c.w c.m s seq data))) => tells_any X W gp gq gm c _ hW hc (by omega))
  have hK : keepS c.w c.m s seq data = if (nearV s.ent c.w seq c.m).2 = true ∧ hlook s.ah (nearV s.ent c.w seq c.m).1 = none ∧ data.length ≤ 64 then ⟨s.ent, s.ret, s.q, hins s.ah (nearV s.ent c.w seq c.m).1 data⟩ else s := rfl
  generalize keepS c.w c.m s seq data = S1 at *
  obtain ⟨A, cv, rfl⟩ := hv.shape
  obtain ⟨c1, c2, c3, c7, c8, c9, c10, f9, f10⟩ := puCellsAt h.blk
  have HNR := hid (fun W => near_any (s.ent : Int) c.w seq c.m W)
  have hlt := h.ltp
  have HI := hid (isP_any X (w.alloc (.cells #[.bool false, .int .i64 seq, .int .u64 bt, .slice A data.length cv] 42)) gp gq gm c s (h.ext (ext_alloc _ _)))
  go_enter Try.func19, Try.ntmps19
  go_wp2_with (go_at_call 70; refine HI.out.mono ?_; rintro e w2 ⟨rfl, rfl⟩)
  have hb := Blk.new w 42 #[.bool false, .int .i64 seq, .int .u64 bt, .slice A data.length cv]
  have h1 := h.ext (ext_alloc w (.cells #[.bool false, .int .i64 seq, .int .u64 bt, .slice A data.length cv] 42))
  have hx1 := ext_alloc w (.cells #[.bool false, .int .i64 seq, .int .u64 bt, .slice A data.length cv] 42)
  have hv1 := hv.ext hx1
  generalize (w.alloc (.cells #[.bool false, .int .i64 seq, .int .u64 bt, .slice A data.length cv] 42)) = w1 at *
  have hgs : w.heap.size < w1.heap.size := hb.lt
  generalize hgsz : w.heap.size = gs at *
  have HGS := hid hgsz
  clear hgsz
  generalize nearV (s.ent : Int) c.w seq c.m = nv at *
  obtain ⟨pl, ok⟩ := nv
  clear c1 c2 c3 c7 c8 c9 c10 f9 f10 hv HI
  obtain ⟨d1, d2, d3, d7, d8, d9, d10, _, _⟩ := puCellsAt h1.blk
  have b1 := hb.cell 1
  clear d3 d10 d7
  go_quiet ((go_at_call 74; exact q_same (HNR.out _)))
  have h2 := h1.drewN nq
  have hb2 := hb.drewN nq
  have hv2 := hv1.ext (ext_drewN w1 nq)
  have hx2 := Ext.trans hx1 (ext_drewN w1 nq)
  have HSZ := hid hx2.size
  clear h1 hb hv1 hx1 d1 d2 d8 d9 b1
  generalize w1.drewN nq = w2 at *
  obtain ⟨_, _, _, d7, d8, _, _, _, _⟩ := puCellsAt h2.blk
  have b3 := hb2.cell 3
  by_cases hcond : ok = true ∧ hlook s.ah pl = none ∧ data.length ≤ 64
  · obtain ⟨rfl, hl, h64⟩ := hcond
    rw [if_pos ⟨rfl, hl, h64⟩] at hK
    obtain ⟨v0, hv0⟩ := puLook_none h2 hl
    have HL := hid hl
    have HV2 := hid hv2
    have HKK := hid hK
    have h64I : ((data.length : Nat) : Int) ≤ 64 := by omega
    clear hl hv2 hK
    generalize hdl : data.length = n at *
    have HDL := hid hdl
    clear hdl
    have hltp := h2.ltp
    have hgs2 : gs < w2.heap.size := hb2.lt
    have e8 : (w2.drew.alloc (.cells #[.slice A n cv] 33)).cell? ⟨gp, 8, none⟩ = some (.map (some gm)) := (World.cell?_alloc_lt w2.drew _ _ hltp).trans d8
    have HJ := hid (fun (W : World) (v : Value) (hW : IsSlice (repSlice repByte) W (all W) v [data]) => join_any v [data] W hW (by have h1 := HD.out; have h2 := HDL.out; simp; omega))
    go_upto_region 6 with fail
    go_cut [] (fun wx => PuAt X wx gp gq gm c S1 ∧ Out (own3 gp gq gm) w wx)
    case first =>
      go_region_law (first
        | (go_simp; go_at_call 75; refine (HJ.out _ _ (isSlice_lit1 (w := w2.drew) (cs := #[.slice A n cv]) (isSlice_single HV2.out))).mono ?_; rintro r w3 ⟨u, rfl, hu, hx3⟩; have e83 := (Ext.cell hx3 (Nat.lt_of_lt_of_le hltp (ext_alloc w2.drew _).size) 8).trans e8; have h3 := (h2.ext (Below.drew (Below.refl _ _))).ext (Ext.trans (ext_alloc w2.drew _) hx3); obtain ⟨L, hm3, hL3⟩ := h3.map; obtain ⟨w4, hrun, hmap4, hg4⟩ := hm3.update (P := Try.prog) Try.underlying130 Try.underlying3 pl u; have hrun' : (Instr.mapUpdate 130 (.map (some gm)) (.int .i64 pl) u).run Try.prog w3 = .ok () w4 := hrun; dsimp only))
      all_goals
        go_wp2_with fail
        go_meet
        rw [HKK.out]
        have hu' : IsSlice repByte w3 (fresh (w2.drew.alloc (.cells #[.slice A n cv] 33)) w3) u data := by simpa using hu
        have hxx : Ext w w3 := Ext.trans (Ext.trans (Ext.trans hx2 (Below.drew (Below.refl _ _))) (ext_alloc w2.drew _)) hx3
        exact ⟨h3.turn hg4 hmap4 (hL3.put HL.out (hu'.outNew fun b hb => Nat.lt_of_lt_of_le (h2.ltX b hb) (ext_alloc w2.drew _).size) (by rw [HDL.out]; omega)), (Out.of_ext hxx).trans (Out.of_only hg4 (.inr (.inr rfl)))⟩
    case rest =>
      obtain ⟨hpS, hoS⟩ := hcut
      obtain ⟨_, _, _, d7, d8, _, _, _, _⟩ := puCellsAt hpS.blk
      have HSZ2 := hid hoS.size
      go_wp2_with (first
        | (go_at_call 72; refine (HEN.out _ hpS).mono ?_; rintro e w3 ⟨rfl, hp3, ho3⟩)
        | (go_at_call 73; refine (HTL.out _ hp3).mono ?_; rintro e w4 ⟨u, rfl, hu, hx4⟩))
      go_ret
      exact ⟨_, rfl, hu.sinceSz (Nat.le_trans HSZ2.out ho3.size), hp3.ext hx4, (hoS.trans ho3).then hx4⟩
  · rw [if_neg hcond] at hK
    have hK' := hK.symm
    subst hK'
    cases ok with
    | false =>
      obtain ⟨v0, hv0, _⟩ := puLook h2 pl
      generalize (hlook s.ah pl).isSome = there at *
      go_wp2_with (first
        | (go_at_call 72; refine (HEN.out _ h2).mono ?_; rintro e w3 ⟨rfl, hp3, ho3⟩)
        | (go_at_call 73; refine (HTL.out _ hp3).mono ?_; rintro e w4 ⟨u, rfl, hu, hx4⟩))
      go_ret
      exact ⟨_, rfl, hu.sinceSz (Nat.le_trans HSZ.out ho3.size), hp3.ext hx4, ((Out.of_ext hx2).trans ho3).then hx4⟩
    | true =>
      cases hl : hlook s.ah pl with
      | some x =>
        obtain ⟨A0, m0, hv0, _, _⟩ := puLook_some h2 hl
        go_wp2_with (first
          | (go_at_call 72; refine (HEN.out _ h2).mono ?_; rintro e w3 ⟨rfl, hp3, ho3⟩)
          | (go_at_call 73; refine (HTL.out _ hp3).mono ?_; rintro e w4 ⟨u, rfl, hu, hx4⟩))
        go_ret
        exact ⟨_, rfl, hu.sinceSz (Nat.le_trans HSZ.out ho3.size), hp3.ext hx4, ((Out.of_ext hx2).trans ho3).then hx4⟩
      | none =>
        obtain ⟨v0, hv0⟩ := puLook_none h2 hl
        have h64 : ¬ data.length ≤ 64 := fun h => hcond ⟨rfl, hl, h⟩
        have h64I : ¬ ((data.length : Nat) : Int) ≤ 64 := by omega
        clear hl hcond
        generalize data.length = n at *
        go_wp2_with (first
          | (go_at_call 72; refine (HEN.out _ h2).mono ?_; rintro e w3 ⟨rfl, hp3, ho3⟩)
          | (go_at_call 73; refine (HTL.out _ hp3).mono ?_; rintro e w4 ⟨u, rfl, hu, hx4⟩))
        go_ret
        exact ⟨_, rfl, hu.sinceSz (Nat.le_trans HSZ.out ho3.size), hp3.ext hx4, ((Out.of_ext hx2).trans ho3).then hx4⟩
end
end Go.Proofs.Ytjchobncmogcpaa
