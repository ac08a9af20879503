/- The walks of puller's tells. -/
import Derived.Deep.DeepCutAuto
import Derived.Test.YtjchobncmogcpaaPuller
namespace Go.Proofs.Ytjchobncmogcpaa
open Go.RowKit

/-- A packet of the window engine. -/
structure Sl where
  ack : Bool
  seq : Int
  bits : Int
  data : List UInt8
def repSl : Rep Sl where
  size := 4
  holds w S cs x := ∃ v, cs = [.bool x.ack, .int .i64 x.seq, .int .u64 x.bits, v] ∧ IsSlice repByte w S v x.data
  len := by rintro _ _ _ _ ⟨v, rfl, _⟩; rfl
  one := by
    rintro _ _ _ _ ⟨v, rfl, _, _, _, rfl, _⟩ u hu
    simp at hu
    rcases hu with rfl | rfl | rfl | rfl <;> rfl
  keepP := by rintro _ _ _ _ _ _ ⟨v, rfl, h⟩ hk; exact ⟨v, rfl, h.keepP hk⟩

/-- What is ahead, bit by bit. -/
def bitsT (ah : List (Int × List UInt8)) (ent : Nat) : Nat → Int
  | 0 => 0
  | k + 1 => if (hlook ah ((ent : Int) + (k : Int))).isSome = true then bits BinOp.or IntKind.u64 (bitsT ah ent k) (IntKind.u64.wrap (2 ^ k)) else bitsT ah ent k
def tellS (c : Cfg) (s : Pu) : Sl := ⟨true, modV s.ent c.m, bitsT s.ah s.ent c.w.toNat, []⟩

set_option maxRecDepth 100000
section
set_option maxHeartbeats 1000000 in
theorem tells_any (X : Nat → Prop) (w : World) (gp gq gm : Nat) (c : Cfg) (s : Pu) (h : PuAt X w gp gq gm c s) (hc : c.Ok) (hs : s.ent ≤ 2000000) :
    Calls Try.prog 73 #[.pointer (some ⟨gp, 0, none⟩)] w fun e w' => ∃ u, e = .returned u ∧ IsSlice repSl w' (fresh w w') u [tellS c s] ∧ Ext w w' := by
  unfold tellS
  obtain ⟨c1, c2, c3, c7, c8, c9, c10, f9, f10⟩ := puCellsAt h.blk
  obtain ⟨hw1, hwl, hw64, hl2, hm1, hm2, _, _⟩ := hc
  have HM := hid (fun w1 => mod_any (s.ent : Int) c.m w1 (by omega))
  generalize modV (s.ent : Int) c.m = sq at *
  obtain ⟨nw, hnw⟩ : ∃ nw : Nat, (nw : Int) = c.w := ⟨c.w.toNat, by omega⟩
  have hnw2 : c.w.toNat = nw := by omega
  rw [hnw2]
  rw [← hnw] at c1 hw64 hw1
  have HNW := hid hnw
  clear hnw hnw2 hwl hl2 hm1 hm2
  have hltp := h.ltp
  have e9 : (w.drew.alloc (.cells #[.bool false, .int .i64 0, .int .u64 0, .slice none 0 0] 42)).cell? ⟨gp, 9, none⟩ = some (.int .i64 s.ent) := (World.cell?_alloc_lt w.drew _ _ hltp).trans c9
  have e2 : (w.drew.alloc (.cells #[.bool false, .int .i64 0, .int .u64 0, .slice none 0 0] 42)).cell? ⟨gp, 2, none⟩ = some (.int .i64 c.m) := (World.cell?_alloc_lt w.drew _ _ hltp).trans c2
  have hzb : Blk (w.drew.alloc (.cells #[.bool false, .int .i64 0, .int .u64 0, .slice none 0 0] 42)) w.heap.size 42 #[.bool false, .int .i64 0, .int .u64 0, .slice none 0 0] := Blk.new w.drew _ _
  have z0 := hzb.cell 0
  have z1 := hzb.cell 1
  have z2 := hzb.cell 2
  have z3 := hzb.cell 3
  have y0 := hzb.frozen 0
  have y1 := hzb.frozen 1
  have y2 := hzb.frozen 2
  have y3 := hzb.frozen 3
  go_enter Try.func73, Try.ntmps73
  go_upto_region 1 with fail
  go_cut [3] (fun s3 wx => s3 = .pointer (some ⟨w.heap.size, 0, none⟩) ∧ Blk wx w.heap.size 42 #[.bool true, .int .i64 sq, .int .u64 0, .slice none 0 0] ∧ Ext w wx)
  case first =>
    go_region_law (first
      | (go_simp; go_at_call 121; refine (HM.out _).mono ?_; rintro r w2 ⟨rfl, rfl⟩; dsimp only))
    all_goals
      go_wp2_with fail
      go_meet
      exact ⟨rfl, Blk.new w _ _, Below.drew (ext_alloc _ _)⟩
  case rest =>
    obtain ⟨rfl, hbs, hext⟩ := hcut
    clear e9 e2 hzb z0 z1 z2 z3 y0 y1 y2 y3 c2 c3 c7 c10 f9 f10
    have d1 := (hext.cell hltp 1).trans c1
    obtain ⟨g, hg⟩ : ∃ g, g = w.heap.size := ⟨_, rfl⟩
    rw [← hg] at hbs ⊢
    have HG := hid hg
    clear hg
    go_wp2
    go_loopw [24] (fun i wr => ∃ (k : Nat) (bt : Int), k ≤ nw ∧ i = .int .i64 k ∧ Blk wr g 42 #[.bool true, .int .i64 sq, .int .u64 bt, .slice none 0 0] ∧ bt = bitsT s.ah s.ent k ∧ Ext w wr) (fun i _ => nw - (intOf i).toNat)
    case atStart => exact ⟨0, 0, Nat.zero_le _, rfl, hbs, rfl, hext⟩
    case round =>
      obtain ⟨k, bt, hk, rfl, hbk, hbt, hxr⟩ := hrel
      have HBT := hid hbt
      clear hbt
      have hpr := h.ext hxr
      have d8 := (hxr.cell hltp 8).trans c8
      have d9 := (hxr.cell hltp 9).trans c9
      have b0 := hbk.cell 0
      have b1 := hbk.cell 1
      have b2 := hbk.cell 2
      have b3 := hbk.cell 3
      have p2 := hbk.frozen 2
      have hwk : IntKind.i64.wrap ((s.ent : Int) + (k : Int)) = (s.ent : Int) + (k : Int) := by rw [IntKind.wrap_i64]; omega
      have hpd : PuAt X wr.drew gp gq gm c s := hpr.ext (Below.drew (Below.refl _ _))
      by_cases hlt : k < nw
      · cases hl : hlook s.ah ((s.ent : Int) + (k : Int)) with
        | none =>
          have hnx : bitsT s.ah s.ent (k + 1) = bitsT s.ah s.ent k := by show (if _ then _ else _) = _; rw [hl]; rfl
          have HNX := hid hnx
          clear hnx
          obtain ⟨v, hv⟩ := puLook_none hpd hl
          rw [← hwk] at hv
          clear hwk
          go_wp2
          go_region_law (fail)
          all_goals
            go_wp2
            go_roundw
            case rel => exact ⟨k + 1, bt, by omega, by go_num, hbk, by rw [HNX.out, HBT.out], Below.drew hxr⟩
            case measure => simp [intOf]; omega
        | some x =>
          have hnx : bitsT s.ah s.ent (k + 1) = bits BinOp.or IntKind.u64 (bitsT s.ah s.ent k) (IntKind.u64.wrap (2 ^ k)) := by show (if _ then _ else _) = _; rw [hl]; rfl
          have HNX := hid hnx
          clear hnx
          obtain ⟨A, m, hv, _, _⟩ := puLook_some hpd hl
          rw [← hwk] at hv
          clear hwk
          go_wp2
          go_region_law (fail)
          all_goals
            go_wp2
            go_region_law (fail)
            all_goals
              go_wp2
              go_roundw
              case rel => exact ⟨k + 1, _, by omega, by go_num, hbk.set_ 2 _, by rw [HNX.out, HBT.out], Below.drew (Below.drew ((Only.set_ (Only.refl g wr) _ _).ext_new hxr (by rw [HG.out]; exact Nat.le_refl _)))⟩
              case measure => simp [intOf]; omega
      · obtain rfl : k = nw := by omega
        go_wp2
        go_ret
        have hown := own_lit1 (r := repSl) (base := wr.heap.size) (w := wr) (e := 42) (x := ⟨true, sq, bt, []⟩) (cs := #[.bool true, .int .i64 sq, .int .u64 bt, .slice none 0 0]) (Nat.le_refl _) ⟨.slice none 0 0, rfl, isSlice_nil _ _ _⟩
        rw [← HBT.out]
        exact ⟨_, rfl, hown.fresh.since hxr, Ext.trans hxr (ext_alloc _ _)⟩
end
end Go.Proofs.Ytjchobncmogcpaa
