/- The statement ChanceThrows: the walk of the law. -/
import Derived.Test.YtheopadakjojkaaDraws
namespace Go.Proofs.Ytheopadakjojkaa
open Go.RowKit

/-- What a throw below a number is, and the state behind it. -/
def bval (s n : Int) : Int := if n < 1 then 0 else belowI s n
def bst (s n : Int) : Int := if n < 1 then s else stepI s

set_option maxRecDepth 100000
section
theorem nextNil_any (w : World) : Calls Try.prog 62 #[.pointer none] w fun e w' => e = .returned (.int .u64 0) ∧ w = w' := by
  go_enter Try.func62, Try.ntmps62
  go_wp2_with (go_at_call 98; refine (diceIsNil_any _).mono ?_; rintro e w' ⟨rfl, rfl⟩)
  go_ret
  exact ⟨rfl, rfl⟩
theorem belowRaw_any (w : World) (g : Nat) (n : Int) (c0 : w.cell? ⟨g, 0, none⟩ = some (.bool false)) : Calls Try.prog 60 #[.pointer (some ⟨g, 0, none⟩), .int .i64 n] w fun e w' => e = .returned (.int .i64 0) ∧ w = w' := by
  have HI := hid (diceIs_any w g false c0)
  go_enter Try.func60, Try.ntmps60
  go_wp2_with (go_at_call 98; refine HI.out.mono ?_; rintro e w' ⟨rfl, rfl⟩)
  go_ret
  exact ⟨rfl, rfl⟩
theorem belowU_any (w : World) (g : Nat) (s n : Int) (h : DiceAt w g s) (hn2 : n ≤ 9223372036854775807) :
    Calls Try.prog 60 #[.pointer (some ⟨g, 0, none⟩), .int .i64 n] w fun e w' => e = .returned (.int .i64 (bval s n)) ∧ DiceAt w' g (bst s n) ∧ Only g w w' := by
  unfold bval bst
  by_cases hn : n < 1
  · rw [if_pos hn, if_pos hn]
    have HI := hid (diceIs_any w g true (h.1.cell 0))
    go_enter Try.func60, Try.ntmps60
    go_wp2_with (go_at_call 98; refine HI.out.mono ?_; rintro e w' ⟨rfl, rfl⟩)
    go_ret
    exact ⟨rfl, h, Only.refl _ _⟩
  · rw [if_neg hn, if_neg hn]
    exact below_any w g s n h (by omega) hn2
theorem belowUR_any (w : World) (g : Nat) (s n : Int) (h : RDiceAt w g s) (hn2 : n ≤ 9223372036854775807) :
    Calls Try.prog 61 #[.pointer (some ⟨g, 0, none⟩), .int .i64 n] w fun e w' => e = .returned (.int .i64 (bval s n)) ∧ RDiceAt w' g (bst s n) ∧ Only g w w' := by
  unfold bval bst
  by_cases hn : n < 1
  · rw [if_pos hn, if_pos hn]
    go_enter Try.func61, Try.ntmps61
    go_wp2
    go_ret
    exact ⟨rfl, h, Only.refl _ _⟩
  · rw [if_neg hn, if_neg hn]
    exact belowR_any w g s n h (by omega) hn2

set_option maxHeartbeats 1600000 in
theorem throws_any (s n : Int) (v : Value) (xs : List Int) (w : World) (h : IsSlice (repInt .i64) w (all w) v xs) (h0 : 0 ≤ s) (h1 : s < 18446744073709551616) :
    Calls Try.prog 11 #[.int .u64 s, .int .i64 n, v] w fun e w' => e = .returned (.bool true) ∧ Ext w w' := by
  obtain ⟨A, m, c, rfl, hnc, hcm, hrow⟩ := h
  have hmax : m ≤ 9223372036854775807 := by unfold maxLen at hcm; omega
  by_cases hA : 200 < n ∧ n ≤ 1000
  · obtain ⟨ha, hb⟩ := hA
    go_enter Try.func11, Try.ntmps11
    go_wp2_with (go_at_call 52; refine (chanceLive_any _).mono ?_; rintro e w1 ⟨rfl, hx1⟩)
    go_ret
    exact ⟨rfl, hx1⟩
  by_cases hB : 60 < (m : Int)
  · have hA' : n ≤ 200 ∨ 1000 < n := by omega
    rcases hA' with ha | ha
    all_goals
      go_enter Try.func11, Try.ntmps11
      go_wp2_with (go_at_call 52; refine (chanceLive_any _).mono ?_; rintro e w1 ⟨rfl, hx1⟩)
      go_ret
      exact ⟨rfl, hx1⟩
  have hA' : n ≤ 200 ∨ 1000 < n := by omega
  have hq := fun w => draws_any s n w h0 h1
  have hq' := fun w => drawsR_any s n w h0 h1
  have HQ := hid hq
  have HQ' := hid hq'
  have H01 := hid (And.intro h0 h1)
  clear hA hq hq' h0 h1
  generalize drawsG s n = ds at *
  rcases hA' with ha | ha
  all_goals
    go_enter Try.func11, Try.ntmps11
    go_wp2_with fail
    refine (HQ.out _).mono ?_
    rintro e w1 ⟨v1, rfl, hv1, hx1⟩
    go_wp2_with fail
    refine (HQ'.out _).mono ?_
    rintro e w2 ⟨v2, rfl, hv2, hx2⟩
    go_wp2_with fail
    refine (sameR_any _ _ _ _ _ (hv1.any.ext hx2) hv2.any).mono ?_
    rw [decide_eq_true rfl]
    rintro e w3 ⟨rfl, k3, rfl⟩
    have hx03 : Ext w (w2.drewN k3) := Ext.trans hx1 (Ext.trans hx2 (ext_drewN _ _))
    generalize w2.drewN k3 = w3 at *
    go_wp2_with fail
    refine (new_any _ s H01.out.1 H01.out.2).mono ?_
    rintro r w4 ⟨rfl, hd4, hx4⟩
    have hx04 := Ext.trans hx03 hx4
    have hs03 := hx03.size
    have hg4 := hd4.1.lt
    generalize w3.heap.size = g at *
    go_upto_region 6 with fail
    have hd5 : DiceAt (w4.alloc (.cells #[.int .u64 s] 91)) g s := ⟨hd4.1.alloc _, hd4.2⟩
    have hr5 : RDiceAt (w4.alloc (.cells #[.int .u64 s] 91)) w4.heap.size s := ⟨Blk.new _ _ _, hd4.2⟩
    have hx05 : Ext w (w4.alloc (.cells #[.int .u64 s] 91)) := Ext.trans hx04 (ext_alloc _ _)
    have hsg : w.heap.size ≤ w4.heap.size := hx04.size
    have hgr : g ≠ w4.heap.size := by omega
    generalize (w4.alloc (.cells #[.int .u64 s] 91)) = w5 at *
    generalize w4.heap.size = gr at *
    clear hd4 hx4 hx04 hv1 hv2 hx1 hx2 hx03
    go_wp2_with fail
    go_loopw [9] (fun i wr => ∃ (k : Nat) (st : Int), k ≤ m ∧ i = .int .i64 k ∧ DiceAt wr g st ∧ RDiceAt wr gr st ∧ Ext w wr) (fun i _ => m - (intOf i).toNat)
    case atStart => exact ⟨0, s, Nat.zero_le _, rfl, hd5, hr5, hx05⟩
    case round =>
      obtain ⟨k, st, hk, rfl, hd, hr, hext⟩ := hrel
      by_cases hlt : k < m
      · obtain ⟨b, off, x, rfl, hb, hx, hc, hwf⟩ := hrow.int hlt
        have hxr := (bounds_i64 hwf)
        have hbl : b < w.heap.size := hb
        have hbw := hext.size
        have hbg : b ≠ g := by omega
        have hbgr : b ≠ gr := by omega
        have hcr := (hext.cell hbl (off + k)).trans hc
        have hdd : DiceAt wr.drew g st := hd
        have hrr : RDiceAt wr.drew gr st := hr
        have hcd : wr.drew.cell? ⟨b, off + k, none⟩ = some (.int .i64 x) := hcr
        have hbd : b < wr.drew.heap.size := by show b < wr.heap.size; omega
        have HX := hid hxr
        have n1 : some gr ≠ some g := fun e => hgr (by injection e with e; exact e.symm)
        have n2 : some g ≠ some gr := fun e => hgr (by injection e)
        have c1 := fun wa (hd : DiceAt wa g st) => belowU_any wa g st x hd HX.out.2
        have c2 := fun wa (hd : RDiceAt wa gr st) => belowUR_any wa gr st x hd HX.out.2
        generalize bval st x = bv at *
        generalize bst st x = bs at *
        have c3 := fun wa (hd : DiceAt wa g bs) => next_any wa g bs hd
        have c4 := fun wa (hd : RDiceAt wa gr bs) => nextR_any wa gr bs hd
        generalize outI (stepI bs) = ov at *
        have C1 := hid c1
        have C2 := hid c2
        have C3 := hid c3
        have C4 := hid c4
        clear c1 c2 c3 c4 hx hxr hwf
        go_wp2
        go_region_held3 (fun w' => w'.cell? ⟨b, off + k, none⟩ = some (.int .i64 x))
          (first | with_reducible assumption)
          (first
            | (go_at_call 60; refine (C1.out _ (by with_reducible assumption)).mono ?_; rintro r w6 ⟨rfl, hd6, ho6⟩; have hr6 : RDiceAt w6 gr st := ⟨Blk.grown hrr.1 ho6 n1, hrr.2⟩; have hc6 : w6.cell? ⟨b, off + k, none⟩ = some (.int .i64 x) := (Only.cell ho6 hbd hbg _).trans hcd)
            | (go_at_call 61; refine (C2.out _ (by with_reducible assumption)).mono ?_; rintro r w7 ⟨rfl, hr7, ho7⟩; have hd7 : DiceAt w7 g bs := ⟨Blk.grown hd6.1 ho7 n2, hd6.2⟩; have hc7 : w7.cell? ⟨b, off + k, none⟩ = some (.int .i64 x) := (Only.cell ho7 (lt_of_cell' hc6) hbgr _).trans hc6)
            | (go_at_call 62; refine (C3.out _ (by with_reducible assumption)).mono ?_; rintro r w8 ⟨rfl, hd8, ho8⟩; have hr8 : RDiceAt w8 gr bs := ⟨Blk.grown hr7.1 ho8 n1, hr7.2⟩; have hc8 : w8.cell? ⟨b, off + k, none⟩ = some (.int .i64 x) := (Only.cell ho8 (lt_of_cell' hc7) hbg _).trans hc7)
            | (go_at_call 63; refine (C4.out _ (by with_reducible assumption)).mono ?_; rintro r w9 ⟨rfl, hr9, ho9⟩; have hd9 : DiceAt w9 g (stepI bs) := ⟨Blk.grown hd8.1 ho9 n2, hd8.2⟩; have hc9 : w9.cell? ⟨b, off + k, none⟩ = some (.int .i64 x) := (Only.cell ho9 (lt_of_cell' hc8) hbgr _).trans hc8))
        go_wp2
        go_roundw
        case rel => exact ⟨k + 1, stepI bs, by omega, by go_num, hd9, hr9, Only.ext_new ho9 (Only.ext_new ho8 (Only.ext_new ho7 (Only.ext_new ho6 (Below.drew hext) hs03) hsg) hs03) hsg⟩
        case measure => simp [intOf]; omega
      · obtain rfl : k = m := by omega
        go_wp2_with fail
        refine (nextNil_any _).mono ?_
        rintro r w6 ⟨rfl, rfl⟩
        go_wp2_with fail
        refine (belowRaw_any _ _ 9 (box_cell _ _ _ 0)).mono ?_
        rintro r w7 ⟨rfl, rfl⟩
        go_wp2_with fail
        refine (chanceLive_any _).mono ?_
        rintro e w8 ⟨rfl, hx8⟩
        go_wp2
        go_ret
        exact ⟨rfl, Ext.trans hext (Ext.of_alloc hx8)⟩
end
end Go.Proofs.Ytheopadakjojkaa
