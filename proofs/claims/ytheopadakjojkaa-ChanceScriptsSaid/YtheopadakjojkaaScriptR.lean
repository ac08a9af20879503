/- The walk of chance's reference's Script. -/
import Derived.Test.YtheopadakjojkaaOne
namespace Go.Proofs.Ytheopadakjojkaa
open Go.RowKit

set_option maxRecDepth 100000
section
set_option maxHeartbeats 1600000 in
theorem scriptR_any (s n : Int) (a b c d e f i j : Int) (w : World) (h0 : 0 ≤ s) (h1 : s < 18446744073709551616) :
    Calls Try.prog 55 #[.int .u64 s, .int .i64 n, w8 a b c d e f i j] w fun r w' => ∃ v, r = .returned v ∧ IsSlice repCh w' (fresh w w') v (scriptG s n [a, b, c, d, e, f, i, j]) ∧ Ext w w' := by
  have hsum := fun w => sumR_any a b c d e f i j w
  have hin := sumG_in [a, b, c, d, e, f, i, j] 0 (by omega)
  have hch : ∀ w g st, sumG [a, b, c, d, e, f, i, j] 0 ≠ 0 → RDiceAt w g st → Calls Try.prog 97 #[.pointer (some ⟨g, 0, none⟩), w8 a b c d e f i j] w fun r w' => ∃ cs, r = .returned (.agg cs) ∧ repCh.holds w' (fresh w w') cs.toList (oneG [a, b, c, d, e, f, i, j] st).1 ∧ RDiceAt w' g (oneG [a, b, c, d, e, f, i, j] st).2 ∧ Only g w w' := fun w g st hz h => one_any w g st a b c d e f i j hz h
  unfold scriptG
  have hlen : [a, b, c, d, e, f, i, j].length = 8 := rfl
  generalize [a, b, c, d, e, f, i, j] = l at *
  rw [hlen] at hin
  have hsc : ∀ k, scG l (k + 1) s = (oneG l (scG l k s)).2 := fun k => rfl
  have hat : ∀ k, chAt l s k = (oneG l (scG l k s)).1 := fun k => rfl
  generalize sumG l 0 = sm at *
  have HS := hid hsum
  have HC := hid hch
  have HSC := hid hsc
  have HAT := hid hat
  clear hsum hch hsc hat hlen
  by_cases hn0 : n < 0
  · rw [if_pos (.inl hn0)]
    clear hin
    go_enter Try.func55, Try.ntmps55
    go_wp2
    go_ret
    exact ⟨_, rfl, isSlice_nil _ _ _, ext_alloc _ _⟩
  by_cases hn1 : 1000 < n
  · rw [if_pos (.inr (.inl hn1))]
    clear hin
    go_enter Try.func55, Try.ntmps55
    go_wp2
    go_ret
    exact ⟨_, rfl, isSlice_nil _ _ _, ext_alloc _ _⟩
  by_cases hz : sm = 0
  · rw [if_pos (.inr (.inr hz))]
    clear hin
    subst hz
    go_enter Try.func55, Try.ntmps55
    go_wp2_with fail
    refine (HS.out _).mono ?_
    rintro e w1 ⟨rfl, hx1⟩
    go_wp2
    go_ret
    exact ⟨_, rfl, isSlice_nil _ _ _, Ext.of_alloc hx1⟩
  rw [if_neg (by omega)]
  have hzb : (sm == 0) = false := by simpa using hz
  have HZ := hid hz
  obtain ⟨m, rfl⟩ : ∃ m : Nat, n = (m : Int) := ⟨n.toNat, by omega⟩
  have hm : m ≤ 1000 := by omega
  rw [Int.toNat_natCast]
  clear hin hz
  go_enter Try.func55, Try.ntmps55
  go_wp2_with fail
  refine (HS.out _).mono ?_
  rintro e w1 ⟨rfl, hx1⟩
  have hb1 := (Blk.new w 72 #[.int .i64 a, .int .i64 b, .int .i64 c, .int .i64 d, .int .i64 e, .int .i64 f, .int .i64 i, .int .i64 j]).ext hx1
  have hx01 := Ext.of_alloc hx1
  go_upto_region 4 with fail
  have hd2 : RDiceAt (w1.alloc (.cells #[.int .u64 s] 91)) w1.heap.size s := ⟨Blk.new _ _ _, h0, h1⟩
  have hx2 : Ext w1 (w1.alloc (.cells #[.int .u64 s] 91)) := ext_alloc _ _
  have hb2 := hb1.ext hx2
  have hs12 := hb1.lt
  have hx02 := Ext.trans hx01 hx2
  have hg2 := hd2.1.lt
  generalize (w1.alloc (.cells #[.int .u64 s] 91)) = w2 at *
  generalize w1.heap.size = g at *
  go_wp2_with fail
  go_loopw [8, 9] (fun u k wr => ∃ q : Nat, q ≤ m ∧ k = .int .i64 q ∧ Own repCh 84 w2.heap.size wr u (chsN l s q) ∧ RDiceAt wr g (scG l q s) ∧ Blk wr w.heap.size 72 #[.int .i64 a, .int .i64 b, .int .i64 c, .int .i64 d, .int .i64 e, .int .i64 f, .int .i64 i, .int .i64 j] ∧ Ext w wr ∧ w2.heap.size ≤ wr.heap.size) (fun _ k _ => m - (intOf k).toNat)
  case atStart => exact ⟨0, Nat.zero_le _, rfl, own_nil _ _ _ _, hd2, hb2, hx02, Nat.le_refl _⟩
  case round =>
    obtain ⟨q, hq, rfl, hown, hd, hb, hext, hsz⟩ := hrel
    by_cases hlt : q < m
    · obtain ⟨q0, q1, q2, q3, q4, q5, q6, q7⟩ := w8cells hb
      have hlq := chsN_len l s q
      have HLQ := hid hlq
      clear hlq
      go_wp2_with fail
      refine (HC.out _ _ _ HZ.out hd).mono ?_
      rintro r w3 ⟨⟨cs⟩, rfl, ⟨u, v, hcs, hu, hv⟩, hd3, ho3⟩
      obtain rfl : cs = _ := hcs
      have hcs : repCh.holds w3 (fresh wr w3) [.int .i64 (oneG l (scG l q s)).1.kind, .int .i64 (oneG l (scG l q s)).1.who, .int .i64 (oneG l (scG l q s)).1.at_, u, v] (oneG l (scG l q s)).1 := ⟨u, v, rfl, hu, hv⟩
      obtain ⟨uA, uc, rfl⟩ := hu.shape
      obtain ⟨vA, vc, rfl⟩ := hv.shape
      clear hu hv
      generalize (oneG l (scG l q s)).1.data.length = un at *
      generalize (oneG l (scG l q s)).1.edits.length = vn at *
      have hown3 := hown.only ho3 hg2
      have hb3 := hb.grown ho3 (fun e => by injection e with e; omega)
      have hs3 := ho3.size
      go_wp2_with (at_builtin; refine wpl_app1 (r := repCh) (base := w2.heap.size) (cs := #[.int .i64 (oneG l (scG l q s)).1.kind, .int .i64 (oneG l (scG l q s)).1.who, .int .i64 (oneG l (scG l q s)).1.at_, .slice uA un uc, .slice vA vn vc]) _ _ rfl rfl Try.underlying74 info_choice (by decide) hown3 rfl rfl rfl (repCh.keep hcs (fresh_el hsz fun k hk => (hown.lt k hk).2)) (by rw [HLQ.out]; omega) (by rw [HLQ.out]; simp only [maxLen]; omega) (by omega) ?_; intro v4 w4 hown4 hg4)
      go_roundw
      case rel =>
        have hb4 : Below w2.heap.size w3 w4 := Below.grown (Below.refl _ _) hg4 (by omega) (fun k hk => (hown3.lt k hk).1)
        have hx3 : Ext w w3 := Only.ext_new ho3 hext (by omega)
        exact ⟨q + 1, by omega, by go_num, by rw [chsN_succ, HAT.out]; exact hown4, by rw [HSC.out]; exact ⟨(hb4.block g hg2).trans hd3.1, hd3.2⟩, (hb4.block _ (by omega)).trans hb3, Below.grown hx3 hg4 hx3.size (fun k hk => Nat.le_trans hx02.size (hown3.lt k hk).1), Nat.le_trans (by omega) hb4.size⟩
      case measure => simp [intOf]; omega
    · obtain rfl : q = m := by omega
      go_wp2
      go_ret
      exact ⟨_, rfl, hown.own.keep fun b hb => ⟨⟨Nat.le_trans hx02.size hb.1, hb.2⟩, fun _ => rfl⟩, hext⟩
end
end Go.Proofs.Ytheopadakjojkaa
