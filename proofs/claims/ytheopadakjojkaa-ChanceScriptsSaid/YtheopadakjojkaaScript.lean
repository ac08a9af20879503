/- The walk of chance's Script. -/
import Derived.Test.YtheopadakjojkaaChoice
namespace Go.Proofs.Ytheopadakjojkaa
open Go.RowKit

theorem sumG_in : ∀ (l : List Int) (t : Int), 0 ≤ t → sumG l t ≠ 0 → (∀ x ∈ l, 0 ≤ x ∧ x ≤ 1000) ∧ 1 ≤ sumG l t ∧ sumG l t ≤ t + 1000 * l.length
  | [], t, h0, h => ⟨fun x hx => absurd hx (by simp), by simp only [sumG] at h ⊢; omega, by simp [sumG]⟩
  | x :: r, t, h0, h => by
    by_cases hx : x < 0 ∨ 1000 < x
    · rw [sum_bad hx] at h; exact absurd rfl h
    · rw [sum_good hx] at h ⊢
      obtain ⟨h1, h2, h3⟩ := sumG_in r (t + x) (by omega) h
      refine ⟨fun y hy => ?_, h2, by simp only [List.length_cons]; omega⟩
      rcases List.mem_cons.1 hy with rfl | hy
      · omega
      · exact h1 y hy
/-- The choice thrown at a state, and the state behind it. -/
def oneG (l : List Int) (s : Int) : Ch × Int := chG (kindG l (belowI s (sumG l 0)) 0) (stepI s)
def scG (l : List Int) : Nat → Int → Int
  | 0, s => s
  | n + 1, s => (oneG l (scG l n s)).2
def chAt (l : List Int) (s : Int) (k : Nat) : Ch := (oneG l (scG l k s)).1
def chsN (l : List Int) (s : Int) (n : Nat) : List Ch := (List.range n).map (chAt l s)
theorem chsN_succ (l : List Int) (s : Int) (n : Nat) : chsN l s (n + 1) = chsN l s n ++ [chAt l s n] := by simp [chsN, List.range_succ]
theorem chsN_len (l : List Int) (s : Int) (n : Nat) : (chsN l s n).length = n := by simp [chsN]
def scriptG (s n : Int) (l : List Int) : List Ch := if n < 0 ∨ 1000 < n ∨ sumG l 0 = 0 then [] else chsN l s n.toNat

theorem fresh_el {w w' : World} {base : Nat} {v : Value} (hb : base ≤ w.heap.size) (hv : ∀ k, v.ownBlock = some k → k < w.heap.size) : ∀ b, fresh w w' b → el base w' v b ∧ ∀ o, w'.cell? ⟨b, o, none⟩ = w'.cell? ⟨b, o, none⟩ :=
  fun b h => ⟨⟨Nat.le_trans hb h.1, h.2, fun e => by have := hv b e; have := h.1; omega⟩, fun _ => rfl⟩
theorem Own.only {α : Type} {r : Rep α} {e base} {w w' : World} {v} {xs : List α} {g : Nat} (h : Own r e base w v xs) (ho : Only g w w') (hg : g < base) : Own r e base w' v xs := by
  refine h.keep ho ?_ (.inr fun b hb e => by injection e with e; have := hb.1; omega)
  cases hv : v.ownBlock
  · exact .inl rfl
  · rename_i k
    exact .inr fun e => by injection e with e; have := (h.lt k hv).1; omega

set_option maxRecDepth 100000
section
theorem info_choice : ElemInfo Try.prog 84 5 72 := elemInfo (z := .agg #[.int .i64 0, .int .i64 0, .int .i64 0, .slice none 0 0, .slice none 0 0]) (by kernel_rfl) rfl
theorem new_any (w : World) (s : Int) (h0 : 0 ≤ s) (h1 : s < 18446744073709551616) :
    Calls Try.prog 59 #[.int .u64 s] w fun e w' => e = .returned (.pointer (some ⟨w.heap.size, 0, none⟩)) ∧ DiceAt w' w.heap.size s ∧ Ext w w' := by
  go_enter Try.func59, Try.ntmps59
  go_wp2
  go_ret
  exact ⟨rfl, ⟨Blk.new _ _ _, h0, h1⟩, ext_alloc _ _⟩

set_option maxHeartbeats 1600000 in
theorem script_any (s n : Int) (a b c d e f i j : Int) (w : World) (h0 : 0 ≤ s) (h1 : s < 18446744073709551616) :
    Calls Try.prog 54 #[.int .u64 s, .int .i64 n, w8 a b c d e f i j] w fun r w' => ∃ v, r = .returned v ∧ IsSlice repCh w' (fresh w w') v (scriptG s n [a, b, c, d, e, f, i, j]) ∧ Ext w w' := by
  have hsum := fun w => sum_any a b c d e f i j w
  have hin := sumG_in [a, b, c, d, e, f, i, j] 0 (by omega)
  have hch : ∀ w g st, (∀ x ∈ [a, b, c, d, e, f, i, j], 0 ≤ x ∧ x ≤ 1000) → 1 ≤ sumG [a, b, c, d, e, f, i, j] 0 → sumG [a, b, c, d, e, f, i, j] 0 ≤ 8000 → DiceAt w g st → Calls Try.prog 96 #[.pointer (some ⟨g, 0, none⟩), w8 a b c d e f i j, .int .i64 (sumG [a, b, c, d, e, f, i, j] 0)] w fun r w' => ∃ cs, r = .returned (.agg cs) ∧ repCh.holds w' (fresh w w') cs.toList (oneG [a, b, c, d, e, f, i, j] st).1 ∧ DiceAt w' g (oneG [a, b, c, d, e, f, i, j] st).2 ∧ Only g w w' := fun w g st hw h1 h2 h => choice_any w g st a b c d e f i j _ hw h1 h2 h
  unfold scriptG
  have hlen : [a, b, c, d, e, f, i, j].length = 8 := rfl
  generalize [a, b, c, d, e, f, i, j] = l at *
  rw [hlen] at hin
  have hsc : ∀ k, scG l (k + 1) s = (oneG l (scG l k s)).2 := fun k => rfl
  have hat : ∀ k, chAt l s k = (oneG l (scG l k s)).1 := fun k => rfl
  generalize sumG l 0 = sm at *
  have HS := hid hsum
  have HC := hid hch
  have HSC := hid hsc
  have HAT := hid hat
  clear hsum hch hsc hat hlen
  by_cases hn0 : n < 0
  · rw [if_pos (.inl hn0)]
    clear hin
    go_enter Try.func54, Try.ntmps54
    go_wp2_with fail
    refine (HS.out _).mono ?_
    rintro e w1 ⟨rfl, hx1⟩
    go_wp2
    go_ret
    exact ⟨_, rfl, isSlice_nil _ _ _, Ext.of_alloc hx1⟩
  by_cases hn1 : 1000 < n
  · rw [if_pos (.inr (.inl hn1))]
    clear hin
    go_enter Try.func54, Try.ntmps54
    go_wp2_with fail
    refine (HS.out _).mono ?_
    rintro e w1 ⟨rfl, hx1⟩
    go_wp2
    go_ret
    exact ⟨_, rfl, isSlice_nil _ _ _, Ext.of_alloc hx1⟩
  by_cases hz : sm = 0
  · rw [if_pos (.inr (.inr hz))]
    clear hin
    subst hz
    go_enter Try.func54, Try.ntmps54
    go_wp2_with fail
    refine (HS.out _).mono ?_
    rintro e w1 ⟨rfl, hx1⟩
    go_wp2
    go_ret
    exact ⟨_, rfl, isSlice_nil _ _ _, Ext.of_alloc hx1⟩
  rw [if_neg (by omega)]
  obtain ⟨hw, hs1, hs2⟩ := hin hz
  have HW := hid hw
  have hzb : (sm == 0) = false := by simpa using hz
  obtain ⟨m, rfl⟩ : ∃ m : Nat, n = (m : Int) := ⟨n.toNat, by omega⟩
  have hm : m ≤ 1000 := by omega
  rw [Int.toNat_natCast]
  clear hin hw hz
  go_enter Try.func54, Try.ntmps54
  go_wp2_with fail
  refine (HS.out _).mono ?_
  rintro e w1 ⟨rfl, hx1⟩
  have hb1 := (Blk.new w 76 #[.int .i64 a, .int .i64 b, .int .i64 c, .int .i64 d, .int .i64 e, .int .i64 f, .int .i64 i, .int .i64 j]).ext hx1
  have hx01 := Ext.of_alloc hx1
  go_wp2_with fail
  refine (new_any _ s h0 h1).mono ?_
  rintro r w2 ⟨rfl, hd2, hx2⟩
  have hb2 := hb1.ext hx2
  have hs12 := hb1.lt
  have hx02 := Ext.trans hx01 hx2
  have hg2 := hd2.1.lt
  generalize w1.heap.size = g at *
  go_wp2
  go_loopw [9, 25] (fun u k wr => ∃ q : Nat, q ≤ m ∧ k = .int .i64 q ∧ Own repCh 84 w2.heap.size wr u (chsN l s q) ∧ DiceAt wr g (scG l q s) ∧ Blk wr w.heap.size 76 #[.int .i64 a, .int .i64 b, .int .i64 c, .int .i64 d, .int .i64 e, .int .i64 f, .int .i64 i, .int .i64 j] ∧ Ext w wr ∧ w2.heap.size ≤ wr.heap.size) (fun _ k _ => m - (intOf k).toNat)
  case atStart => exact ⟨0, Nat.zero_le _, rfl, own_nil _ _ _ _, hd2, hb2, hx02, Nat.le_refl _⟩
  case round =>
    obtain ⟨q, hq, rfl, hown, hd, hb, hext, hsz⟩ := hrel
    by_cases hlt : q < m
    · obtain ⟨q0, q1, q2, q3, q4, q5, q6, q7⟩ := w8cells hb
      have hlq := chsN_len l s q
      have HLQ := hid hlq
      clear hlq
      go_wp2_with fail
      refine (HC.out _ _ _ HW.out hs1 hs2 hd).mono ?_
      rintro r w3 ⟨⟨cs⟩, rfl, ⟨u, v, hcs, hu, hv⟩, hd3, ho3⟩
      obtain rfl : cs = _ := hcs
      have hcs : repCh.holds w3 (fresh wr w3) [.int .i64 (oneG l (scG l q s)).1.kind, .int .i64 (oneG l (scG l q s)).1.who, .int .i64 (oneG l (scG l q s)).1.at_, u, v] (oneG l (scG l q s)).1 := ⟨u, v, rfl, hu, hv⟩
      obtain ⟨uA, uc, rfl⟩ := hu.shape
      obtain ⟨vA, vc, rfl⟩ := hv.shape
      clear hu hv
      generalize (oneG l (scG l q s)).1.data.length = un at *
      generalize (oneG l (scG l q s)).1.edits.length = vn at *
      have hown3 := hown.only ho3 hg2
      have hb3 := hb.grown ho3 (fun e => by injection e with e; omega)
      have hs3 := ho3.size
      go_wp2_with (at_builtin; refine wpl_app1 (r := repCh) (base := w2.heap.size) (cs := #[.int .i64 (oneG l (scG l q s)).1.kind, .int .i64 (oneG l (scG l q s)).1.who, .int .i64 (oneG l (scG l q s)).1.at_, .slice uA un uc, .slice vA vn vc]) _ _ rfl rfl Try.underlying74 info_choice (by decide) hown3 rfl rfl rfl (repCh.keep hcs (fresh_el hsz fun k hk => (hown.lt k hk).2)) (by rw [HLQ.out]; omega) (by rw [HLQ.out]; simp only [maxLen]; omega) (by omega) ?_; intro v4 w4 hown4 hg4)
      go_roundw
      case rel =>
        have hb4 : Below w2.heap.size w3 w4 := Below.grown (Below.refl _ _) hg4 (by omega) (fun k hk => (hown3.lt k hk).1)
        have hx3 : Ext w w3 := Only.ext_new ho3 hext (by omega)
        exact ⟨q + 1, by omega, by go_num, by rw [chsN_succ, HAT.out]; exact hown4, by rw [HSC.out]; exact ⟨(hb4.block g hg2).trans hd3.1, hd3.2⟩, (hb4.block _ (by omega)).trans hb3, Below.grown hx3 hg4 hx3.size (fun k hk => Nat.le_trans hx02.size (hown3.lt k hk).1), Nat.le_trans (by omega) hb4.size⟩
      case measure => simp [intOf]; omega
    · obtain rfl : q = m := by omega
      go_wp2
      go_ret
      exact ⟨_, rfl, hown.own.keep fun b hb => ⟨⟨Nat.le_trans hx02.size hb.1, hb.2⟩, fun _ => rfl⟩, hext⟩
end
end Go.Proofs.Ytheopadakjojkaa
