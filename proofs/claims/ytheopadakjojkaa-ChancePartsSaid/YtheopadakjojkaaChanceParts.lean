/- The statement ChanceParts: the walk of the law. -/
import Derived.Test.YtheopadakjojkaaSame
import Derived.Test.YtheopadakjojkaaArr8
namespace Go.Proofs.Ytheopadakjojkaa
open Go.RowKit

theorem kindG_at : ∀ (l : List Int) (n k0 t : Int), 0 ≤ n → (∀ x ∈ l, 0 ≤ x ∧ x ≤ 1000) → n + t < sumG l t → ∃ (j : Nat) (y : Int), l[j]? = some y ∧ y ≠ 0 ∧ kindG l n k0 = k0 + j
  | [], n, k0, t, h0, _, h => by simp only [sumG] at h; omega
  | x :: r, n, k0, t, h0, hl, h => by
    have hx := hl x (by simp)
    rw [sum_good (by omega)] at h
    by_cases hn : n < x
    · exact ⟨0, x, rfl, by omega, by simp only [kindG, if_pos hn]; simp⟩
    · obtain ⟨j, y, h1, h2, h3⟩ := kindG_at r (n - x) (k0 + 1) (t + x) (by omega) (fun z hz => hl z (by simp [hz])) (by omega)
      refine ⟨j + 1, y, h1, h2, ?_⟩
      simp only [kindG, if_neg hn]
      rw [h3]
      push_cast
      omega
theorem chG_kind (k s : Int) : (chG k s).1.kind = k := by
  unfold chG
  repeat' split
  all_goals rfl
theorem chAt_kind {l : List Int} (h : sumG l 0 ≠ 0) (s : Int) (i : Nat) : ∃ (j : Nat) (y : Int), j < l.length ∧ l[j]? = some y ∧ y ≠ 0 ∧ (chAt l s i).kind = (j : Int) := by
  obtain ⟨h1, h2, h3⟩ := sumG_in l 0 (by omega) h
  have hb := below_range (scG l i s) h2
  obtain ⟨j, y, h4, h5, h6⟩ := kindG_at l (belowI (scG l i s) (sumG l 0)) 0 0 hb.1 h1 (by omega)
  refine ⟨j, y, lt_of_get h4, h4, h5, ?_⟩
  show (chG _ _).1.kind = _
  rw [chG_kind, h6]
  omega
theorem chsN_get {l : List Int} {s : Int} {n i : Nat} {x : Ch} (h : (chsN l s n)[i]? = some x) : x = chAt l s i := by
  unfold chsN at h
  rw [List.getElem?_map] at h
  rcases Nat.lt_or_ge i n with hlt | hge
  · rw [List.getElem?_range hlt] at h
    simpa using h.symm
  · rw [List.getElem?_eq_none (by simpa using hge)] at h
    cases h
theorem chsN_take {l : List Int} {s : Int} {n m : Nat} (h : n ≤ m) : (chsN l s m).take n = chsN l s n := by
  unfold chsN
  rw [← List.map_take, List.take_range, Nat.min_eq_left h]
theorem scriptG_nat {l : List Int} {s : Int} {n : Nat} (h : sumG l 0 ≠ 0) (hn : n ≤ 200) : scriptG s (n : Int) l = chsN l s n := by
  unfold scriptG
  rw [if_neg (by omega), Int.toNat_natCast]

set_option maxRecDepth 100000
section
set_option maxHeartbeats 1600000 in
theorem parts_live (s n m : Int) (a b c d e f i j : Int) (w : World) (h : n < 0 ∨ m < 0 ∨ 200 < n ∨ 200 < m ∨ sumG [a, b, c, d, e, f, i, j] 0 = 0) :
    Calls Try.prog 10 #[.int .u64 s, .agg #[.int .i64 n, .int .i64 m], w8 a b c d e f i j] w fun e w' => e = .returned (.bool true) ∧ Ext w w' := by
  have hsum := fun w => sumR_any a b c d e f i j w
  generalize sumG [a, b, c, d, e, f, i, j] 0 = sm at *
  have HS := hid hsum
  clear hsum
  by_cases h1 : n < 0
  · clear h
    go_enter Try.func10, Try.ntmps10
    go_wp2_with (go_at_call 52; refine (chanceLive_any _).mono ?_; rintro e w1 ⟨rfl, hx1⟩)
    go_ret
    exact ⟨rfl, Ext.of_alloc (Ext.of_alloc hx1)⟩
  by_cases h2 : m < 0
  · clear h
    go_enter Try.func10, Try.ntmps10
    go_wp2_with (go_at_call 52; refine (chanceLive_any _).mono ?_; rintro e w1 ⟨rfl, hx1⟩)
    go_ret
    exact ⟨rfl, Ext.of_alloc (Ext.of_alloc hx1)⟩
  by_cases h3 : 200 < n
  · clear h
    go_enter Try.func10, Try.ntmps10
    go_wp2_with (go_at_call 52; refine (chanceLive_any _).mono ?_; rintro e w1 ⟨rfl, hx1⟩)
    go_ret
    exact ⟨rfl, Ext.of_alloc (Ext.of_alloc hx1)⟩
  by_cases h4 : 200 < m
  · clear h
    go_enter Try.func10, Try.ntmps10
    go_wp2_with (go_at_call 52; refine (chanceLive_any _).mono ?_; rintro e w1 ⟨rfl, hx1⟩)
    go_ret
    exact ⟨rfl, Ext.of_alloc (Ext.of_alloc hx1)⟩
  obtain rfl : sm = 0 := by omega
  clear h
  go_enter Try.func10, Try.ntmps10
  go_wp2_with fail
  refine (HS.out _).mono ?_
  rintro e w2 ⟨rfl, hx2⟩
  go_wp2_with (go_at_call 52; refine (chanceLive_any _).mono ?_; rintro e w1 ⟨rfl, hx1⟩)
  go_ret
  exact ⟨rfl, Ext.trans (Ext.of_alloc (Ext.of_alloc hx2)) hx1⟩

set_option maxHeartbeats 3200000 in
theorem parts_le (s : Int) (p q : Nat) (a b c d e f i j : Int) (w : World) (h0 : 0 ≤ s) (h1 : s < 18446744073709551616) (hpq : p ≤ q) (hq : q ≤ 200) (hz : sumG [a, b, c, d, e, f, i, j] 0 ≠ 0) :
    Calls Try.prog 10 #[.int .u64 s, .agg #[.int .i64 p, .int .i64 q], w8 a b c d e f i j] w fun e w' => e = .returned (.bool true) ∧ Ext w w' := by
  have hp : p ≤ 200 := by omega
  have hs1 := fun w => script_any s (p : Int) a b c d e f i j w h0 h1
  have hs2 := fun w => script_any s (q : Int) a b c d e f i j w h0 h1
  rw [scriptG_nat hz (by omega)] at hs1 hs2
  have hsum := fun w => sumR_any a b c d e f i j w
  have hkind := fun k => chAt_kind hz s k
  have hix := fun (k : Nat) (x : Int) (hx : [a, b, c, d, e, f, i, j][k]? = some x) => w8_get hx
  have hll : [a, b, c, d, e, f, i, j].length = 8 := rfl
  generalize [a, b, c, d, e, f, i, j] = l at *
  have hzb : (sumG l 0 == 0) = false := by simpa using hz
  generalize sumG l 0 = sm at *
  rw [hll] at hkind
  have HS := hid hsum
  have HS1 := hid hs1
  have HS2 := hid hs2
  have HK := hid hkind
  have HIX := hid hix
  have HLP := hid (chsN_len l s p)
  have HLQ := hid (chsN_len l s q)
  have HPQ := hid hpq
  clear hsum hs1 hs2 hkind hix hz hll h0 h1
  go_enter Try.func10, Try.ntmps10
  go_wp2_with fail
  have hgx := Blk.alloc (Blk.new w 80 #[.int .i64 p, .int .i64 q]) (.cells #[.int .i64 a, .int .i64 b, .int .i64 c, .int .i64 d, .int .i64 e, .int .i64 f, .int .i64 i, .int .i64 j] 72)
  have hgw := Blk.new (w.alloc (.cells #[.int .i64 p, .int .i64 q] 80)) 72 #[.int .i64 a, .int .i64 b, .int .i64 c, .int .i64 d, .int .i64 e, .int .i64 f, .int .i64 i, .int .i64 j]
  rw [World.size_alloc] at hgw
  have hx0 : Ext w ((w.alloc (.cells #[.int .i64 p, .int .i64 q] 80)).alloc (.cells #[.int .i64 a, .int .i64 b, .int .i64 c, .int .i64 d, .int .i64 e, .int .i64 f, .int .i64 i, .int .i64 j] 72)) := Ext.trans (ext_alloc _ _) (ext_alloc _ _)
  generalize ((w.alloc (.cells #[.int .i64 p, .int .i64 q] 80)).alloc (.cells #[.int .i64 a, .int .i64 b, .int .i64 c, .int .i64 d, .int .i64 e, .int .i64 f, .int .i64 i, .int .i64 j] 72)) = w0 at *
  refine (HS.out _).mono ?_
  rintro r w1 ⟨rfl, hx1⟩
  have hgx1 := hgx.ext hx1
  have hgw1 := hgw.ext hx1
  have e10 : w1.cell? ⟨w.heap.size, 0, none⟩ = some (.int .i64 p) := hgx1.cell 0
  have e11 : w1.cell? ⟨w.heap.size, 1, none⟩ = some (.int .i64 q) := hgx1.cell 1
  obtain ⟨q0, q1, q2, q3, q4, q5, q6, q7⟩ := w8cells hgw1
  go_wp2_with fail
  refine (HS1.out _).mono ?_
  rintro r w2 ⟨vA, rfl, hvA, hx2⟩
  have hgx2 := hgx1.ext hx2
  have hgw2 := hgw1.ext hx2
  clear e10 e11 q0 q1 q2 q3 q4 q5 q6 q7
  have e10 : w2.cell? ⟨w.heap.size, 0, none⟩ = some (.int .i64 p) := hgx2.cell 0
  have e11 : w2.cell? ⟨w.heap.size, 1, none⟩ = some (.int .i64 q) := hgx2.cell 1
  obtain ⟨q0, q1, q2, q3, q4, q5, q6, q7⟩ := w8cells hgw2
  go_wp2_with fail
  refine (HS2.out _).mono ?_
  rintro r w3 ⟨vB, rfl, hvB, hx3⟩
  have hgx3 := hgx2.ext hx3
  have hgw3 := hgw2.ext hx3
  clear e10 e11 q0 q1 q2 q3 q4 q5 q6 q7
  have e10 : w3.cell? ⟨w.heap.size, 0, none⟩ = some (.int .i64 p) := hgx3.cell 0
  have e11 : w3.cell? ⟨w.heap.size, 1, none⟩ = some (.int .i64 q) := hgx3.cell 1
  obtain ⟨q0, q1, q2, q3, q4, q5, q6, q7⟩ := w8cells hgw3
  have hsA := hvA.any.ext hx3
  have hsB := hvB.any
  obtain ⟨AA, na, ca, rfl, hna, hca, hra⟩ := hsA
  obtain ⟨AB, nb_, cb, rfl, hnb, hcb, hrb⟩ := hsB
  have hla := hra.1
  have hlb := hrb.1
  rw [HLP.out] at hla
  rw [HLQ.out] at hlb
  subst hla hlb
  have hx03 := Ext.trans hx0 (Ext.trans hx1 (Ext.trans hx2 hx3))
  clear hvA hvB hgx hgx1 hgx2 hgw hgw1 hgw2
  go_wp2
  go_loop [9] (fun x => ∃ k : Nat, k ≤ q ∧ x = .int .i64 k) (fun x => q - (intOf x).toNat)
  case atStart => exact ⟨0, Nat.zero_le _, rfl⟩
  case round =>
    obtain ⟨k, hk, rfl⟩ := hrel
    by_cases hlt : k < q
    · obtain ⟨bb, off, x, A1, c1, A2, c2, rfl, hb, hx, hs, ht, p0, p1, p2, p3, p4⟩ := hrb.ch hlt
      obtain ⟨kn, y, hkn, hy, hyz, hkd⟩ := HK.out k
      rw [← chsN_get hx] at hkd
      rw [hkd] at p0
      have hyb : (y == 0) = false := by simpa using hyz
      have hcy : w3.cell? ⟨w.heap.size + 1, kn, none⟩ = some (.int .i64 y) := (hgw3.cell kn).trans (HIX.out kn y hy)
      clear hx hs ht p1 p2 p3 p4 hkd hy hyz
      go_wp2
      go_round
      case rel => exact ⟨k + 1, by omega, by go_num⟩
      case measure => simp [intOf]; omega
    · obtain rfl : k = q := by omega
      obtain ⟨B', hrun, hcut⟩ := cut_to (P := Try.prog) Try.underlying74 info_choice (hrb.isSlice hnb hcb) (k := p) (by have := HPQ.out; omega)
      rw [chsN_take (by have := HPQ.out; omega)] at hcut
      have hsm := chSame_any _ _ _ _ (hra.isSlice hna hca) hcut
      have HSM := hid hsm
      clear hsm hcut
      go_wp2_with fail
      refine HSM.out.mono ?_
      rintro r w4 ⟨rfl, hx4⟩
      go_wp2_with fail
      refine (chanceLive_any _).mono ?_
      rintro r w5 ⟨rfl, hx5⟩
      go_wp2
      go_ret
      exact ⟨rfl, Ext.trans hx03 (Ext.trans hx4 hx5)⟩
set_option maxHeartbeats 3200000 in
theorem parts_gt (s : Int) (p q : Nat) (a b c d e f i j : Int) (w : World) (h0 : 0 ≤ s) (h1 : s < 18446744073709551616) (hpq : p < q) (hq : q ≤ 200) (hz : sumG [a, b, c, d, e, f, i, j] 0 ≠ 0) :
    Calls Try.prog 10 #[.int .u64 s, .agg #[.int .i64 q, .int .i64 p], w8 a b c d e f i j] w fun e w' => e = .returned (.bool true) ∧ Ext w w' := by
  have hp : p ≤ 200 := by omega
  have hs1 := fun w => script_any s (q : Int) a b c d e f i j w h0 h1
  have hs2 := fun w => script_any s (p : Int) a b c d e f i j w h0 h1
  rw [scriptG_nat hz (by omega)] at hs1 hs2
  have hsum := fun w => sumR_any a b c d e f i j w
  have hkind := fun k => chAt_kind hz s k
  have hix := fun (k : Nat) (x : Int) (hx : [a, b, c, d, e, f, i, j][k]? = some x) => w8_get hx
  have hll : [a, b, c, d, e, f, i, j].length = 8 := rfl
  generalize [a, b, c, d, e, f, i, j] = l at *
  have hzb : (sumG l 0 == 0) = false := by simpa using hz
  generalize sumG l 0 = sm at *
  rw [hll] at hkind
  have HS := hid hsum
  have HS1 := hid hs1
  have HS2 := hid hs2
  have HK := hid hkind
  have HIX := hid hix
  have HLP := hid (chsN_len l s p)
  have HLQ := hid (chsN_len l s q)
  have HPQ := hid hpq
  clear hsum hs1 hs2 hkind hix hz hll h0 h1
  go_enter Try.func10, Try.ntmps10
  go_wp2_with fail
  have hgx := Blk.alloc (Blk.new w 80 #[.int .i64 q, .int .i64 p]) (.cells #[.int .i64 a, .int .i64 b, .int .i64 c, .int .i64 d, .int .i64 e, .int .i64 f, .int .i64 i, .int .i64 j] 72)
  have hgw := Blk.new (w.alloc (.cells #[.int .i64 q, .int .i64 p] 80)) 72 #[.int .i64 a, .int .i64 b, .int .i64 c, .int .i64 d, .int .i64 e, .int .i64 f, .int .i64 i, .int .i64 j]
  rw [World.size_alloc] at hgw
  have hx0 : Ext w ((w.alloc (.cells #[.int .i64 q, .int .i64 p] 80)).alloc (.cells #[.int .i64 a, .int .i64 b, .int .i64 c, .int .i64 d, .int .i64 e, .int .i64 f, .int .i64 i, .int .i64 j] 72)) := Ext.trans (ext_alloc _ _) (ext_alloc _ _)
  generalize ((w.alloc (.cells #[.int .i64 q, .int .i64 p] 80)).alloc (.cells #[.int .i64 a, .int .i64 b, .int .i64 c, .int .i64 d, .int .i64 e, .int .i64 f, .int .i64 i, .int .i64 j] 72)) = w0 at *
  refine (HS.out _).mono ?_
  rintro r w1 ⟨rfl, hx1⟩
  have hgx1 := hgx.ext hx1
  have hgw1 := hgw.ext hx1
  have e10 : w1.cell? ⟨w.heap.size, 0, none⟩ = some (.int .i64 q) := hgx1.cell 0
  have e11 : w1.cell? ⟨w.heap.size, 1, none⟩ = some (.int .i64 p) := hgx1.cell 1
  obtain ⟨q0, q1, q2, q3, q4, q5, q6, q7⟩ := w8cells hgw1
  go_wp2_with fail
  refine (HS1.out _).mono ?_
  rintro r w2 ⟨vB, rfl, hvB, hx2⟩
  have hgx2 := hgx1.ext hx2
  have hgw2 := hgw1.ext hx2
  clear e10 e11 q0 q1 q2 q3 q4 q5 q6 q7
  have e10 : w2.cell? ⟨w.heap.size, 0, none⟩ = some (.int .i64 q) := hgx2.cell 0
  have e11 : w2.cell? ⟨w.heap.size, 1, none⟩ = some (.int .i64 p) := hgx2.cell 1
  obtain ⟨q0, q1, q2, q3, q4, q5, q6, q7⟩ := w8cells hgw2
  go_wp2_with fail
  refine (HS2.out _).mono ?_
  rintro r w3 ⟨vA, rfl, hvA, hx3⟩
  have hgx3 := hgx2.ext hx3
  have hgw3 := hgw2.ext hx3
  clear e10 e11 q0 q1 q2 q3 q4 q5 q6 q7
  have e10 : w3.cell? ⟨w.heap.size, 0, none⟩ = some (.int .i64 q) := hgx3.cell 0
  have e11 : w3.cell? ⟨w.heap.size, 1, none⟩ = some (.int .i64 p) := hgx3.cell 1
  obtain ⟨q0, q1, q2, q3, q4, q5, q6, q7⟩ := w8cells hgw3
  have hsB := hvB.any.ext hx3
  have hsA := hvA.any
  obtain ⟨AA, na, ca, rfl, hna, hca, hra⟩ := hsA
  obtain ⟨AB, nb_, cb, rfl, hnb, hcb, hrb⟩ := hsB
  have hla := hra.1
  have hlb := hrb.1
  rw [HLP.out] at hla
  rw [HLQ.out] at hlb
  subst hla hlb
  have hx03 := Ext.trans hx0 (Ext.trans hx1 (Ext.trans hx2 hx3))
  clear hvA hvB hgx hgx1 hgx2 hgw hgw1 hgw2
  go_wp2
  go_loop [9] (fun x => ∃ k : Nat, k ≤ q ∧ x = .int .i64 k) (fun x => q - (intOf x).toNat)
  case atStart => exact ⟨0, Nat.zero_le _, rfl⟩
  case round =>
    obtain ⟨k, hk, rfl⟩ := hrel
    by_cases hlt : k < q
    · obtain ⟨bb, off, x, A1, c1, A2, c2, rfl, hb, hx, hs, ht, p0, p1, p2, p3, p4⟩ := hrb.ch hlt
      obtain ⟨kn, y, hkn, hy, hyz, hkd⟩ := HK.out k
      rw [← chsN_get hx] at hkd
      rw [hkd] at p0
      have hyb : (y == 0) = false := by simpa using hyz
      have hcy : w3.cell? ⟨w.heap.size + 1, kn, none⟩ = some (.int .i64 y) := (hgw3.cell kn).trans (HIX.out kn y hy)
      clear hx hs ht p1 p2 p3 p4 hkd hy hyz
      go_wp2
      go_round
      case rel => exact ⟨k + 1, by omega, by go_num⟩
      case measure => simp [intOf]; omega
    · obtain rfl : k = q := by omega
      obtain ⟨B', hrun, hcut⟩ := cut_to (P := Try.prog) Try.underlying74 info_choice (hrb.isSlice hnb hcb) (k := p) (by have := HPQ.out; omega)
      rw [chsN_take (by have := HPQ.out; omega)] at hcut
      have hsm := chSame_any _ _ _ _ (hra.isSlice hna hca) hcut
      have HSM := hid hsm
      clear hsm hcut
      go_wp2_with fail
      refine HSM.out.mono ?_
      rintro r w4 ⟨rfl, hx4⟩
      go_wp2_with fail
      refine (chanceLive_any _).mono ?_
      rintro r w5 ⟨rfl, hx5⟩
      go_wp2
      go_ret
      exact ⟨rfl, Ext.trans hx03 (Ext.trans hx4 hx5)⟩
theorem parts_any (s n m : Int) (a b c d e f i j : Int) (w : World) (h0 : 0 ≤ s) (h1 : s < 18446744073709551616) :
    Calls Try.prog 10 #[.int .u64 s, .agg #[.int .i64 n, .int .i64 m], w8 a b c d e f i j] w fun e w' => e = .returned (.bool true) ∧ Ext w w' := by
  by_cases h : n < 0 ∨ m < 0 ∨ 200 < n ∨ 200 < m ∨ sumG [a, b, c, d, e, f, i, j] 0 = 0
  · exact parts_live s n m a b c d e f i j w h
  · obtain ⟨p, rfl⟩ : ∃ p : Nat, n = (p : Int) := ⟨n.toNat, by omega⟩
    obtain ⟨q, rfl⟩ : ∃ q : Nat, m = (q : Int) := ⟨m.toNat, by omega⟩
    rcases Nat.lt_or_ge q p with hlt | hge
    · exact parts_gt s q p a b c d e f i j w h0 h1 hlt (by omega) (by omega)
    · exact parts_le s p q a b c d e f i j w h0 h1 hge (by omega) (by omega)
theorem parts_frame (s : Int) (cs1 cs2 : Array Value) (x : Int × Int) (l : List Int) (S : Nat → Prop) (w : World) (h0 : 0 ≤ s) (h1 : s < 18446744073709551616)
    (hx : (repPair (repInt .i64) (repInt .i64)).holds w S (Value.agg cs1).cells.toList x) (hl : rep8.holds w S (Value.agg cs2).cells.toList l) :
    Calls Try.prog 10 #[.int .u64 s, .agg cs1, .agg cs2] w fun e w' => e = .returned (.bool true) ∧ Ext w w' := by
  obtain ⟨c, d, hcd, ⟨rfl, _⟩, ⟨rfl, _⟩⟩ := hx
  obtain ⟨k⟩ := cs1
  simp [Value.cells] at hcd
  subst hcd
  obtain ⟨a, b, c, d, e, f, i, j, he⟩ := rep8_agg hl
  rw [he]
  exact parts_any s _ _ a b c d e f i j w h0 h1
end
end Go.Proofs.Ytheopadakjojkaa
