/- The walks that compare choices: alike ones are the same. -/
import Derived.Test.YtheopadakjojkaaScript
namespace Go.Proofs.Ytheopadakjojkaa
open Go.RowKit

theorem RowAt.ed {w : World} {S : Nat → Prop} {A n} {xs : List Ed} (h : RowAt repEd w S A n xs) {k : Nat} (hk : k < n) :
    ∃ b off x, A = some ⟨b, off, none⟩ ∧ S b ∧ xs[k]? = some x ∧
      w.cell? ⟨b, off + k * 3, none⟩ = some (.int .i64 x.kind) ∧ w.cell? ⟨b, off + k * 3 + 1, none⟩ = some (.int .i64 x.at_) ∧ w.cell? ⟨b, off + k * 3 + 2, none⟩ = some (.int .u8 (x.b.toNat : Int)) := by
  obtain ⟨b, off, ds, x, hA, hb, hx, rfl, hc⟩ := h.get hk
  exact ⟨b, off, x, hA, hb, hx, hc 0 (by simp), hc 1 (by simp), hc 2 (by simp)⟩
theorem RowAt.ch {w : World} {S : Nat → Prop} {A n} {xs : List Ch} (h : RowAt repCh w S A n xs) {k : Nat} (hk : k < n) :
    ∃ b off x A' c A'' c', A = some ⟨b, off, none⟩ ∧ S b ∧ xs[k]? = some x ∧ IsSlice repByte w S (.slice A' x.data.length c) x.data ∧ IsSlice repEd w S (.slice A'' x.edits.length c') x.edits ∧
      w.cell? ⟨b, off + k * 5, none⟩ = some (.int .i64 x.kind) ∧ w.cell? ⟨b, off + k * 5 + 1, none⟩ = some (.int .i64 x.who) ∧ w.cell? ⟨b, off + k * 5 + 2, none⟩ = some (.int .i64 x.at_) ∧
      w.cell? ⟨b, off + k * 5 + 3, none⟩ = some (.slice A' x.data.length c) ∧ w.cell? ⟨b, off + k * 5 + 4, none⟩ = some (.slice A'' x.edits.length c') := by
  obtain ⟨b, off, ds, x, hA, hb, hx, ⟨u, v, rfl, hu, hv⟩, hc⟩ := h.get hk
  obtain ⟨A', c, rfl⟩ := hu.shape
  obtain ⟨A'', c', rfl⟩ := hv.shape
  exact ⟨b, off, x, A', c, A'', c', hA, hb, hx, hu, hv, hc 0 (by simp), hc 1 (by simp), hc 2 (by simp), hc 3 (by simp), hc 4 (by simp)⟩
theorem RowAt.chE {w w' : World} {A n} {xs : List Ch} (h : RowAt repCh w (all w) A n xs) (he : Ext w w') {k : Nat} (hk : k < n) :
    ∃ b off x A' c A'' c', A = some ⟨b, off, none⟩ ∧ b < w'.heap.size ∧ xs[k]? = some x ∧ IsSlice repByte w' (all w') (.slice A' x.data.length c) x.data ∧ IsSlice repEd w' (all w') (.slice A'' x.edits.length c') x.edits ∧
      w'.cell? ⟨b, off + k * 5, none⟩ = some (.int .i64 x.kind) ∧ w'.cell? ⟨b, off + k * 5 + 1, none⟩ = some (.int .i64 x.who) ∧ w'.cell? ⟨b, off + k * 5 + 2, none⟩ = some (.int .i64 x.at_) ∧
      w'.cell? ⟨b, off + k * 5 + 3, none⟩ = some (.slice A' x.data.length c) ∧ w'.cell? ⟨b, off + k * 5 + 4, none⟩ = some (.slice A'' x.edits.length c') := (h.ext he).ch hk

set_option maxRecDepth 100000
section
theorem editsSame_any (v u : Value) (xs : List Ed) (w : World) (h : IsSlice repEd w (all w) v xs) (h' : IsSlice repEd w (all w) u xs) :
    Calls Try.prog 108 #[v, u] w fun e w' => e = .returned (.bool true) ∧ ∃ k, w' = w.drewN k := by
  obtain ⟨A, n, c, rfl, hnc, hcm, hrow⟩ := h
  obtain ⟨A', n', c', rfl, hnc', hcm', hrow'⟩ := h'
  have hn := hrow.1
  have hn' := hrow'.1
  have hmax : n ≤ 9223372036854775807 := by unfold maxLen at hcm; omega
  obtain rfl : n = n' := by omega
  clear hn hn'
  go_enter Try.func108, Try.ntmps108
  go_wp2
  go_loopw [5] (fun i wr => ∃ j : Nat, j ≤ n ∧ i = .int .i64 j ∧ ∃ k, wr = w.drewN k) (fun i _ => n - (intOf i).toNat)
  case atStart => exact ⟨0, Nat.zero_le _, rfl, 0, rfl⟩
  case round =>
    obtain ⟨j, hj, rfl, nd, rfl⟩ := hrel
    by_cases hlt : j < n
    · obtain ⟨b, off, x, rfl, hb, hx, hc0, hc1, hc2⟩ := hrow.ed hlt
      obtain ⟨b', off', y, rfl, hb', hy, hd0, hd1, hd2⟩ := hrow'.ed hlt
      obtain rfl : x = y := by rw [hx] at hy; injection hy
      clear hx hy
      go_wp2
      go_quiet (fail)
      go_wp2
      go_roundw
      case rel => exact ⟨j + 1, by omega, by go_num, _, by first | rfl | exact World.drewN_drewN _ _ _⟩
      case measure => simp [intOf]; omega
    · obtain rfl : j = n := by omega
      go_wp2
      go_ret
      exact ⟨rfl, _, rfl⟩

set_option maxHeartbeats 800000 in
theorem sameChoice_any (k o t : Int) (xs : List UInt8) (es : List Ed) (u v u' v' : Value) (w : World) (hu : IsSlice repByte w (all w) u xs) (hv : IsSlice repEd w (all w) v es) (hu' : IsSlice repByte w (all w) u' xs) (hv' : IsSlice repEd w (all w) v' es) :
    Calls Try.prog 94 #[.agg #[.int .i64 k, .int .i64 o, .int .i64 t, u, v], .agg #[.int .i64 k, .int .i64 o, .int .i64 t, u', v']] w fun e w' => e = .returned (.bool true) ∧ Ext w w' := by
  have hb := fun w1 (he : Ext w w1) => sameB_any u u' xs xs w1 (hu.ext he) (hu'.ext he)
  have hd := fun w1 (he : Ext w w1) => editsSame_any v v' es w1 (hv.ext he) (hv'.ext he)
  simp only [decide_true] at hb
  have HB := hid hb
  have HD := hid hd
  obtain ⟨uA, uc, rfl⟩ := hu.shape
  obtain ⟨vA, vc, rfl⟩ := hv.shape
  obtain ⟨uB, ud, rfl⟩ := hu'.shape
  obtain ⟨vB, vd, rfl⟩ := hv'.shape
  clear hb hd hu hv hu' hv'
  generalize xs.length = n at *
  generalize es.length = m at *
  go_enter Try.func94, Try.ntmps94
  go_wp2_with fail
  refine (HB.out _ (Ext.trans (ext_alloc _ _) (ext_alloc _ _))).mono ?_
  rintro e w1 ⟨rfl, k1, rfl⟩
  go_wp2_with fail
  refine (HD.out _ (Ext.trans (Ext.trans (ext_alloc _ _) (ext_alloc _ _)) (ext_drewN _ _))).mono ?_
  rintro e w2 ⟨rfl, k2, rfl⟩
  go_wp2
  go_ret
  exact ⟨rfl, Ext.trans (Ext.trans (ext_alloc _ _) (ext_alloc _ _)) (ext_drewN _ _)⟩

set_option maxHeartbeats 800000 in
theorem chSame_any (v u : Value) (xs : List Ch) (w : World) (h : IsSlice repCh w (all w) v xs) (h' : IsSlice repCh w (all w) u xs) :
    Calls Try.prog 53 #[v, u] w fun e w' => e = .returned (.bool true) ∧ Ext w w' := by
  obtain ⟨A, n, c, rfl, hnc, hcm, hrow⟩ := h
  obtain ⟨A', n', c', rfl, hnc', hcm', hrow'⟩ := h'
  have hn := hrow.1
  have hn' := hrow'.1
  have hmax : n ≤ 9223372036854775807 := by unfold maxLen at hcm; omega
  obtain rfl : n = n' := by omega
  clear hn hn'
  go_enter Try.func53, Try.ntmps53
  go_wp2
  go_loopw [5] (fun i wr => ∃ j : Nat, j ≤ n ∧ i = .int .i64 j ∧ Ext w wr) (fun i _ => n - (intOf i).toNat)
  case atStart => exact ⟨0, Nat.zero_le _, rfl, Below.refl _ _⟩
  case round =>
    obtain ⟨j, hj, rfl, hext⟩ := hrel
    by_cases hlt : j < n
    · obtain ⟨b, off, x, A1, c1, A2, c2, rfl, hb, hx, hs, ht, p0, p1, p2, p3, p4⟩ := hrow.chE hext hlt
      obtain ⟨b', off', y, B1, d1, B2, d2, rfl, hb', hy, hs', ht', q0, q1, q2, q3, q4⟩ := hrow'.chE hext hlt
      obtain rfl : x = y := by rw [hx] at hy; injection hy
      have hsc := fun w1 (he : Ext wr w1) => sameChoice_any x.kind x.who x.at_ x.data x.edits _ _ _ _ w1 (hs.ext he) (ht.ext he) (hs'.ext he) (ht'.ext he)
      have HSC := hid hsc
      clear hx hy hs ht hs' ht' hsc
      generalize x.data.length = un at *
      generalize x.edits.length = vn at *
      generalize x.kind = kd at *
      generalize x.who = wh at *
      generalize x.at_ = att at *
      have hrel : ∀ w1, Ext wr w1 → (w1.cell? ⟨b, off + j * 5, none⟩ = some (.int .i64 kd) ∧ w1.cell? ⟨b, off + j * 5 + 1, none⟩ = some (.int .i64 wh) ∧ w1.cell? ⟨b, off + j * 5 + 2, none⟩ = some (.int .i64 att) ∧ w1.cell? ⟨b, off + j * 5 + 3, none⟩ = some (.slice A1 un c1) ∧ w1.cell? ⟨b, off + j * 5 + 4, none⟩ = some (.slice A2 vn c2)) ∧ (w1.cell? ⟨b', off' + j * 5, none⟩ = some (.int .i64 kd) ∧ w1.cell? ⟨b', off' + j * 5 + 1, none⟩ = some (.int .i64 wh) ∧ w1.cell? ⟨b', off' + j * 5 + 2, none⟩ = some (.int .i64 att) ∧ w1.cell? ⟨b', off' + j * 5 + 3, none⟩ = some (.slice B1 un d1) ∧ w1.cell? ⟨b', off' + j * 5 + 4, none⟩ = some (.slice B2 vn d2)) ∧ Ext wr w1 :=
        fun w1 he => ⟨⟨(he.cell hb _).trans p0, (he.cell hb _).trans p1, (he.cell hb _).trans p2, (he.cell hb _).trans p3, (he.cell hb _).trans p4⟩, ⟨(he.cell hb' _).trans q0, (he.cell hb' _).trans q1, (he.cell hb' _).trans q2, (he.cell hb' _).trans q3, (he.cell hb' _).trans q4⟩, he⟩
      have HR := hid hrel
      have xd : Ext wr wr.drew := Below.drew (Below.refl _ _)
      clear hrel
      go_wp2
      go_region_held3 (fun w' => (w'.cell? ⟨b, off + j * 5, none⟩ = some (.int .i64 kd) ∧ w'.cell? ⟨b, off + j * 5 + 1, none⟩ = some (.int .i64 wh) ∧ w'.cell? ⟨b, off + j * 5 + 2, none⟩ = some (.int .i64 att) ∧ w'.cell? ⟨b, off + j * 5 + 3, none⟩ = some (.slice A1 un c1) ∧ w'.cell? ⟨b, off + j * 5 + 4, none⟩ = some (.slice A2 vn c2)) ∧ (w'.cell? ⟨b', off' + j * 5, none⟩ = some (.int .i64 kd) ∧ w'.cell? ⟨b', off' + j * 5 + 1, none⟩ = some (.int .i64 wh) ∧ w'.cell? ⟨b', off' + j * 5 + 2, none⟩ = some (.int .i64 att) ∧ w'.cell? ⟨b', off' + j * 5 + 3, none⟩ = some (.slice B1 un d1) ∧ w'.cell? ⟨b', off' + j * 5 + 4, none⟩ = some (.slice B2 vn d2)) ∧ Ext wr w')
        (first | with_reducible exact HR.out _ xd | with_reducible exact HR.out _ xd3)
        (first
          | (go_at_call 94; refine (HSC.out _ xd).mono ?_; rintro e w3 ⟨rfl, hx3⟩; have xd3 := Ext.trans xd hx3; obtain ⟨⟨p0, p1, p2, p3, p4⟩, ⟨q0, q1, q2, q3, q4⟩, _⟩ := HR.out _ xd3))
      go_wp2
      go_roundw
      case rel => exact ⟨j + 1, by omega, by go_num, Ext.trans hext xd3⟩
      case measure => simp [intOf]; omega
    · obtain rfl : j = n := by omega
      go_wp2
      go_ret
      exact ⟨rfl, hext⟩

theorem script_live : scriptG 1 2 [0, 1, 0, 0, 0, 0, 0, 0] = [⟨1, 0, 0, [], []⟩, ⟨1, 0, 0, [], []⟩] := by
  have hb : ∀ s, belowI s 1 = 0 := fun s => by have := below_range s (n := 1) (by omega); omega
  have hs : sumG [0, 1, 0, 0, 0, 0, 0, 0] 0 = 1 := by decide
  have h1 : ∀ s, oneG [0, 1, 0, 0, 0, 0, 0, 0] s = (⟨1, 0, 0, [], []⟩, stepI s) := fun s => by
    unfold oneG
    rw [hs, hb]
    rfl
  unfold scriptG
  rw [hs, if_neg (by omega)]
  show [chAt _ _ 0, chAt _ _ 1] = _
  unfold chAt
  rw [h1, h1]
theorem chanceLive_any (w : World) : Calls Try.prog 52 #[] w fun e w' => e = .returned (.bool true) ∧ Ext w w' := by
  have hsc := script_any 1 2 0 1 0 0 0 0 0 0 w (by omega) (by omega)
  rw [script_live] at hsc
  have HSC := hid hsc
  clear hsc
  go_enter Try.func52, Try.ntmps52
  go_wp2_with fail
  refine HSC.out.mono ?_
  rintro e w1 ⟨v, rfl, hv, hx1⟩
  go_wp2_with fail
  refine (chSame_any _ _ _ _ (hv.any.ext (ext_alloc _ _)) ?_).mono ?_
  · refine (own_lit (r := repCh) (base := w1.heap.size) (xs := [⟨1, 0, 0, [], []⟩, ⟨1, 0, 0, [], []⟩]) (Nat.le_refl _) (by simp [maxLen]) rfl fun j hj => ?_).slice
    match j, hj with
    | 0, _ => exact ⟨_, _, rfl, isSlice_nil _ _ _, isSlice_nil _ _ _⟩
    | 1, _ => exact ⟨_, _, rfl, isSlice_nil _ _ _, isSlice_nil _ _ _⟩
    | n + 2, h => exact absurd h (by simp)
  · rintro e w2 ⟨rfl, hx2⟩
    go_wp2
    go_ret
    exact ⟨rfl, Ext.trans hx1 (Ext.of_alloc hx2)⟩
end
end Go.Proofs.Ytheopadakjojkaa
