/- Slides: are two lists of packets the same: the walk of the reference's SameAll. -/
import Derived.Deep.RegionHeld3
import Derived.Test.YtimlbebockfioaaSl
import Derived.Test.YtimlbebockfioaaBytes
import Derived.BigQuiet
import Derived.Deep.QuietTactic
namespace Go.Proofs.Ytimlbebockfioaa
open Go.RowKit

theorem RowAt.slE {w w' : World} {A n} {xs : List Sl} (h : RowAt repSl w (all w) A n xs) (he : Ext w w') {k : Nat} (hk : k < n) :
    ∃ b off x A' c, A = some ⟨b, off, none⟩ ∧ b < w'.heap.size ∧ xs[k]? = some x ∧ IsSlice repByte w' (all w') (.slice A' x.data.length c) x.data ∧
      w'.cell? ⟨b, off + k * 4, none⟩ = some (.bool x.ack) ∧ w'.cell? ⟨b, off + k * 4 + 1, none⟩ = some (.int .i64 x.seq) ∧ w'.cell? ⟨b, off + k * 4 + 2, none⟩ = some (.int .u64 x.bits) ∧
      w'.cell? ⟨b, off + k * 4 + 3, none⟩ = some (.slice A' x.data.length c) := by
  obtain ⟨b, off, ds, x, hA, hb, hx, ⟨v, rfl, hv⟩, hc⟩ := h.get hk
  obtain ⟨A', c, rfl⟩ := hv.shape
  exact ⟨b, off, x, A', c, hA, Nat.lt_of_lt_of_le hb he.size, hx, hv.ext he, (he.cell hb _).trans (hc 0 (by simp)), (he.cell hb _).trans (hc 1 (by simp)), (he.cell hb _).trans (hc 2 (by simp)), (he.cell hb _).trans (hc 3 (by simp))⟩

set_option maxRecDepth 100000
section
theorem slideSame_any (a : Bool) (q t : Int) (v u : Value) (xs : List UInt8) (w : World) (h : IsSlice repByte w (all w) v xs) (h' : IsSlice repByte w (all w) u xs) :
    Calls Try.prog 60 #[.agg #[.bool a, .int .i64 q, .int .u64 t, v], .agg #[.bool a, .int .i64 q, .int .u64 t, u]] w fun e w' => e = .returned (.bool true) ∧ Ext w w' := by
  have hb := fun w1 (he : Ext w w1) => sameB_any v u xs xs w1 (h.ext he) (h'.ext he)
  simp only [decide_true] at hb
  have HB := hid hb
  obtain ⟨uA, uc, rfl⟩ := h.shape
  obtain ⟨vA, vc, rfl⟩ := h'.shape
  clear hb h h'
  generalize xs.length = n at *
  go_enter Try.func60, Try.ntmps60
  go_wp2_with fail
  refine (HB.out _ (Ext.trans (ext_alloc _ _) (ext_alloc _ _))).mono ?_
  rintro e w1 ⟨rfl, k1, rfl⟩
  go_wp2
  go_ret
  exact ⟨rfl, Ext.trans (Ext.trans (ext_alloc _ _) (ext_alloc _ _)) (ext_drewN _ _)⟩
set_option maxHeartbeats 800000 in
theorem slidesSame_any (v u : Value) (xs : List Sl) (w : World) (h : IsSlice repSl w (all w) v xs) (h' : IsSlice repSl w (all w) u xs) :
    Calls Try.prog 30 #[v, u] w fun e w' => e = .returned (.bool true) ∧ Ext w w' := by
  obtain ⟨A, n, c, rfl, hnc, hcm, hrow⟩ := h
  obtain ⟨A', n', c', rfl, hnc', hcm', hrow'⟩ := h'
  have hn := hrow.1
  have hn' := hrow'.1
  have hmax : n ≤ 9223372036854775807 := by unfold maxLen at hcm; omega
  obtain rfl : n = n' := by omega
  clear hn hn'
  go_enter Try.func30, Try.ntmps30
  go_wp2
  go_loopw [5] (fun i wr => ∃ j : Nat, j ≤ n ∧ i = .int .i64 j ∧ Ext w wr) (fun i _ => n - (intOf i).toNat)
  case atStart => exact ⟨0, Nat.zero_le _, rfl, Below.refl _ _⟩
  case round =>
    obtain ⟨j, hj, rfl, hext⟩ := hrel
    by_cases hlt : j < n
    · obtain ⟨b, off, x, A1, c1, rfl, hb, hx, hs, p0, p1, p2, p3⟩ := hrow.slE hext hlt
      obtain ⟨b', off', y, B1, d1, rfl, hb', hy, hs', q0, q1, q2, q3⟩ := hrow'.slE hext hlt
      obtain rfl : x = y := by rw [hx] at hy; injection hy
      have hsc := fun w1 (he : Ext wr w1) => slideSame_any x.ack x.seq x.bits _ _ x.data w1 (hs.ext he) (hs'.ext he)
      have HSC := hid hsc
      clear hx hy hs hs' hsc
      generalize x.data.length = un at *
      generalize x.ack = kd at *
      generalize x.seq = wh at *
      generalize x.bits = att at *
      have hrel : ∀ w1, Ext wr w1 → (w1.cell? ⟨b, off + j * 4, none⟩ = some (.bool kd) ∧ w1.cell? ⟨b, off + j * 4 + 1, none⟩ = some (.int .i64 wh) ∧ w1.cell? ⟨b, off + j * 4 + 2, none⟩ = some (.int .u64 att) ∧ w1.cell? ⟨b, off + j * 4 + 3, none⟩ = some (.slice A1 un c1)) ∧ (w1.cell? ⟨b', off' + j * 4, none⟩ = some (.bool kd) ∧ w1.cell? ⟨b', off' + j * 4 + 1, none⟩ = some (.int .i64 wh) ∧ w1.cell? ⟨b', off' + j * 4 + 2, none⟩ = some (.int .u64 att) ∧ w1.cell? ⟨b', off' + j * 4 + 3, none⟩ = some (.slice B1 un d1)) ∧ Ext wr w1 :=
        fun w1 he => ⟨⟨(he.cell hb _).trans p0, (he.cell hb _).trans p1, (he.cell hb _).trans p2, (he.cell hb _).trans p3⟩, ⟨(he.cell hb' _).trans q0, (he.cell hb' _).trans q1, (he.cell hb' _).trans q2, (he.cell hb' _).trans q3⟩, he⟩
      have HR := hid hrel
      have xd : Ext wr wr.drew := Below.drew (Below.refl _ _)
      clear hrel
      go_wp2
      go_region_held3 (fun w' => (w'.cell? ⟨b, off + j * 4, none⟩ = some (.bool kd) ∧ w'.cell? ⟨b, off + j * 4 + 1, none⟩ = some (.int .i64 wh) ∧ w'.cell? ⟨b, off + j * 4 + 2, none⟩ = some (.int .u64 att) ∧ w'.cell? ⟨b, off + j * 4 + 3, none⟩ = some (.slice A1 un c1)) ∧ (w'.cell? ⟨b', off' + j * 4, none⟩ = some (.bool kd) ∧ w'.cell? ⟨b', off' + j * 4 + 1, none⟩ = some (.int .i64 wh) ∧ w'.cell? ⟨b', off' + j * 4 + 2, none⟩ = some (.int .u64 att) ∧ w'.cell? ⟨b', off' + j * 4 + 3, none⟩ = some (.slice B1 un d1)) ∧ Ext wr w')
        (first | with_reducible exact HR.out _ xd | with_reducible exact HR.out _ xd3)
        (first
          | (go_at_call 60; refine (HSC.out _ xd).mono ?_; rintro e w3 ⟨rfl, hx3⟩; have xd3 := Ext.trans xd hx3))
      go_wp2
      go_roundw
      case rel => exact ⟨j + 1, by omega, by go_num, Ext.trans hext xd3⟩
      case measure => simp [intOf]; omega
    · obtain rfl : j = n := by omega
      go_wp2
      go_ret
      exact ⟨rfl, hext⟩
end
end Go.Proofs.Ytimlbebockfioaa
