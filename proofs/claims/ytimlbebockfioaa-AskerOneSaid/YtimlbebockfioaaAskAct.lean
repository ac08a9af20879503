/- What happens to an asker: acts as arguments; are they huge; the number of an error; are two lists of packets the same. -/
import Derived.Test.YtimlbebockfioaaTok
import Derived.Test.YtimlbebockfioaaBytes
import Derived.Test.YtimlbebockfioaaRows
import Derived.Deep.RegionHeld3
import Derived.BigQuiet
import Derived.Deep.QuietTactic
namespace Go.Proofs.Ytimlbebockfioaa
open Go.RowKit

structure Aa where
  kind : Int
  n : Int
  m : List UInt8
  p : Tk
def repAa : Rep Aa where
  size := 8
  holds w S cs x := ∃ v u, cs = [.int .i64 x.kind, .int .i64 x.n, v, .int .i64 x.p.kind, .int .u64 x.p.t, .int .u64 x.p.c, .int .u64 x.p.r, u] ∧ IsSlice repByte w S v x.m ∧ IsSlice repByte w S u x.p.data
  len := by rintro _ _ _ _ ⟨v, u, rfl, _⟩; rfl
  one := by
    rintro _ _ _ _ ⟨v, u, rfl, h1, h2⟩ y hy
    obtain ⟨A, c, rfl⟩ := h1.shape
    obtain ⟨A2, c2, rfl⟩ := h2.shape
    simp at hy
    rcases hy with rfl | rfl | rfl | rfl | rfl | rfl | rfl | rfl <;> rfl
  keepP := by
    rintro _ _ _ _ _ _ ⟨v, u, rfl, h1, h2⟩ hk
    exact ⟨v, u, rfl, h1.keepP hk, h2.keepP hk⟩
theorem RowAt.aa {w : World} {S : Nat → Prop} {A n} {xs : List Aa} (h : RowAt repAa w S A n xs) {k : Nat} (hk : k < n) :
    ∃ b off x A1 c1 A2 c2, A = some ⟨b, off, none⟩ ∧ S b ∧ xs[k]? = some x ∧ IsSlice repByte w S (.slice A1 x.m.length c1) x.m ∧ IsSlice repByte w S (.slice A2 x.p.data.length c2) x.p.data ∧
      w.cell? ⟨b, off + k * 8, none⟩ = some (.int .i64 x.kind) ∧ w.cell? ⟨b, off + k * 8 + 1, none⟩ = some (.int .i64 x.n) ∧ w.cell? ⟨b, off + k * 8 + 2, none⟩ = some (.slice A1 x.m.length c1) ∧ w.cell? ⟨b, off + k * 8 + 3, none⟩ = some (.int .i64 x.p.kind) ∧
      w.cell? ⟨b, off + k * 8 + 4, none⟩ = some (.int .u64 x.p.t) ∧ w.cell? ⟨b, off + k * 8 + 5, none⟩ = some (.int .u64 x.p.c) ∧ w.cell? ⟨b, off + k * 8 + 6, none⟩ = some (.int .u64 x.p.r) ∧ w.cell? ⟨b, off + k * 8 + 7, none⟩ = some (.slice A2 x.p.data.length c2) := by
  obtain ⟨b, off, ds, x, hA, hb, hx, ⟨v, u, rfl, h1, h2⟩, hc⟩ := h.get hk
  obtain ⟨A1, c1, rfl⟩ := h1.shape
  obtain ⟨A2, c2, rfl⟩ := h2.shape
  exact ⟨b, off, x, A1, c1, A2, c2, hA, hb, hx, h1, h2, hc 0 (by simp), hc 1 (by simp), hc 2 (by simp), hc 3 (by simp), hc 4 (by simp), hc 5 (by simp), hc 6 (by simp), hc 7 (by simp)⟩
def bigK (x : Aa) : Bool := decide (200 < x.m.length) || decide (200 < x.p.data.length)
def hugeK (l : List Aa) (nd : Nat) : Bool := (l.take 200).any bigK || (decide (100 < l.length) || decide (200 < nd))
theorem hugeK_no {l : List Aa} {nd : Nat} (h : hugeK l nd = false) : l.length ≤ 100 ∧ nd ≤ 200 ∧ ∀ x ∈ l, x.m.length ≤ 200 ∧ x.p.data.length ≤ 200 := by
  unfold hugeK at h
  rw [Bool.or_eq_false_iff, Bool.or_eq_false_iff] at h
  have hl : l.length ≤ 100 := by have := of_decide_eq_false h.2.1; omega
  refine ⟨hl, by have := of_decide_eq_false h.2.2; omega, fun x hx => ?_⟩
  rw [List.take_of_length_le (by omega), List.any_eq_false] at h
  have h1 := h.1 x hx
  unfold bigK at h1
  simp at h1
  exact h1
theorem RowAt.tkE {w w' : World} {A n} {xs : List Tk} (h : RowAt repTk w (all w) A n xs) (he : Ext w w') {k : Nat} (hk : k < n) :
    ∃ b off x A' c, A = some ⟨b, off, none⟩ ∧ b < w'.heap.size ∧ xs[k]? = some x ∧ IsSlice repByte w' (all w') (.slice A' x.data.length c) x.data ∧ w'.cell? ⟨b, off + k * 5, none⟩ = some (.int .i64 x.kind) ∧ w'.cell? ⟨b, off + k * 5 + 1, none⟩ = some (.int .u64 x.t) ∧
      w'.cell? ⟨b, off + k * 5 + 2, none⟩ = some (.int .u64 x.c) ∧ w'.cell? ⟨b, off + k * 5 + 3, none⟩ = some (.int .u64 x.r) ∧ w'.cell? ⟨b, off + k * 5 + 4, none⟩ = some (.slice A' x.data.length c) := by
  obtain ⟨b, off, x, A', c, hA, hb, hx, hv, h0, h1, h2, h3, h4⟩ := h.tk hk
  exact ⟨b, off, x, A', c, hA, Nat.lt_of_lt_of_le hb he.size, hx, hv.ext he, (he.cell hb _).trans h0, (he.cell hb _).trans h1, (he.cell hb _).trans h2, (he.cell hb _).trans h3, (he.cell hb _).trans h4⟩
set_option maxRecDepth 100000
section
theorem knum_any (x : Int) (w : World) : Calls Try.prog 22 #[.int .i64 x] w fun e w' => e = .returned (.int .i64 x) ∧ w = w' := by
  go_enter Try.func22, Try.ntmps22
  go_wp2
  go_ret
  exact ⟨rfl, rfl⟩
set_option maxHeartbeats 1000000 in
theorem hugeK_any (v : Value) (l : List Aa) (w : World) (h : IsSlice repAa w (all w) v l) (Ad : Option Addr) (nd cd : Nat) :
    Calls Try.prog 21 #[v, .slice Ad nd cd] w fun e w' => e = .returned (.bool (hugeK l nd)) ∧ w = w' := by
  obtain ⟨A, n, c, rfl, hnc, hcm, hrow⟩ := h
  have hn := hrow.1
  unfold maxLen at hcm
  have HN := hid hn
  obtain ⟨R, hR⟩ : ∃ R, R = hugeK l nd := ⟨_, rfl⟩
  rw [← hR]
  have HR := hid hR
  clear hn hR
  go_enter Try.func21, Try.ntmps21
  go_wp2
  go_loop [5] (fun i => ∃ j : Nat, j ≤ n ∧ j ≤ 200 ∧ i = .int .i64 j ∧ Wall ((l.take j).any bigK = false)) (fun i => 200 - (intOf i).toNat)
  case atStart => exact ⟨0, Nat.zero_le _, Nat.zero_le _, rfl, hid (by simp)⟩
  case round =>
    obtain ⟨j, hj, hj2, rfl, hJ⟩ := hrel
    by_cases hlt : j < n
    · by_cases hlt2 : j < 200
      · obtain ⟨b, off, x, A1, c1, A2, c2, rfl, _, hx, _, _, _, _, m2, _, _, _, _, m7⟩ := hrow.aa hlt
        have htk := take_succ_of hx
        obtain ⟨dl, hdl⟩ : ∃ dl, dl = x.p.data.length := ⟨_, rfl⟩
        rw [← hdl] at m7
        obtain ⟨ml, hml⟩ : ∃ ml, ml = x.m.length := ⟨_, rfl⟩
        rw [← hml] at m2
        by_cases hb : 200 < ml ∨ 200 < dl
        · have hR1 : R = true := by
            rw [HR.out]
            unfold hugeK
            rw [Bool.or_eq_true]
            left
            rw [List.any_eq_true]
            refine ⟨x, List.mem_take_iff_getElem.2 ⟨j, by have := lt_of_get hx; omega, by rw [List.getElem?_eq_getElem (lt_of_get hx)] at hx; injection hx⟩, ?_⟩
            unfold bigK
            rw [Bool.or_eq_true]
            rcases hb with hb | hb
            · exact .inl (decide_eq_true (by omega))
            · exact .inr (decide_eq_true (by omega))
          subst hR1
          by_cases hb1 : 200 < ml
          · have hB : decide (200 < ml) = true := decide_eq_true hb1
            have hB2 : decide ((200 : Int) < (ml : Int)) = true := decide_eq_true (by omega)
            clear hx htk hdl HR hml hb
            go_wp2
            go_ret
            exact ⟨rfl, rfl⟩
          · have hB : decide (200 < ml) = false := decide_eq_false hb1
            have hB2 : decide ((200 : Int) < (ml : Int)) = false := decide_eq_false (by omega)
            have hB3 : decide (200 < dl) = true := decide_eq_true (by omega)
            have hB4 : decide ((200 : Int) < (dl : Int)) = true := decide_eq_true (by omega)
            clear hx htk hdl HR hml hb
            go_wp2
            go_ret
            exact ⟨rfl, rfl⟩
        · have hJ2 : (l.take (j + 1)).any bigK = false := by
            rw [htk, List.any_append, hJ.out, Bool.false_or]
            simp only [List.any_cons, List.any_nil, Bool.or_false]
            unfold bigK
            rw [Bool.or_eq_false_iff]
            exact ⟨decide_eq_false (by omega), decide_eq_false (by omega)⟩
          have HJ2 := hid hJ2
          have hB : decide (200 < dl) = false := decide_eq_false (by omega)
          have hB2 : decide ((200 : Int) < (dl : Int)) = false := decide_eq_false (by omega)
          have hB3 : decide (200 < ml) = false := decide_eq_false (by omega)
          have hB4 : decide ((200 : Int) < (ml : Int)) = false := decide_eq_false (by omega)
          clear hx htk hdl hJ2 hJ hml hb
          go_wp2
          go_round
          case rel => exact ⟨j + 1, by omega, by omega, by go_num, HJ2⟩
          case measure => simp [intOf]; omega
      · have hR1 : R = true := by
          rw [HR.out]
          unfold hugeK
          rw [decide_eq_true (show 100 < l.length by have := HN.out; omega)]
          simp
        have hB3 : decide ((j : Int) < 200) = false := decide_eq_false (by omega)
        have hB4 : decide (j < 200) = false := decide_eq_false (by omega)
        have hB1 : decide (100 < n) = true := decide_eq_true (by omega)
        have hB2 : decide ((100 : Int) < (n : Int)) = true := decide_eq_true (by omega)
        subst hR1
        clear hJ HR
        go_wp2
        go_ret
        exact ⟨rfl, rfl⟩
    · obtain rfl : j = n := by omega
      have hR1 : R = (decide (100 < j) || decide (200 < nd)) := by
        rw [HR.out]
        unfold hugeK
        rw [show l.take 200 = l.take j from by rw [List.take_of_length_le (by have := HN.out; omega), List.take_of_length_le (by have := HN.out; omega)], hJ.out, HN.out, Bool.false_or]
      have HR1 := hid hR1
      clear hR1 hJ
      by_cases hb : 100 < j
      · have hB1 : decide (100 < j) = true := decide_eq_true hb
        have hB2 : decide ((100 : Int) < (j : Int)) = true := decide_eq_true (by omega)
        go_wp2
        go_ret
        exact ⟨ret_bool (by rw [HR1.out, hB1]; rfl), rfl⟩
      · have hB1 : decide (100 < j) = false := decide_eq_false hb
        have hB2 : decide ((100 : Int) < (j : Int)) = false := decide_eq_false (by omega)
        by_cases hd : 200 < nd
        · have hD1 : decide (200 < nd) = true := decide_eq_true hd
          have hD2 : decide ((200 : Int) < (nd : Int)) = true := decide_eq_true (by omega)
          go_wp2
          go_ret
          exact ⟨ret_bool (by rw [HR1.out, hB1, hD1]; rfl), rfl⟩
        · have hD1 : decide (200 < nd) = false := decide_eq_false hd
          have hD2 : decide ((200 : Int) < (nd : Int)) = false := decide_eq_false (by omega)
          go_wp2
          go_ret
          exact ⟨ret_bool (by rw [HR1.out, hB1, hD1]; rfl), rfl⟩
theorem tokSame_any (k t c r : Int) (v u : Value) (xs : List UInt8) (w : World) (h : IsSlice repByte w (all w) v xs) (h' : IsSlice repByte w (all w) u xs) :
    Calls Try.prog 76 #[.agg #[.int .i64 k, .int .u64 t, .int .u64 c, .int .u64 r, v], .agg #[.int .i64 k, .int .u64 t, .int .u64 c, .int .u64 r, u]] w fun e w' => e = .returned (.bool true) ∧ Ext w w' := by
  have hb := fun w1 (he : Ext w w1) => sameB_any v u xs xs w1 (h.ext he) (h'.ext he)
  simp only [decide_true] at hb
  have HB := hid hb
  obtain ⟨uA, uc, rfl⟩ := h.shape
  obtain ⟨vA, vc, rfl⟩ := h'.shape
  clear hb h h'
  generalize xs.length = n at *
  go_enter Try.func76, Try.ntmps76
  go_wp2_with fail
  refine (HB.out _ (Ext.trans (ext_alloc _ _) (ext_alloc _ _))).mono ?_
  rintro e w1 ⟨rfl, k1, rfl⟩
  go_wp2
  go_ret
  exact ⟨rfl, Ext.trans (Ext.trans (ext_alloc _ _) (ext_alloc _ _)) (ext_drewN _ _)⟩
set_option maxHeartbeats 800000 in
theorem toksSame_any (v u : Value) (xs : List Tk) (w : World) (h : IsSlice repTk w (all w) v xs) (h' : IsSlice repTk w (all w) u xs) :
    Calls Try.prog 50 #[v, u] w fun e w' => e = .returned (.bool true) ∧ Ext w w' := by
  obtain ⟨A, n, c, rfl, hnc, hcm, hrow⟩ := h
  obtain ⟨A', n', c', rfl, hnc', hcm', hrow'⟩ := h'
  have hn := hrow.1
  have hn' := hrow'.1
  have hmax : n ≤ 9223372036854775807 := by unfold maxLen at hcm; omega
  obtain rfl : n = n' := by omega
  clear hn hn'
  go_enter Try.func50, Try.ntmps50
  go_wp2
  go_loopw [5] (fun i wr => ∃ j : Nat, j ≤ n ∧ i = .int .i64 j ∧ Ext w wr) (fun i _ => n - (intOf i).toNat)
  case atStart => exact ⟨0, Nat.zero_le _, rfl, Below.refl _ _⟩
  case round =>
    obtain ⟨j, hj, rfl, hext⟩ := hrel
    by_cases hlt : j < n
    · obtain ⟨b, off, x, A1, c1, rfl, hb, hx, hs, p0, p1, p2, p3, p4⟩ := hrow.tkE hext hlt
      obtain ⟨b', off', y, B1, d1, rfl, hb', hy, hs', q0, q1, q2, q3, q4⟩ := hrow'.tkE hext hlt
      obtain rfl : x = y := by rw [hx] at hy; injection hy
      have hsc := fun w1 (he : Ext wr w1) => tokSame_any x.kind x.t x.c x.r _ _ x.data w1 (hs.ext he) (hs'.ext he)
      have HSC := hid hsc
      clear hx hy hs hs' hsc
      generalize x.data.length = un at *
      generalize x.kind = kd at *
      generalize x.t = wh at *
      generalize x.c = att at *
      generalize x.r = arr at *
      have hrel : ∀ w1, Ext wr w1 → (w1.cell? ⟨b, off + j * 5, none⟩ = some (.int .i64 kd) ∧ w1.cell? ⟨b, off + j * 5 + 1, none⟩ = some (.int .u64 wh) ∧ w1.cell? ⟨b, off + j * 5 + 2, none⟩ = some (.int .u64 att) ∧ w1.cell? ⟨b, off + j * 5 + 3, none⟩ = some (.int .u64 arr) ∧ w1.cell? ⟨b, off + j * 5 + 4, none⟩ = some (.slice A1 un c1)) ∧ (w1.cell? ⟨b', off' + j * 5, none⟩ = some (.int .i64 kd) ∧ w1.cell? ⟨b', off' + j * 5 + 1, none⟩ = some (.int .u64 wh) ∧ w1.cell? ⟨b', off' + j * 5 + 2, none⟩ = some (.int .u64 att) ∧ w1.cell? ⟨b', off' + j * 5 + 3, none⟩ = some (.int .u64 arr) ∧ w1.cell? ⟨b', off' + j * 5 + 4, none⟩ = some (.slice B1 un d1)) ∧ Ext wr w1 :=
        fun w1 he => ⟨⟨(he.cell hb _).trans p0, (he.cell hb _).trans p1, (he.cell hb _).trans p2, (he.cell hb _).trans p3, (he.cell hb _).trans p4⟩, ⟨(he.cell hb' _).trans q0, (he.cell hb' _).trans q1, (he.cell hb' _).trans q2, (he.cell hb' _).trans q3, (he.cell hb' _).trans q4⟩, he⟩
      have HR := hid hrel
      have xd : Ext wr wr.drew := Below.drew (Below.refl _ _)
      clear hrel
      go_wp2
      go_region_held3 (fun w' => (w'.cell? ⟨b, off + j * 5, none⟩ = some (.int .i64 kd) ∧ w'.cell? ⟨b, off + j * 5 + 1, none⟩ = some (.int .u64 wh) ∧ w'.cell? ⟨b, off + j * 5 + 2, none⟩ = some (.int .u64 att) ∧ w'.cell? ⟨b, off + j * 5 + 3, none⟩ = some (.int .u64 arr) ∧ w'.cell? ⟨b, off + j * 5 + 4, none⟩ = some (.slice A1 un c1)) ∧ (w'.cell? ⟨b', off' + j * 5, none⟩ = some (.int .i64 kd) ∧ w'.cell? ⟨b', off' + j * 5 + 1, none⟩ = some (.int .u64 wh) ∧ w'.cell? ⟨b', off' + j * 5 + 2, none⟩ = some (.int .u64 att) ∧ w'.cell? ⟨b', off' + j * 5 + 3, none⟩ = some (.int .u64 arr) ∧ w'.cell? ⟨b', off' + j * 5 + 4, none⟩ = some (.slice B1 un d1)) ∧ Ext wr w')
        (first | with_reducible exact HR.out _ xd | with_reducible exact HR.out _ xd3)
        (first
          | (go_at_call 76; refine (HSC.out _ xd).mono ?_; rintro e w3 ⟨rfl, hx3⟩; have xd3 := Ext.trans xd hx3))
      go_wp2
      go_roundw
      case rel => exact ⟨j + 1, by omega, by go_num, Ext.trans hext xd3⟩
      case measure => simp [intOf]; omega
    · obtain rfl : j = n := by omega
      go_wp2
      go_ret
      exact ⟨rfl, hext⟩
end
end Go.Proofs.Ytimlbebockfioaa
