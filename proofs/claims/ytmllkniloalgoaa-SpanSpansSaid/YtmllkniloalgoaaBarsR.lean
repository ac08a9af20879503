/- The walks of Bars on both sides, for whatever arguments. -/
import Derived.Test.YtmllkniloalgoaaRanks
namespace Go.Proofs.Ytmllkniloalgoaa
open Go.RowKit

theorem sum_set_succ : ∀ (b : List Int) (i : Nat) (y : Int), b[i]? = some y → (b.set i (y + 1)).sum = b.sum + 1
  | [], i, y, h => by simp at h
  | z :: b, 0, y, h => by
    have h : z = y := by simpa using h
    subst h
    simp only [List.set_cons_zero, List.sum_cons]
    omega
  | z :: b, i + 1, y, h => by
    have := sum_set_succ b i y (by simpa using h)
    simp only [List.set_cons_succ, List.sum_cons]
    omega
theorem barsTo_sum {wide : Int} {m : Nat} (l : List Int) (hw : 1 ≤ wide) (hm : 1 ≤ m) : (barsTo wide m l).sum = l.length := by
  have key : ∀ k, k ≤ l.length → (barsTo wide m (l.take k)).sum = k := by
    intro k
    induction k with
    | zero => intro _; simp [barsTo]
    | succ k ih =>
      intro hk
      have hx : l[k]? = some l[k] := List.getElem?_eq_getElem (by omega)
      have hlt : barIx wide m l[k] < (barsTo wide m (l.take k)).length := by rw [barsTo_len]; exact barIx_lt hw hm
      rw [barsTo_step hx]
      have hy : (barsTo wide m (l.take k))[barIx wide m l[k]]? = some (barsTo wide m (l.take k))[barIx wide m l[k]] := List.getElem?_eq_getElem hlt
      unfold barStep
      rw [hy, Option.getD_some, sum_set_succ _ _ _ hy, ih (by omega)]
      push_cast
      rfl
  have := key l.length (Nat.le_refl _)
  rwa [List.take_length] at this

set_option maxRecDepth 100000
section
set_option maxHeartbeats 800000 in
theorem barsBad_any (v : Value) (xs : List Int) (wide most : Int) (w : World) (h : IsSlice (repInt .i64) w (all w) v xs) (hb : wide < 1 ∨ most < 1 ∨ 100 < most) :
    Calls Try.prog 9 #[v, .int .i64 wide, .int .i64 most] w fun e w' => ∃ u, e = .returned u ∧ IsSlice (repInt .i64) w' (fresh w w') u [] ∧ Ext w w' := by
  obtain ⟨A, n, c, rfl, hnc, hcm, hrow⟩ := h
  clear hrow
  by_cases h1 : wide < 1
  · clear hb
    go_enter Try.func9, Try.ntmps9
    go_wp2
    go_ret
    exact ⟨_, rfl, isSlice_nil _ _ _, Below.refl _ _⟩
  by_cases h2 : most < 1
  · clear hb
    go_enter Try.func9, Try.ntmps9
    go_wp2
    go_ret
    exact ⟨_, rfl, isSlice_nil _ _ _, Below.refl _ _⟩
  by_cases h3 : 100 < most
  · clear hb
    go_enter Try.func9, Try.ntmps9
    go_wp2
    go_ret
    exact ⟨_, rfl, isSlice_nil _ _ _, Below.refl _ _⟩
  omega
set_option maxHeartbeats 800000 in
theorem barsRBad_any (v : Value) (xs : List Int) (wide most : Int) (w : World) (h : IsSlice (repInt .i64) w (all w) v xs) (hb : wide < 1 ∨ most < 1 ∨ 100 < most) :
    Calls Try.prog 11 #[v, .int .i64 wide, .int .i64 most] w fun e w' => ∃ u, e = .returned u ∧ IsSlice (repInt .i64) w' (fresh w w') u [] ∧ Ext w w' := by
  obtain ⟨A, n, c, rfl, hnc, hcm, hrow⟩ := h
  clear hrow
  by_cases h1 : wide < 1
  · clear hb
    go_enter Try.func11, Try.ntmps11
    go_wp2
    go_ret
    exact ⟨_, rfl, isSlice_nil _ _ _, Below.refl _ _⟩
  by_cases h2 : most < 1
  · clear hb
    go_enter Try.func11, Try.ntmps11
    go_wp2
    go_ret
    exact ⟨_, rfl, isSlice_nil _ _ _, Below.refl _ _⟩
  by_cases h3 : 100 < most
  · clear hb
    go_enter Try.func11, Try.ntmps11
    go_wp2
    go_ret
    exact ⟨_, rfl, isSlice_nil _ _ _, Below.refl _ _⟩
  omega
set_option maxHeartbeats 1600000 in
theorem barsR_any (v : Value) (xs : List Int) (wide : Int) (m : Nat) (w : World) (h : IsSlice (repInt .i64) w (all w) v xs) (hl : xs.length ≤ 200) (hw : 1 ≤ wide) (hw2 : wide ≤ 9223372036854775807) (hm : 1 ≤ m) (hm2 : m ≤ 100) :
    Calls Try.prog 11 #[v, .int .i64 wide, .int .i64 m] w fun e w' => ∃ u, e = .returned u ∧ IsSlice (repInt .i64) w' (fresh w w') u (barsTo wide m xs) ∧ Ext w w' := by
  obtain ⟨A, n, c, rfl, hnc, hcm, hrow⟩ := h
  have hn := hrow.1
  have hmax : n ≤ 200 := by omega
  have HN := hid hn
  clear hn
  go_enter Try.func11, Try.ntmps11
  go_upto_region 4 with (at_make; refine wpl_make_ints (ki := .i64) (bytes := 8) _ _ m rfl rfl Try.underlying22 (by kernel_rfl) rfl rfl rfl rfl (by omega) (by simp only [maxLen]; omega) ?_; intro w2 hb2 hx2)
  go_wp2_with fail
  go_loopw [8] (fun i wr => ∃ (k : Nat) (B : List Int), k ≤ n ∧ i = .int .i64 k ∧ Hid (B = barsTo wide m (xs.take k)) ∧ Blk wr w.heap.size 3 (B.map (Value.int .i64)).toArray ∧ Ext w wr) (fun i _ => n - (intOf i).toNat)
  case atStart => exact ⟨0, _, Nat.zero_le _, rfl, hid rfl, hb2, hx2⟩
  case round =>
    obtain ⟨k, B, hk, rfl, HB, hblk, hext⟩ := hrel
    by_cases hlt : k < n
    · obtain ⟨b, off, x, rfl, hx, hc, hwf⟩ := hrow.intE hext hlt
      have hbd := bounds_i64 hwf
      have HST := hid (barsTo_step (wide := wide) (m := m) hx)
      have hBl : B.length = m := by rw [HB.out, barsTo_len]
      have hJ := barIx_lt (wide := wide) (m := m) (x := x) hw hm
      obtain ⟨y, hy⟩ : ∃ y, B[barIx wide m x]? = some y := ⟨_, List.getElem?_eq_getElem (by rw [hBl]; exact hJ)⟩
      have hyb := barsTo_in wide m (xs.take k) y (by rw [← HB.out]; exact List.mem_of_getElem? hy)
      have htl : (xs.take k).length ≤ n := by rw [List.length_take, HN.out]; omega
      have hyb2 : 0 ≤ y ∧ y ≤ 200 := by omega
      have hstep : barStep wide m B x = B.set (barIx wide m x) (y + 1) := by unfold barStep; rw [hy]; rfl
      have HSTEP := hid hstep
      have hcy := hblk.intAt hy
      have hfr := hblk.frozen (barIx wide m x)
      obtain ⟨J, hJe⟩ : ∃ J, J = barIx wide m x := ⟨_, rfl⟩
      rw [← hJe] at hcy hfr hJ HSTEP
      have hJv : J = (min (max x 0 / wide) ((m : Int) - 1)).toNat := hJe
      clear hx hwf hBl hy hyb hstep hJe htl
      by_cases hx0 : 0 < x
      · rw [show max x 0 = x from by omega] at hJv
        have hq0 : 0 ≤ x / wide := Int.ediv_nonneg (by omega) (by omega)
        by_cases hqm : (m : Int) - 1 < x / wide
        · have hm1J : (m : Int) - 1 = (J : Int) := by omega
          have hJm : m = J + 1 := by omega
          subst hJm
          clear hJv hm1J
          go_wp2
          go_roundw
          case rel => exact ⟨k + 1, _, by omega, by go_num, hid (by rw [HST.out, ← HB.out, HSTEP.out]), hblk.intSet J _, Only.ext_new (g := w.heap.size) (Only.set_ (Only.refl _ _) _ _) hext (Nat.le_refl _)⟩
          case measure => simp [intOf]; omega
        · have hqJ : x / wide = (J : Int) := by omega
          clear hJv hq0 hqm
          have hqm : decide ((m : Int) - 1 < (J : Int)) = false := decide_eq_false (by omega)
          go_wp2
          go_roundw
          case rel => exact ⟨k + 1, _, by omega, by go_num, hid (by rw [HST.out, ← HB.out, HSTEP.out]), hblk.intSet J _, Only.ext_new (g := w.heap.size) (Only.set_ (Only.refl _ _) _ _) hext (Nat.le_refl _)⟩
          case measure => simp [intOf]; omega
      · have hJ0 : J = 0 := by rw [hJv, show max x 0 = 0 from by omega, Int.zero_ediv]; omega
        subst hJ0
        have hqm : decide ((m : Int) - 1 < 0) = false := decide_eq_false (by omega)
        clear hJv
        go_wp2
        go_roundw
        case rel => exact ⟨k + 1, _, by omega, by go_num, hid (by rw [HST.out, ← HB.out, HSTEP.out]), hblk.intSet 0 _, Only.ext_new (g := w.heap.size) (Only.set_ (Only.refl _ _) _ _) hext (Nat.le_refl _)⟩
        case measure => simp [intOf]; omega
    · obtain rfl : k = n := by omega
      have hB : B = barsTo wide m xs := by rw [HB.out, List.take_of_length_le (by rw [HN.out]; exact Nat.le_refl _)]
      have hBl : B.length = m := by rw [hB, barsTo_len]
      have HBB := hid hB
      have HBL := hid hBl
      clear hB hBl
      go_wp2
      go_ret
      refine ⟨_, rfl, ?_, hext⟩
      have := Blk.ints (S := fresh w wr) hblk ⟨Nat.le_refl _, hblk.lt⟩ (c := m) (by rw [HBL.out]; exact Nat.le_refl _) (by simp only [maxLen]; omega) (fun y hy => by
        have := barsTo_in wide m xs y (by rw [← HBB.out]; exact hy)
        exact WalkArith.wf_i64 (by have := HN.out; omega))
      rw [HBL.out] at this
      rw [← HBB.out]
      exact this
theorem barsAll_any (v : Value) (xs : List Int) (wide most : Int) (w : World) (h : IsSlice (repInt .i64) w (all w) v xs) (hl : xs.length ≤ 200) (hw2 : wide ≤ 9223372036854775807) :
    Calls Try.prog 9 #[v, .int .i64 wide, .int .i64 most] w fun e w' => ∃ u, e = .returned u ∧ IsSlice (repInt .i64) w' (fresh w w') u (barsV xs wide most) ∧ Ext w w' := by
  unfold barsV
  by_cases hb : wide < 1 ∨ most < 1 ∨ 100 < most
  · rw [if_pos hb]; exact barsBad_any v xs wide most w h hb
  · rw [if_neg hb]
    obtain ⟨m, rfl⟩ : ∃ m : Nat, most = (m : Int) := ⟨most.toNat, by omega⟩
    rw [Int.toNat_natCast]
    exact bars_any v xs wide m w h hl (by omega) hw2 (by omega) (by omega)
theorem barsRAll_any (v : Value) (xs : List Int) (wide most : Int) (w : World) (h : IsSlice (repInt .i64) w (all w) v xs) (hl : xs.length ≤ 200) (hw2 : wide ≤ 9223372036854775807) :
    Calls Try.prog 11 #[v, .int .i64 wide, .int .i64 most] w fun e w' => ∃ u, e = .returned u ∧ IsSlice (repInt .i64) w' (fresh w w') u (barsV xs wide most) ∧ Ext w w' := by
  unfold barsV
  by_cases hb : wide < 1 ∨ most < 1 ∨ 100 < most
  · rw [if_pos hb]; exact barsRBad_any v xs wide most w h hb
  · rw [if_neg hb]
    obtain ⟨m, rfl⟩ : ∃ m : Nat, most = (m : Int) := ⟨most.toNat, by omega⟩
    rw [Int.toNat_natCast]
    exact barsR_any v xs wide m w h hl (by omega) hw2 (by omega) (by omega)
end
theorem barsV_sum (xs : List Int) (wide most : Int) : barsV xs wide most = [] ∨ (0 < (barsV xs wide most).length ∧ (barsV xs wide most).sum = xs.length) := by
  unfold barsV
  by_cases hb : wide < 1 ∨ most < 1 ∨ 100 < most
  · rw [if_pos hb]; exact .inl rfl
  · rw [if_neg hb]
    exact .inr ⟨by rw [barsTo_len]; omega, barsTo_sum xs (by omega) (by omega)⟩
theorem barsV_in (xs : List Int) (wide most : Int) : (barsV xs wide most).length ≤ 100 ∧ ∀ b ∈ barsV xs wide most, 0 ≤ b ∧ b ≤ xs.length := by
  unfold barsV
  by_cases hb : wide < 1 ∨ most < 1 ∨ 100 < most
  · rw [if_pos hb]; exact ⟨by simp, by simp⟩
  · rw [if_neg hb]
    exact ⟨by rw [barsTo_len]; omega, barsTo_in wide most.toNat xs⟩
end Go.Proofs.Ytmllkniloalgoaa
