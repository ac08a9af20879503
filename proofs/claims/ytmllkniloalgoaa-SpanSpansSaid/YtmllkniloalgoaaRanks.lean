/- The walks of Rank and Bars on both sides, for whatever arguments. -/
import Derived.Deep.RegionLaw
import Derived.Test.YtmllkniloalgoaaSorted
namespace Go.Proofs.Ytmllkniloalgoaa
open Go.RowKit

def rankV (xs : List Int) (num den : Int) : Int × Bool := if xs.length = 0 ∨ den < 1 ∨ 1000 < den ∨ num < 0 ∨ den < num then (0, false) else (((sortI xs)[((((xs.length : Int) - 1) * num) / den).toNat]?).getD 0, true)
def barsV (xs : List Int) (wide most : Int) : List Int := if wide < 1 ∨ most < 1 ∨ 100 < most then [] else barsTo wide most.toNat xs
theorem rank_at {n : Nat} {num den : Int} (h : ¬ (n = 0 ∨ den < 1 ∨ 1000 < den ∨ num < 0 ∨ den < num)) : ∃ J : Nat, J < n ∧ (((n : Int) - 1) * num) / den = (J : Int) := by
  have h0 : 0 ≤ ((n : Int) - 1) * num := Int.mul_nonneg (by omega) (by omega)
  have h1 : ((n : Int) - 1) * num ≤ ((n : Int) - 1) * den := Int.mul_le_mul_of_nonneg_left (by omega) (by omega)
  have h2 : (((n : Int) - 1) * num) / den ≤ (n : Int) - 1 := by
    have := Int.ediv_le_ediv (c := den) (by omega) h1
    rwa [Int.mul_ediv_cancel _ (by omega)] at this
  have h3 : 0 ≤ (((n : Int) - 1) * num) / den := Int.ediv_nonneg h0 (by omega)
  exact ⟨((((n : Int) - 1) * num) / den).toNat, by omega, by omega⟩
theorem rankV_good {xs : List Int} {num den : Int} (h : ¬ (xs.length = 0 ∨ den < 1 ∨ 1000 < den ∨ num < 0 ∨ den < num)) : ∃ (J : Nat) (x : Int), (((xs.length : Int) - 1) * num) / den = (J : Int) ∧ (sortI xs)[J]? = some x ∧ rankV xs num den = (x, true) := by
  obtain ⟨J, hJ, he⟩ := rank_at h
  have hlt : J < (sortI xs).length := by rw [sortI_len]; exact hJ
  have hx : (sortI xs)[J]? = some (sortI xs)[J] := List.getElem?_eq_getElem hlt
  refine ⟨J, _, he, hx, ?_⟩
  unfold rankV
  rw [if_neg h, he, Int.toNat_natCast, hx]
  rfl
theorem rankV_mem {xs : List Int} {num den : Int} (h : (rankV xs num den).2 = true) : (rankV xs num den).1 ∈ xs := by
  by_cases hb : xs.length = 0 ∨ den < 1 ∨ 1000 < den ∨ num < 0 ∨ den < num
  · unfold rankV at h; rw [if_pos hb] at h; cases h
  · obtain ⟨J, x, _, hx, he⟩ := rankV_good hb
    rw [he]
    exact sortI_mem.1 (List.mem_of_getElem? hx)

set_option maxRecDepth 100000
section
set_option maxHeartbeats 800000 in
theorem rankBad_any (v : Value) (xs : List Int) (num den : Int) (w : World) (h : IsSlice (repInt .i64) w (all w) v xs) (hb : xs.length = 0 ∨ den < 1 ∨ 1000 < den ∨ num < 0 ∨ den < num) :
    Calls Try.prog 7 #[v, .int .i64 num, .int .i64 den] w fun e w' => e = .returned (.tuple #[.int .i64 0, .bool false]) ∧ Ext w w' := by
  obtain ⟨A, n, c, rfl, hnc, hcm, hrow⟩ := h
  have hn := hrow.1
  rw [hn] at hb
  clear hn hrow
  by_cases h0 : n = 0
  · clear hb
    subst h0
    have hz : (((0 : Nat) : Int) == 0) = true := by simp
    go_enter Try.func7, Try.ntmps7
    go_wp2
    go_ret2
    exact ⟨rfl, Below.refl _ _⟩
  have hz : ((n : Int) == 0) = false := by simp; omega
  by_cases h1 : den < 1
  · clear hb
    go_enter Try.func7, Try.ntmps7
    go_wp2
    go_ret2
    exact ⟨rfl, Below.refl _ _⟩
  by_cases h2 : 1000 < den
  · clear hb
    go_enter Try.func7, Try.ntmps7
    go_wp2
    go_ret2
    exact ⟨rfl, Below.refl _ _⟩
  by_cases h3 : num < 0
  · clear hb
    go_enter Try.func7, Try.ntmps7
    go_wp2
    go_ret2
    exact ⟨rfl, Below.refl _ _⟩
  by_cases h4 : den < num
  · clear hb
    go_enter Try.func7, Try.ntmps7
    go_wp2
    go_ret2
    exact ⟨rfl, Below.refl _ _⟩
  omega
set_option maxHeartbeats 800000 in
theorem rankRBad_any (v : Value) (xs : List Int) (num den : Int) (w : World) (h : IsSlice (repInt .i64) w (all w) v xs) (hb : xs.length = 0 ∨ den < 1 ∨ 1000 < den ∨ num < 0 ∨ den < num) :
    Calls Try.prog 8 #[v, .int .i64 num, .int .i64 den] w fun e w' => e = .returned (.tuple #[.int .i64 0, .bool false]) ∧ Ext w w' := by
  obtain ⟨A, n, c, rfl, hnc, hcm, hrow⟩ := h
  have hn := hrow.1
  rw [hn] at hb
  clear hn hrow
  by_cases h0 : n = 0
  · clear hb
    subst h0
    have hz : (((0 : Nat) : Int) == 0) = true := by simp
    go_enter Try.func8, Try.ntmps8
    go_wp2
    go_ret2
    exact ⟨rfl, Below.refl _ _⟩
  have hz : ((n : Int) == 0) = false := by simp; omega
  by_cases h1 : den < 1
  · clear hb
    go_enter Try.func8, Try.ntmps8
    go_wp2
    go_ret2
    exact ⟨rfl, Below.refl _ _⟩
  by_cases h2 : 1000 < den
  · clear hb
    go_enter Try.func8, Try.ntmps8
    go_wp2
    go_ret2
    exact ⟨rfl, Below.refl _ _⟩
  by_cases h3 : num < 0
  · clear hb
    go_enter Try.func8, Try.ntmps8
    go_wp2
    go_ret2
    exact ⟨rfl, Below.refl _ _⟩
  by_cases h4 : den < num
  · clear hb
    go_enter Try.func8, Try.ntmps8
    go_wp2
    go_ret2
    exact ⟨rfl, Below.refl _ _⟩
  omega
theorem rankAll_any (v : Value) (xs : List Int) (num den : Int) (w : World) (h : IsSlice (repInt .i64) w (all w) v xs) (hl : xs.length ≤ 200) :
    Calls Try.prog 7 #[v, .int .i64 num, .int .i64 den] w fun e w' => e = .returned (.tuple #[.int .i64 (rankV xs num den).1, .bool (rankV xs num den).2]) ∧ Ext w w' := by
  by_cases hb : xs.length = 0 ∨ den < 1 ∨ 1000 < den ∨ num < 0 ∨ den < num
  · unfold rankV; rw [if_pos hb]; exact rankBad_any v xs num den w h hb
  · obtain ⟨J, x, hJ, hx, he⟩ := rankV_good hb
    rw [he]
    exact rank_any v xs num den w h hl hb J x hJ hx
set_option maxHeartbeats 1600000 in
theorem rankRGood_any (v : Value) (xs : List Int) (num den : Int) (w : World) (h : IsSlice (repInt .i64) w (all w) v xs) (hl : xs.length ≤ 200) (hr : ¬ (xs.length = 0 ∨ den < 1 ∨ 1000 < den ∨ num < 0 ∨ den < num)) (J : Nat) (x : Int)
    (hJ : (((xs.length : Int) - 1) * num) / den = (J : Int)) (hx : (sortI xs)[J]? = some x) :
    Calls Try.prog 8 #[v, .int .i64 num, .int .i64 den] w fun e w' => e = .returned (.tuple #[.int .i64 x, .bool true]) ∧ Ext w w' := by
  have hso := fun w1 (he : Ext w w1) => sorted_any v xs w1 (h.ext he) hl
  obtain ⟨A, n, c, rfl, hnc, hcm, hrow⟩ := h
  have hn := hrow.1
  have hmax : n ≤ 200 := by omega
  have hn1 : 1 ≤ n := by omega
  have hd1 : 1 ≤ den := by omega
  have hd2 : den ≤ 1000 := by omega
  have hm1 : 0 ≤ num := by omega
  have hm2 : num ≤ den := by omega
  rw [hn] at hJ
  have hp0 : 0 ≤ ((n : Int) - 1) * num := Int.mul_nonneg (by omega) hm1
  have hp1 : ((n : Int) - 1) * num ≤ 200 * 1000 := Int.mul_le_mul (by omega) (by omega) hm1 (by omega)
  have hsl : (sortI xs).length = n := by rw [sortI_len, hn]
  have hJn : J < n := by have := lt_of_get hx; omega
  have hJi : (J : Int) < (n : Int) := by omega
  have hzb : ((n : Int) == 0) = false := by simp; omega
  have HX := hid hx
  have HSL := hid hsl
  obtain ⟨p, hp⟩ : ∃ p, p = ((n : Int) - 1) * num := ⟨_, rfl⟩
  rw [← hp] at hp0 hp1 hJ
  have hsub : IntKind.i64.wrap ((n : Int) - 1) = (n : Int) - 1 := by rw [IntKind.wrap_i64]; omega
  have hmul : IntKind.i64.wrap (((n : Int) - 1) * num) = p := by rw [← hp, IntKind.wrap_i64]; omega
  have hdiv : p.tdiv den = (J : Int) := by rw [Int.tdiv_eq_ediv_of_nonneg hp0, hJ]
  have hdz : (den == 0) = false := by simp; omega
  have hdne : den ≠ 0 := by omega
  have hwj : IntKind.i64.wrap (J : Int) = (J : Int) := by rw [IntKind.wrap_i64]; omega
  have hmul2 : wrap64 (((n : Int) - 1) * num) = p := by rw [← hp]; unfold wrap64; omega
  have xd : Ext w w.drew := Below.drew (Below.refl _ _)
  have HSO := hid (hso _ xd)
  clear hso hrow hn hx hsl hp hJ hr
  go_enter Try.func8, Try.ntmps8
  go_upto_region 3 with fail
  go_region_law (first
    | (go_simp; go_at_call 22; refine HSO.out.mono ?_; rintro r w2 ⟨u, rfl, ⟨B, m, cb, rfl, hmc, hcb, hrw⟩, hx2⟩; obtain rfl : m = n := hrw.1.symm.trans HSL.out; obtain ⟨b2, off2, y, rfl, _, hy, hcy, _⟩ := hrw.int hJn; obtain rfl : y = x := (by have h1 := HX.out; rw [hy] at h1; injection h1); clear hy hrw; dsimp only))
  all_goals
    go_wp2
    go_ret2
    exact ⟨rfl, Ext.trans xd hx2⟩
theorem rankRAll_any (v : Value) (xs : List Int) (num den : Int) (w : World) (h : IsSlice (repInt .i64) w (all w) v xs) (hl : xs.length ≤ 200) :
    Calls Try.prog 8 #[v, .int .i64 num, .int .i64 den] w fun e w' => e = .returned (.tuple #[.int .i64 (rankV xs num den).1, .bool (rankV xs num den).2]) ∧ Ext w w' := by
  by_cases hb : xs.length = 0 ∨ den < 1 ∨ 1000 < den ∨ num < 0 ∨ den < num
  · unfold rankV; rw [if_pos hb]; exact rankRBad_any v xs num den w h hb
  · obtain ⟨J, x, hJ, hx, he⟩ := rankV_good hb
    rw [he]
    exact rankRGood_any v xs num den w h hl hb J x hJ hx
end
end Go.Proofs.Ytmllkniloalgoaa
