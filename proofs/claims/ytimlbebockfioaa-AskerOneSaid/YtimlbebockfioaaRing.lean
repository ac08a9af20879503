/- The walks of ring's functions. -/
import Derived.IntWalk
import Derived.Test.YtimlbebockfioaaPull
import Derived.Test.YtimlbebockfioaaRows
namespace Go.Proofs.Ytimlbebockfioaa
open Go.RowKit

def checkV (w m l : Int) : Int := if l < 1 ∨ 4096 < l then 222 else if w < 1 ∨ min l 64 < w then 220 else if 65536 < m ∨ m ≤ 2 * (w + l) then 221 else 0
def modV (place m : Int) : Int := if m < 1 then 0 else place % m
theorem modV_pos {place m : Int} (h : 1 ≤ m) : modV place m = place % m := by unfold modV; rw [if_neg (by omega)]
theorem modV_in {place m : Int} (h : 1 ≤ m) : 0 ≤ modV place m ∧ modV place m < m := by
  rw [modV_pos h]
  exact ⟨Int.emod_nonneg _ (by omega), Int.emod_lt_of_pos _ (by omega)⟩
theorem tmod_low {place m : Int} (h : 1 ≤ m) (hr : place.tmod m < 0) : place.tmod m + m = place % m := by
  rw [Int.tmod_eq_emod] at hr ⊢
  have h0 : 0 ≤ place % m := Int.emod_nonneg _ (by omega)
  by_cases hc : 0 ≤ place ∨ m ∣ place
  · rw [if_pos hc] at hr; omega
  · rw [if_neg hc]; omega
theorem tmod_high {place m : Int} (h : 1 ≤ m) (hr : ¬ place.tmod m < 0) : place.tmod m = place % m := by
  rw [Int.tmod_eq_emod] at hr ⊢
  have h0 : place % m < m := Int.emod_lt_of_pos _ (by omega)
  by_cases hc : 0 ≤ place ∨ m ∣ place
  · rw [if_pos hc]; omega
  · rw [if_neg hc] at hr; omega
theorem tmod_in {place m : Int} (h : 1 ≤ m) : -m < place.tmod m ∧ place.tmod m < m := by
  rw [Int.tmod_eq_emod]
  have h0 : 0 ≤ place % m := Int.emod_nonneg _ (by omega)
  have h1 : place % m < m := Int.emod_lt_of_pos _ (by omega)
  by_cases hc : 0 ≤ place ∨ m ∣ place
  · rw [if_pos hc]; omega
  · rw [if_neg hc]
    have : place % m ≠ 0 := fun e => hc (.inr (Int.dvd_of_emod_eq_zero e))
    omega

set_option maxRecDepth 100000
section
theorem mod_any (place m : Int) (w : World) (hm2 : m ≤ 9223372036854775807) :
    Calls Try.prog 71 #[.int .i64 place, .int .i64 m] w fun e w' => e = .returned (.int .i64 (modV place m)) ∧ w = w' := by
  by_cases h1 : m < 1
  · have hv : modV place m = 0 := by unfold modV; rw [if_pos h1]
    rw [hv]
    clear hv
    go_enter Try.func71, Try.ntmps71
    go_wp2
    go_ret
    exact ⟨rfl, rfl⟩
  · have hm : 1 ≤ m := by omega
    have hmz : m ≠ 0 := by omega
    have hmb : (m == 0) = false := by simp; omega
    have hin := tmod_in (place := place) hm
    have hwr : IntKind.i64.wrap (place.tmod m) = place.tmod m := by rw [IntKind.wrap_i64]; omega
    by_cases hr : place.tmod m < 0
    · have hv := tmod_low hm hr
      have HV := hid (show modV place m = place.tmod m + m by rw [modV_pos hm, hv])
      clear hv
      have hwa : IntKind.i64.wrap (place.tmod m + m) = place.tmod m + m := by rw [IntKind.wrap_i64]; omega
      go_enter Try.func71, Try.ntmps71
      go_wp2
      go_ret
      exact ⟨ret_int HV.out.symm, rfl⟩
    · have hv := tmod_high hm hr
      have HV := hid (show modV place m = place.tmod m by rw [modV_pos hm, hv])
      clear hv
      go_enter Try.func71, Try.ntmps71
      go_wp2
      go_ret
      exact ⟨ret_int HV.out.symm, rfl⟩
theorem ahead_any (base seq m : Int) (w : World) (hm : 1 ≤ m) (hm2 : m ≤ 65536) (hs : 0 ≤ seq) (hs2 : seq < m) :
    Calls Try.prog 74 #[.int .i64 base, .int .i64 seq, .int .i64 m] w fun e w' => e = .returned (.int .i64 (nearN base seq m)) ∧ w = w' := by
  have h1 := modV_in (place := base) hm
  have e2 : modV seq m = seq := by rw [modV_pos hm]; exact Int.emod_eq_of_lt hs hs2
  have e3 : nearN base seq m = modV (seq - modV base m) m := by rw [modV_pos hm, modV_pos hm]; rfl
  have H1 := fun w1 => mod_any seq m w1 (by omega)
  have H2 := fun w1 => mod_any base m w1 (by omega)
  have H3 := fun w1 => mod_any (seq - modV base m) m w1 (by omega)
  rw [e2] at H1
  rw [← e3] at H3
  generalize modV base m = r at *
  have hw : IntKind.i64.wrap (seq - r) = seq - r := by rw [IntKind.wrap_i64]; omega
  clear e2 e3
  have HH1 := hid H1
  have HH2 := hid H2
  have HH3 := hid H3
  clear H1 H2 H3
  go_enter Try.func74, Try.ntmps74
  go_wp2_with fail
  refine (HH1.out _).mono ?_
  rintro _ _ ⟨rfl, rfl⟩
  go_wp2_with fail
  refine (HH2.out _).mono ?_
  rintro _ _ ⟨rfl, rfl⟩
  go_wp2_with fail
  refine (HH3.out _).mono ?_
  rintro _ _ ⟨rfl, rfl⟩
  go_wp2
  go_ret
  exact ⟨rfl, rfl⟩
def NearBad (base span seq m : Int) : Prop := base < 0 ∨ 1152921504606846976 < base ∨ span < 0 ∨ 65536 < span ∨ m < 1 ∨ 65536 < m ∨ seq < 0 ∨ m ≤ seq
theorem nearBad_any (base span seq m : Int) (w : World) (hb : NearBad base span seq m) :
    Calls Try.prog 45 #[.int .i64 base, .int .i64 span, .int .i64 seq, .int .i64 m] w fun e w' => e = .returned (.tuple #[.int .i64 0, .bool false]) ∧ w = w' := by
  unfold NearBad at hb
  by_cases h1 : base < 0
  · clear hb
    go_enter Try.func45, Try.ntmps45
    go_wp2
    go_ret2
    exact ⟨rfl, rfl⟩
  by_cases h2 : 1152921504606846976 < base
  · clear hb
    go_enter Try.func45, Try.ntmps45
    go_wp2
    go_ret2
    exact ⟨rfl, rfl⟩
  by_cases h3 : span < 0
  · clear hb
    go_enter Try.func45, Try.ntmps45
    go_wp2
    go_ret2
    exact ⟨rfl, rfl⟩
  by_cases h4 : 65536 < span
  · clear hb
    go_enter Try.func45, Try.ntmps45
    go_wp2
    go_ret2
    exact ⟨rfl, rfl⟩
  by_cases h5 : m < 1
  · clear hb
    go_enter Try.func45, Try.ntmps45
    go_wp2
    go_ret2
    exact ⟨rfl, rfl⟩
  by_cases h6 : 65536 < m
  · clear hb
    go_enter Try.func45, Try.ntmps45
    go_wp2
    go_ret2
    exact ⟨rfl, rfl⟩
  by_cases h7 : seq < 0
  · clear hb
    go_enter Try.func45, Try.ntmps45
    go_wp2
    go_ret2
    exact ⟨rfl, rfl⟩
  have h8 : m ≤ seq := by omega
  clear hb
  go_enter Try.func45, Try.ntmps45
  go_wp2
  go_ret2
  exact ⟨rfl, rfl⟩
theorem near_any (base span seq m : Int) (w : World) :
    Calls Try.prog 45 #[.int .i64 base, .int .i64 span, .int .i64 seq, .int .i64 m] w fun e w' => e = .returned (.tuple #[.int .i64 (nearV base span seq m).1, .bool (nearV base span seq m).2]) ∧ w = w' := by
  by_cases hb : NearBad base span seq m
  · have he : nearV base span seq m = (0, false) := by unfold nearV; unfold NearBad at hb; rw [if_pos (by omega)]
    rw [he]
    exact nearBad_any base span seq m w hb
  · unfold NearBad at hb
    have hn : 0 ≤ nearN base seq m ∧ nearN base seq m < m := ⟨Int.emod_nonneg _ (by omega), Int.emod_lt_of_pos _ (by omega)⟩
    have HA := hid (fun w1 => ahead_any base seq m w1 (by omega) (by omega) (by omega) (by omega))
    by_cases hs : span ≤ nearN base seq m
    · have he : nearV base span seq m = (0, false) := by unfold nearV; rw [if_pos (by omega)]
      rw [he]
      generalize nearN base seq m = n at *
      have b1 : ¬ base < 0 := by omega
      have b2 : ¬ 1152921504606846976 < base := by omega
      have b3 : ¬ span < 0 := by omega
      have b4 : ¬ 65536 < span := by omega
      have b5 : ¬ m < 1 := by omega
      have b6 : ¬ 65536 < m := by omega
      have b7 : ¬ seq < 0 := by omega
      have b8 : ¬ m ≤ seq := by omega
      clear he hb
      go_enter Try.func45, Try.ntmps45
      go_wp2_with fail
      refine (HA.out _).mono ?_
      rintro _ _ ⟨rfl, rfl⟩
      go_wp2
      go_ret2
      exact ⟨rfl, rfl⟩
    · have he : nearV base span seq m = (base + nearN base seq m, true) := by unfold nearV; rw [if_neg (by omega)]
      rw [he]
      generalize nearN base seq m = n at *
      have b1 : ¬ base < 0 := by omega
      have b2 : ¬ 1152921504606846976 < base := by omega
      have b3 : ¬ span < 0 := by omega
      have b4 : ¬ 65536 < span := by omega
      have b5 : ¬ m < 1 := by omega
      have b6 : ¬ 65536 < m := by omega
      have b7 : ¬ seq < 0 := by omega
      have b8 : ¬ m ≤ seq := by omega
      clear he hb
      go_enter Try.func45, Try.ntmps45
      go_wp2_with fail
      refine (HA.out _).mono ?_
      rintro _ _ ⟨rfl, rfl⟩
      go_wp2
      go_ret2
      exact ⟨rfl, rfl⟩
theorem checkRing_any (w m l : Int) (W : World) (hw : -9223372036854775808 ≤ w) (hw2 : w ≤ 9223372036854775807) :
    Calls Try.prog 34 #[.int .i64 w, .int .i64 m, .int .i64 l] W fun e w' => e = .returned (.int .i64 (checkV w m l)) ∧ W = w' := by
  by_cases h1 : l < 1
  · have he : checkV w m l = 222 := by unfold checkV; rw [if_pos (.inl h1)]
    rw [he]; clear he
    go_enter Try.func34, Try.ntmps34
    go_wp2
    go_ret
    exact ⟨rfl, rfl⟩
  by_cases h2 : 4096 < l
  · have he : checkV w m l = 222 := by unfold checkV; rw [if_pos (.inr h2)]
    rw [he]; clear he
    go_enter Try.func34, Try.ntmps34
    go_wp2
    go_ret
    exact ⟨rfl, rfl⟩
  by_cases h3 : w < 1
  · have he : checkV w m l = 220 := by unfold checkV; rw [if_neg (by omega), if_pos (.inl h3)]
    rw [he]; clear he
    go_enter Try.func34, Try.ntmps34
    go_wp2
    go_ret
    exact ⟨rfl, rfl⟩
  by_cases hl : 64 < l
  · by_cases h4 : 64 < w
    · have he : checkV w m l = 220 := by unfold checkV; rw [if_neg (by omega), if_pos (by omega)]
      rw [he]; clear he
      go_enter Try.func34, Try.ntmps34
      go_wp2
      go_ret
      exact ⟨rfl, rfl⟩
    by_cases h5 : 65536 < m
    · have he : checkV w m l = 221 := by unfold checkV; rw [if_neg (by omega), if_neg (by omega), if_pos (.inl h5)]
      rw [he]; clear he
      go_enter Try.func34, Try.ntmps34
      go_wp2
      go_ret
      exact ⟨rfl, rfl⟩
    by_cases h6 : m ≤ 2 * (w + l)
    · have he : checkV w m l = 221 := by unfold checkV; rw [if_neg (by omega), if_neg (by omega), if_pos (.inr h6)]
      rw [he]; clear he
      go_enter Try.func34, Try.ntmps34
      go_wp2
      go_ret
      exact ⟨rfl, rfl⟩
    · have he : checkV w m l = 0 := by unfold checkV; rw [if_neg (by omega), if_neg (by omega), if_neg (by omega)]
      rw [he]; clear he
      go_enter Try.func34, Try.ntmps34
      go_wp2
      go_ret
      exact ⟨rfl, rfl⟩
  · by_cases h4 : l < w
    · have he : checkV w m l = 220 := by unfold checkV; rw [if_neg (by omega), if_pos (by omega)]
      rw [he]; clear he
      go_enter Try.func34, Try.ntmps34
      go_wp2
      go_ret
      exact ⟨rfl, rfl⟩
    by_cases h5 : 65536 < m
    · have he : checkV w m l = 221 := by unfold checkV; rw [if_neg (by omega), if_neg (by omega), if_pos (.inl h5)]
      rw [he]; clear he
      go_enter Try.func34, Try.ntmps34
      go_wp2
      go_ret
      exact ⟨rfl, rfl⟩
    by_cases h6 : m ≤ 2 * (w + l)
    · have he : checkV w m l = 221 := by unfold checkV; rw [if_neg (by omega), if_neg (by omega), if_pos (.inr h6)]
      rw [he]; clear he
      go_enter Try.func34, Try.ntmps34
      go_wp2
      go_ret
      exact ⟨rfl, rfl⟩
    · have he : checkV w m l = 0 := by unfold checkV; rw [if_neg (by omega), if_neg (by omega), if_neg (by omega)]
      rw [he]; clear he
      go_enter Try.func34, Try.ntmps34
      go_wp2
      go_ret
      exact ⟨rfl, rfl⟩
end
end Go.Proofs.Ytimlbebockfioaa
