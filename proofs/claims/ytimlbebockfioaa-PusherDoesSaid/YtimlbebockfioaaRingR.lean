/- The reference's ring (kedgeref22): Mod, Near, Check. -/
import Derived.WalkLawsBesides
import Derived.Test.YtimlbebockfioaaRing
import Derived.StillTailTactics
import Derived.BigQuiet
import Derived.Deep.QuietTactic
namespace Go.Proofs.Ytimlbebockfioaa
open Go.RowKit

theorem near_found {base seq m : Int} {j : Nat} (hm : 1 ≤ m) (h : (base + j) % m = seq) (hj : (j : Int) ≤ nearN base seq m) : nearN base seq m = j := by
  unfold nearN at *
  subst h
  have h0 : ((base + j) % m - base % m) % m = (j : Int) % m := by
    rw [Int.sub_emod, Int.emod_emod_of_dvd _ (Int.dvd_refl m), Int.emod_emod_of_dvd _ (Int.dvd_refl m), ← Int.sub_emod]
    congr 1
    omega
  rw [h0] at hj ⊢
  have h1 := Int.emod_lt_of_pos (j : Int) (show 0 < m by omega)
  exact Int.emod_eq_of_lt (by omega) (by omega)
theorem near_next {base seq m : Int} {j : Nat} (hm : 1 ≤ m) (hs : 0 ≤ seq) (hs2 : seq < m) (h : (base + j) % m ≠ seq) (hj : (j : Int) ≤ nearN base seq m) : (j : Int) + 1 ≤ nearN base seq m := by
  have hne : (j : Int) ≠ nearN base seq m := fun e => by
    apply h
    rw [e]
    unfold nearN
    rw [Int.add_emod, Int.emod_emod_of_dvd _ (Int.dvd_refl m), ← Int.add_emod, show base + (seq - base % m) = seq + (base - base % m) from by omega]
    have : base - base % m = m * (base / m) := by have := Int.emod_add_mul_ediv base m; omega
    rw [this, Int.add_mul_emod_self_left]
    exact Int.emod_eq_of_lt hs hs2
  omega
set_option maxRecDepth 100000
section
theorem modR_any (place m : Int) (w : World) (hm2 : m ≤ 9223372036854775807) :
    Calls Try.prog 83 #[.int .i64 place, .int .i64 m] w fun e w' => e = .returned (.int .i64 (modV place m)) ∧ w = w' := by
  by_cases h1 : m < 1
  · have hv : modV place m = 0 := by unfold modV; rw [if_pos h1]
    rw [hv]
    clear hv
    go_enter Try.func83, Try.ntmps83
    go_wp2
    go_ret
    exact ⟨rfl, rfl⟩
  · have hm : 1 ≤ m := by omega
    have hmz : m ≠ 0 := by omega
    have hmb : (m == 0) = false := by simp; omega
    have hin := tmod_in (place := place) hm
    have hwr : IntKind.i64.wrap (place.tmod m) = place.tmod m := by rw [IntKind.wrap_i64]; omega
    by_cases hr : place.tmod m < 0
    · have hv := tmod_low hm hr
      have HV := hid (show modV place m = place.tmod m + m by rw [modV_pos hm, hv])
      clear hv
      have hwa : IntKind.i64.wrap (place.tmod m + m) = place.tmod m + m := by rw [IntKind.wrap_i64]; omega
      go_enter Try.func83, Try.ntmps83
      go_wp2
      go_ret
      exact ⟨ret_int HV.out.symm, rfl⟩
    · have hv := tmod_high hm hr
      have HV := hid (show modV place m = place.tmod m by rw [modV_pos hm, hv])
      clear hv
      go_enter Try.func83, Try.ntmps83
      go_wp2
      go_ret
      exact ⟨ret_int HV.out.symm, rfl⟩
set_option maxHeartbeats 1000000 in
theorem nearR_any (base span seq m : Int) (w : World) :
    Calls Try.prog 63 #[.int .i64 base, .int .i64 span, .int .i64 seq, .int .i64 m] w fun e w' => e = .returned (.tuple #[.int .i64 (nearV base span seq m).1, .bool (nearV base span seq m).2]) ∧ w = w' := by
  have HV : Wall (nearV base span seq m = if base < 0 ∨ 1152921504606846976 < base ∨ span < 0 ∨ 65536 < span ∨ m < 1 ∨ 65536 < m ∨ seq < 0 ∨ m ≤ seq ∨ span ≤ nearN base seq m then (0, false) else (base + nearN base seq m, true)) := hid rfl
  obtain ⟨r1, hr1⟩ : ∃ r, r = (nearV base span seq m).1 := ⟨_, rfl⟩
  obtain ⟨r2, hr2⟩ : ∃ r, r = (nearV base span seq m).2 := ⟨_, rfl⟩
  rw [← hr1, ← hr2]
  have HR1 := hid hr1
  have HR2 := hid hr2
  clear hr1 hr2
  have hbad : ∀ h : base < 0 ∨ 1152921504606846976 < base ∨ span < 0 ∨ 65536 < span ∨ m < 1 ∨ 65536 < m ∨ seq < 0 ∨ m ≤ seq ∨ span ≤ nearN base seq m, r1 = 0 ∧ r2 = false := fun h => by
    rw [HR1.out, HR2.out, HV.out, if_pos h]
    exact ⟨rfl, rfl⟩
  have HBAD := hid hbad
  clear hbad
  by_cases h1 : base < 0
  · obtain ⟨rfl, rfl⟩ := HBAD.out (by omega)
    go_enter Try.func63, Try.ntmps63
    go_wp2
    go_ret2
    exact ⟨rfl, rfl⟩
  by_cases h2 : 1152921504606846976 < base
  · obtain ⟨rfl, rfl⟩ := HBAD.out (by omega)
    go_enter Try.func63, Try.ntmps63
    go_wp2
    go_ret2
    exact ⟨rfl, rfl⟩
  by_cases h3 : span < 0
  · obtain ⟨rfl, rfl⟩ := HBAD.out (by omega)
    go_enter Try.func63, Try.ntmps63
    go_wp2
    go_ret2
    exact ⟨rfl, rfl⟩
  by_cases h4 : 65536 < span
  · obtain ⟨rfl, rfl⟩ := HBAD.out (by omega)
    go_enter Try.func63, Try.ntmps63
    go_wp2
    go_ret2
    exact ⟨rfl, rfl⟩
  by_cases h5 : m < 1
  · obtain ⟨rfl, rfl⟩ := HBAD.out (by omega)
    go_enter Try.func63, Try.ntmps63
    go_wp2
    go_ret2
    exact ⟨rfl, rfl⟩
  by_cases h6 : 65536 < m
  · obtain ⟨rfl, rfl⟩ := HBAD.out (by omega)
    go_enter Try.func63, Try.ntmps63
    go_wp2
    go_ret2
    exact ⟨rfl, rfl⟩
  obtain ⟨n, hn⟩ : ∃ n : Nat, (n : Int) = span := ⟨span.toNat, by omega⟩
  subst hn
  go_enter Try.func63, Try.ntmps63
  go_wp2
  go_loop [10] (fun i => ∃ j : Nat, j ≤ n ∧ i = .int .i64 j ∧ Wall (0 ≤ seq ∧ seq < m → (j : Int) ≤ nearN base seq m)) (fun i => n - (intOf i).toNat)
  case atStart => exact ⟨0, Nat.zero_le _, rfl, hid fun _ => by unfold nearN; exact Int.emod_nonneg _ (by omega)⟩
  case round =>
    obtain ⟨j, hj, rfl, hJ⟩ := hrel
    by_cases hlt : j < n
    · have HM := hid (modR_any (base + j) m w (by omega))
      rw [modV_pos (by omega)] at HM
      have hmi : 0 ≤ (base + j) % m ∧ (base + j) % m < m := ⟨Int.emod_nonneg _ (by omega), Int.emod_lt_of_pos _ (by omega)⟩
      by_cases he : (base + j) % m = seq
      · have hs1 : 0 ≤ seq ∧ seq < m := by rw [← he]; exact hmi
        have hN := near_found (by omega) he (hJ.out hs1)
        have hr : r1 = base + j ∧ r2 = true := by
          rw [HR1.out, HR2.out, HV.out, hN, if_neg (by omega)]
          exact ⟨rfl, rfl⟩
        obtain ⟨rfl, rfl⟩ := hr
        rw [he] at HM
        have hb : (seq == seq) = true := by simp
        clear he hN hmi HBAD HV HR1 HR2 hs1
        go_wp2_with (go_at_call 83; refine HM.out.mono ?_; rintro e w3 ⟨rfl, rfl⟩)
        go_ret2
        exact ⟨rfl, rfl⟩
      · have hb : ((base + j) % m == seq) = false := by simpa using he
        have hnx : 0 ≤ seq ∧ seq < m → ((j + 1 : Nat) : Int) ≤ nearN base seq m := fun hs => by
          have := near_next (show 1 ≤ m by omega) hs.1 hs.2 he (hJ.out hs)
          push_cast
          exact this
        have HNX := hid hnx
        generalize (base + j) % m = q at *
        clear hnx he hJ hmi
        go_wp2_with (go_at_call 83; refine HM.out.mono ?_; rintro e w3 ⟨rfl, rfl⟩)
        go_round
        case rel => exact ⟨j + 1, by omega, by go_num, HNX⟩
        case measure => simp [intOf]; omega
    · have hbb : base < 0 ∨ 1152921504606846976 < base ∨ (n : Int) < 0 ∨ 65536 < (n : Int) ∨ m < 1 ∨ 65536 < m ∨ seq < 0 ∨ m ≤ seq ∨ (n : Int) ≤ nearN base seq m := by
        by_cases hs : 0 ≤ seq ∧ seq < m
        · have := hJ.out hs; omega
        · omega
      obtain ⟨rfl, rfl⟩ := HBAD.out hbb
      clear hbb HBAD hJ
      go_wp2
      go_ret2
      exact ⟨rfl, rfl⟩
theorem checkRingR_any (w m l : Int) (W : World) (hw : (Lit.int .i64 w).wf = true) :
    Calls Try.prog 41 #[.int .i64 w, .int .i64 m, .int .i64 l] W fun e w' => e = .returned (.int .i64 (checkV w m l)) ∧ W = w' := by
  have hwb := bounds_i64 hw
  clear hw
  by_cases h1 : l < 1
  · have he : checkV w m l = 222 := by unfold checkV; rw [if_pos (.inl h1)]
    rw [he]; clear he
    go_enter Try.func41, Try.ntmps41
    go_wp2
    go_ret
    exact ⟨rfl, rfl⟩
  by_cases h2 : 4096 < l
  · have he : checkV w m l = 222 := by unfold checkV; rw [if_pos (.inr h2)]
    rw [he]; clear he
    go_enter Try.func41, Try.ntmps41
    go_wp2
    go_ret
    exact ⟨rfl, rfl⟩
  by_cases h3 : w < 1
  · have he : checkV w m l = 220 := by unfold checkV; rw [if_neg (by omega), if_pos (.inl h3)]
    rw [he]; clear he
    go_enter Try.func41, Try.ntmps41
    go_wp2
    go_ret
    exact ⟨rfl, rfl⟩
  by_cases h4 : l < w
  · have he : checkV w m l = 220 := by unfold checkV; rw [if_neg (by omega), if_pos (by omega)]
    rw [he]; clear he
    go_enter Try.func41, Try.ntmps41
    go_wp2
    go_ret
    exact ⟨rfl, rfl⟩
  by_cases h5 : 64 < w
  · have he : checkV w m l = 220 := by unfold checkV; rw [if_neg (by omega), if_pos (by omega)]
    rw [he]; clear he
    go_enter Try.func41, Try.ntmps41
    go_wp2
    go_ret
    exact ⟨rfl, rfl⟩
  by_cases h6 : m ≤ 2 * (w + l)
  · have he : checkV w m l = 221 := by unfold checkV; rw [if_neg (by omega), if_neg (by omega), if_pos (.inr h6)]
    rw [he]; clear he
    go_enter Try.func41, Try.ntmps41
    go_wp2
    go_ret
    exact ⟨rfl, rfl⟩
  by_cases h7 : 65536 < m
  · have he : checkV w m l = 221 := by unfold checkV; rw [if_neg (by omega), if_neg (by omega), if_pos (.inl h7)]
    rw [he]; clear he
    go_enter Try.func41, Try.ntmps41
    go_wp2
    go_ret
    exact ⟨rfl, rfl⟩
  · have he : checkV w m l = 0 := by unfold checkV; rw [if_neg (by omega), if_neg (by omega), if_neg (by omega)]
    rw [he]; clear he
    go_enter Try.func41, Try.ntmps41
    go_wp2
    go_ret
    exact ⟨rfl, rfl⟩
end
end Go.Proofs.Ytimlbebockfioaa
