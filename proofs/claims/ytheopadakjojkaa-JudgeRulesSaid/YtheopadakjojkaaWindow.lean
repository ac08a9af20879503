/- The walks of Window on both sides. -/
import Derived.Test.YtheopadakjojkaaRules
namespace Go.Proofs.Ytheopadakjojkaa
open Go.RowKit

set_option maxRecDepth 100000
section
set_option maxHeartbeats 1600000 in
theorem window_any (v : Value) (xs : List Ev) (q : Int) (w : World) (h : IsSlice repEv w (all w) v xs) (hl : xs.length ≤ 100) :
    Calls Try.prog 72 #[v, .int .i64 q] w (SomeB (WinP xs q) w) := by
  obtain ⟨A, n, c, rfl, hnc, hcm, hrow⟩ := h
  have hn := hrow.1
  have hmax : n ≤ 100 := by omega
  have HN := hid hn
  clear hn
  go_enter Try.func72, Try.ntmps72
  go_wp2
  go_loopw [5, 10] (fun t i wr => ∃ k E : Nat, k ≤ n ∧ i = .int .i64 k ∧ t = .int .i64 E ∧ E ≤ k ∧ Hid (E = (nums (xs.take k) 1).length) ∧ WinTo xs q k ∧ Ext w wr) (fun _ i _ => n - (intOf i).toNat)
  case atStart => exact ⟨0, 0, Nat.zero_le _, rfl, rfl, Nat.le_refl _, hid (by simp [nums, numsFrom]), fun _ _ h => absurd h (by omega), Below.refl _ _⟩
  case round =>
    obtain ⟨k, E, hk, rfl, rfl, hEk, HE, hW, hext⟩ := hrel
    have HW := hid hW
    clear hW
    by_cases hlt : k < n
    · obtain ⟨be, oe, x, A', mm, cc, rfl, hx, hd, hdl, e0, e1, e2, e3⟩ := hrow.evE hext hlt
      have HX := hid hx
      have HL := hid (numsTake_len (kind := 1) hx)
      generalize hkd : x.kind = kd at *
      generalize hpl : x.place = pl at *
      have HKD := hid hkd
      have HPL := hid hpl
      have hb := fun cs => Ext.trans hext (ext_alloc wr (.cells cs 114))
      have HBX := hid hb
      clear hx hd hdl hkd hpl hb
      by_cases h1 : kd = 1
      · subst h1
        go_wp2
        go_roundw
        case rel => exact ⟨k + 1, E + 1, by omega, by go_num, by go_num, by omega, hid (by rw [HL.out, ← HE.out]; rfl), winTo_step HX.out HW.out (fun h => by rw [HKD.out] at h; cases h), HBX.out _⟩
        case measure => simp [intOf]; omega
      · have h1b : (kd == 1) = false := by simpa using h1
        have hE1 : E = (nums (xs.take (k + 1)) 1).length := by rw [HL.out, if_neg h1, ← HE.out, Nat.add_zero]
        have HE1 := hid hE1
        clear hE1
        by_cases h7 : kd = 7
        · subst h7
          by_cases hp : q ≤ pl
          · by_cases hD : (E : Int) ≤ wrap64 (pl - q)
            · have hDb : decide ((E : Int) ≤ wrap64 (pl - q)) = true := decide_eq_true hD
              have HNO := hid (win_no (w := q) HX.out HKD.out (by rw [HPL.out]; exact hp) (by rw [HPL.out, ← HE.out]; exact hD))
              clear hD
              go_wp2
              go_ret
              exact ⟨false, rfl, ⟨(fun h => by cases h), fun h => absurd h HNO.out⟩, HBX.out _⟩
            · have hDb : decide ((E : Int) ≤ wrap64 (pl - q)) = false := decide_eq_false hD
              have HST := hid (winTo_step (w := q) HX.out HW.out (fun _ _ => by rw [HPL.out, ← HE.out]; omega))
              clear hD
              go_wp2
              go_roundw
              case rel => exact ⟨k + 1, E, by omega, by go_num, rfl, by omega, HE1, HST.out, HBX.out _⟩
              case measure => simp [intOf]; omega
          · have HST := hid (winTo_step (w := q) HX.out HW.out (fun _ h => absurd h (by rw [HPL.out]; exact hp)))
            have hpb : decide (q ≤ pl) = false := decide_eq_false hp
            go_wp2
            go_roundw
            case rel => exact ⟨k + 1, E, by omega, by go_num, rfl, by omega, HE1, HST.out, HBX.out _⟩
            case measure => simp [intOf]; omega
        · have h7b : (kd == 7) = false := by simpa using h7
          have HST := hid (winTo_step (w := q) HX.out HW.out (fun h => absurd h (by rw [HKD.out]; exact h7)))
          go_wp2
          go_roundw
          case rel => exact ⟨k + 1, E, by omega, by go_num, rfl, by omega, HE1, HST.out, HBX.out _⟩
          case measure => simp [intOf]; omega
    · go_wp2
      go_ret
      refine ⟨true, rfl, ⟨fun _ => ?_, fun _ => rfl⟩, hext⟩
      unfold WinP
      rw [HN.out, show n = k from by omega]
      exact HW.out
set_option maxHeartbeats 1600000 in
theorem windowR_any (v : Value) (xs : List Ev) (q : Int) (w : World) (h : IsSlice repEv w (all w) v xs) (hl : xs.length ≤ 100) :
    Calls Try.prog 73 #[v, .int .i64 q] w (SomeB (WinP xs q) w) := by
  obtain ⟨A, n, c, rfl, hnc, hcm, hrow⟩ := h
  have hn := hrow.1
  have hmax : n ≤ 100 := by omega
  have HN := hid hn
  clear hn
  go_enter Try.func73, Try.ntmps73
  go_wp2
  go_loopw [5, 6] (fun t i wr => ∃ k E : Nat, k ≤ n ∧ i = .int .i64 k ∧ t = .int .i64 E ∧ E ≤ k ∧ Hid (E = (nums (xs.take k) 1).length) ∧ WinTo xs q k ∧ Ext w wr) (fun _ i _ => n - (intOf i).toNat)
  case atStart => exact ⟨0, 0, Nat.zero_le _, rfl, rfl, Nat.le_refl _, hid (by simp [nums, numsFrom]), fun _ _ h => absurd h (by omega), Below.refl _ _⟩
  case round =>
    obtain ⟨k, E, hk, rfl, rfl, hEk, HE, hW, hext⟩ := hrel
    have HW := hid hW
    clear hW
    by_cases hlt : k < n
    · obtain ⟨be, oe, x, A', mm, cc, rfl, hx, hd, hdl, e0, e1, e2, e3⟩ := hrow.evE hext hlt
      have HX := hid hx
      have HL := hid (numsTake_len (kind := 1) hx)
      generalize hkd : x.kind = kd at *
      generalize hpl : x.place = pl at *
      have HKD := hid hkd
      have HPL := hid hpl
      clear hx hd hdl hkd hpl
      by_cases h1 : kd = 1
      · subst h1
        go_wp2
        go_roundw
        case rel => exact ⟨k + 1, E + 1, by omega, by go_num, by go_num, by omega, hid (by rw [HL.out, ← HE.out]; rfl), winTo_step HX.out HW.out (fun h => by rw [HKD.out] at h; cases h), hext⟩
        case measure => simp [intOf]; omega
      · have h1b : (kd == 1) = false := by simpa using h1
        have hE1 : E = (nums (xs.take (k + 1)) 1).length := by rw [HL.out, if_neg h1, ← HE.out, Nat.add_zero]
        have HE1 := hid hE1
        clear hE1
        by_cases h7 : kd = 7
        · subst h7
          by_cases hp : q ≤ pl
          · by_cases hD : (E : Int) ≤ wrap64 (pl - q)
            · have hDb : decide ((E : Int) ≤ wrap64 (pl - q)) = true := decide_eq_true hD
              have HNO := hid (win_no (w := q) HX.out HKD.out (by rw [HPL.out]; exact hp) (by rw [HPL.out, ← HE.out]; exact hD))
              clear hD
              go_wp2
              go_ret
              exact ⟨false, rfl, ⟨(fun h => by cases h), fun h => absurd h HNO.out⟩, hext⟩
            · have hDb : decide ((E : Int) ≤ wrap64 (pl - q)) = false := decide_eq_false hD
              have HST := hid (winTo_step (w := q) HX.out HW.out (fun _ _ => by rw [HPL.out, ← HE.out]; omega))
              clear hD
              go_wp2
              go_roundw
              case rel => exact ⟨k + 1, E, by omega, by go_num, rfl, by omega, HE1, HST.out, hext⟩
              case measure => simp [intOf]; omega
          · have HST := hid (winTo_step (w := q) HX.out HW.out (fun _ h => absurd h (by rw [HPL.out]; exact hp)))
            have hpb : decide (q ≤ pl) = false := decide_eq_false hp
            go_wp2
            go_roundw
            case rel => exact ⟨k + 1, E, by omega, by go_num, rfl, by omega, HE1, HST.out, hext⟩
            case measure => simp [intOf]; omega
        · have h7b : (kd == 7) = false := by simpa using h7
          have HST := hid (winTo_step (w := q) HX.out HW.out (fun h => absurd h (by rw [HKD.out]; exact h7)))
          go_wp2
          go_roundw
          case rel => exact ⟨k + 1, E, by omega, by go_num, rfl, by omega, HE1, HST.out, hext⟩
          case measure => simp [intOf]; omega
    · go_wp2
      go_ret
      refine ⟨true, rfl, ⟨fun _ => ?_, fun _ => rfl⟩, hext⟩
      unfold WinP
      rw [HN.out, show n = k from by omega]
      exact HW.out
end
end Go.Proofs.Ytheopadakjojkaa
