/- The walks of the reference's Each and Count. -/
import Derived.Test.YtheopadakjojkaaOdds2
import Derived.Test.YtheopadakjojkaaFirst
namespace Go.Proofs.Ytheopadakjojkaa
open Go.RowKit

theorem info_u64 : ElemInfo Try.prog 22 1 8 := elemInfo (z := .int .u64 0) (by kernel_rfl) rfl

def digZ (b n x : Nat) : List Int := (digs (2 ^ b) n x []).map Int.ofNat
theorem digs_len (p : Nat) : ∀ (n x : Nat) (acc : List Nat), (digs p n x acc).length = n + acc.length
  | 0, _, acc => by simp [digs]
  | n + 1, x, acc => by rw [digs, digs_len p n]; simp; omega
theorem mod_P2 (x b : Nat) : (x : Int) % P2 b = ((x % 2 ^ b : Nat) : Int) := by unfold P2; rw [Int.natCast_emod]
theorem div_P2 (x b : Nat) : (x : Int) / P2 b = ((x / 2 ^ b : Nat) : Int) := by unfold P2; rw [Int.natCast_ediv]

theorem mod_u64 {y x b k : Nat} (h : y ≤ x) (h1 : (x : Int) < P2 k) (h2 : P2 k ≤ 281474976710656) : 0 ≤ ((y % 2 ^ b : Nat) : Int) ∧ ((y % 2 ^ b : Nat) : Int) ≤ 18446744073709551615 := by
  have := Nat.mod_le y (2 ^ b)
  omega
theorem nb_bd {b n : Nat} (h : Rt b n) : 0 ≤ (n : Int) * (b : Int) ∧ (n : Int) * (b : Int) ≤ 48 := by
  have := h.m
  rw [← Int.natCast_mul]
  omega

set_option maxRecDepth 100000
section
theorem eachR_no (i j : Int) (x : Int) (h : rightB i j = false) (w : World) :
    Calls Try.prog 24 #[.int .i64 i, .int .i64 j, .int .u64 x] w fun e w' => e = .returned (.tuple #[.slice none 0 0, .int .i64 1]) ∧ w = w' := by
  go_enter Try.func24, Try.ntmps24
  go_wp2_with (go_at_call 79; refine (rightR_any _ _ _).mono ?_; rintro e w' ⟨rfl, rfl⟩)
  go_ret2
  exact ⟨rfl, rfl⟩
theorem eachR_big (b n : Nat) (h : Rt b n) (x : Int) (hx : P2 (n * b) ≤ x) (w : World) :
    Calls Try.prog 24 #[.int .i64 b, .int .i64 n, .int .u64 x] w fun e w' => e = .returned (.tuple #[.slice none 0 0, .int .i64 1]) ∧ w = w' := by
  have hr := rightB_of h
  obtain ⟨q1, q2⟩ := nb_bd h
  go_enter Try.func24, Try.ntmps24
  have p3 := h.m
  go_wp2_with (first | (go_at_call 79; refine (rightR_any _ _ _).mono ?_; rintro e w' ⟨rfl, rfl⟩) | (go_at_call 21; refine (power_any (n * b) h.m _ (by simp) _).mono ?_; rintro e w' ⟨rfl, rfl⟩))
  go_ret2
  exact ⟨rfl, rfl⟩

set_option maxHeartbeats 400000 in
theorem eachR_yes (b n : Nat) (h : Rt b n) (x : Nat) (hx : (x : Int) < P2 (n * b)) (w : World) :
    Calls Try.prog 24 #[.int .i64 b, .int .i64 n, .int .u64 x] w fun e w' => ∃ v, e = .returned (.tuple #[v, .int .i64 0]) ∧ IsSlice (repInt .u64) w' (all w') v (digZ b n x) ∧ Ext w w' := by
  have hr := rightB_of h
  obtain ⟨q1, q2⟩ := nb_bd h
  have p3 := h.m
  have hb1 := P2_pos b
  have h16 := h.n2
  have hxb := P2_bd p3
  go_enter Try.func24, Try.ntmps24
  go_wp2_with (first | (go_at_call 79; refine (rightR_any _ _ _).mono ?_; rintro e w' ⟨rfl, rfl⟩) | (go_at_call 21; refine (power_any (n * b) h.m _ (by simp) _).mono ?_; rintro e w' ⟨rfl, rfl⟩))
  go_loopw [2, 8, 9] (fun z u i wr => ∃ (j y : Nat) (acc : List Nat), j ≤ n ∧ i = .int .i64 j ∧ z = .int .u64 y ∧ y ≤ x ∧ acc.length = j ∧ digs (2 ^ b) (n - j) y acc = digs (2 ^ b) n x [] ∧ IsSlice (repInt .u64) wr (all wr) u (acc.map Int.ofNat) ∧ Ext w wr) (fun _ _ i _ => n - (intOf i).toNat)
  case atStart => exact ⟨0, x, [], Nat.zero_le _, rfl, rfl, Nat.le_refl _, rfl, rfl, isSlice_nil _ _ _, Below.refl _ _⟩
  case round =>
    obtain ⟨j, y, acc, hj, rfl, rfl, hyx, hal, hd, hs, hext⟩ := hrel
    have HD := hid hd
    have HA := hid hal
    have hlb : acc.length ≤ 16 := by omega
    clear hd hal
    by_cases hlt : j < n
    · have HM := hid (mod_P2 y b)
      have HV := hid (div_P2 y b)
      have hv0 : 0 ≤ (y : Int) / P2 b := by rw [HV.out]; exact Int.natCast_nonneg _
      have HW := hid (WalkArith.wf_u64 (show 0 ≤ (y : Int) % P2 b ∧ (y : Int) % P2 b ≤ 18446744073709551615 from by rw [HM.out]; exact mod_u64 hyx hx hxb))
      have hv1 : (y : Int) / P2 b ≤ x := by rw [HV.out]; exact_mod_cast Nat.le_trans (Nat.div_le_self _ _) hyx
      go_wp2_with (first | (go_at_call 21; refine (power_any b (Nat.le_trans h.b2 (by omega)) _ rfl _).mono ?_; rintro e w' ⟨rfl, rfl⟩) | (at_builtin; refine wpl_app_lit1 (r := repInt .u64) (x := (y : Int) % P2 b) (base := w.heap.size) _ _ rfl rfl Try.underlying35 info_u64 (by decide) (flat_int _) hs rfl rfl rfl ⟨rfl, HW.out⟩ (by simp; omega) (by simp [maxLen]; omega) hext.size ?_; intro v' w1 hown1 hext1))
      go_roundw
      case rel =>
        refine ⟨j + 1, y / 2 ^ b, y % 2 ^ b :: acc, by omega, by go_num, by rw [HV.out], Nat.le_trans (Nat.div_le_self _ _) hyx, by simp [HA.out], ?_, ?_, Ext.trans hext hext1⟩
        · rw [← HD.out]
          obtain ⟨m, hm⟩ : ∃ m, n - j = m + 1 := ⟨n - j - 1, by omega⟩
          rw [hm, show n - (j + 1) = m from by omega, digs]
        · have := hown1.slice
          rw [HM.out] at this
          exact this
      case measure => simp [intOf]; omega
    · have hjn : n - j = 0 := by omega
      go_wp2
      go_ret2
      refine ⟨_, rfl, ?_, hext⟩
      have := HD.out
      rw [hjn] at this
      unfold digZ
      rw [← this]
      exact hs

theorem cnt_succ (b n k : Nat) : ((cnt (2 ^ b) n (k + 1) : Nat) : Int) = ((cnt (2 ^ b) n k : Nat) : Int) + if hasDup (digZ b n k) = true then 1 else 0 := by
  unfold digZ
  rw [cnt]; split <;> simp
theorem cnt_le (p n : Nat) : ∀ k, cnt p n k ≤ k
  | 0 => Nat.le_refl _
  | k + 1 => by have := cnt_le p n k; rw [cnt]; split <;> omega
theorem countR_yes (b n : Nat) (h : Rt b n) (h8 : n * b ≤ 8) (w : World) :
    Calls Try.prog 22 #[.int .i64 b, .int .i64 n] w fun e w' => e = .returned (.int .u64 (BadZ b n)) ∧ Ext w w' := by
  obtain ⟨q1, q2⟩ := nb_bd h
  have hp1 := P2_pos (n * b)
  have hp2 := P2_bd h.m
  go_enter Try.func22, Try.ntmps22
  go_wp2
  go_loopw [5, 6] (fun c i wr => ∃ j : Nat, (j : Int) ≤ P2 (n * b) ∧ i = .int .u64 j ∧ c = .int .u64 (cnt (2 ^ b) n j) ∧ Ext w wr) (fun _ i _ => (P2 (n * b) - intOf i).toNat)
  case atStart => exact ⟨0, by omega, rfl, rfl, Below.refl _ _⟩
  case round =>
    obtain ⟨j, hj, rfl, rfl, hext⟩ := hrel
    have hc := cnt_le (2 ^ b) n j
    by_cases hlt : (j : Int) < P2 (n * b)
    · have HC := hid (cnt_succ b n j)
      by_cases hd : hasDup (digZ b n j) = true
      · go_wp2_with (first | (go_at_call 21; refine (power_any (n * b) h.m _ (by simp) _).mono ?_; rintro e w' ⟨rfl, rfl⟩) | (go_at_call 24; refine (eachR_yes b n h j hlt _).mono ?_; rintro e w1 ⟨u, rfl, hu, hext1⟩) | (go_at_call 80; refine (first_any _ _ _ hu).mono ?_; rintro e w2 ⟨a, a', rfl, hext2⟩))
        go_roundw
        case rel => exact ⟨j + 1, by omega, by go_num, by rw [HC.out, if_pos hd], Ext.trans (Ext.trans hext hext1) hext2⟩
        case measure => simp [intOf]; omega
      · go_wp2_with (first | (go_at_call 21; refine (power_any (n * b) h.m _ (by simp) _).mono ?_; rintro e w' ⟨rfl, rfl⟩) | (go_at_call 24; refine (eachR_yes b n h j hlt _).mono ?_; rintro e w1 ⟨u, rfl, hu, hext1⟩) | (go_at_call 80; refine (first_any _ _ _ hu).mono ?_; rintro e w2 ⟨a, a', rfl, hext2⟩))
        go_roundw
        case rel => exact ⟨j + 1, by omega, by go_num, by rw [HC.out, if_neg hd, Int.add_zero], Ext.trans (Ext.trans hext hext1) hext2⟩
        case measure => simp [intOf]; omega
    · have hjn : (j : Int) = P2 (n * b) := by omega
      have HJ := hid hjn
      clear hjn
      go_wp2_with (go_at_call 21; refine (power_any (n * b) h.m _ (by simp) _).mono ?_; rintro e w' ⟨rfl, rfl⟩)
      go_ret
      refine ⟨ret_int ?_, hext⟩
      have hJ := HJ.out
      have e : j = 2 ^ (n * b) := by unfold P2 at hJ; exact_mod_cast hJ
      rw [e, cnt_eq h h8]
      have h1 := FF_le_P2 (b := b) (n := n)
      unfold BadZ P2 FF at *
      omega
end
end Go.Proofs.Ytheopadakjojkaa
