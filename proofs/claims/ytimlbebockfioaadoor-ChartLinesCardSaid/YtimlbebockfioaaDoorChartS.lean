/- The walks of the document's side of events as text. -/
import Derived.Test.YtimlbebockfioaaDoorChartU
namespace Go.Proofs.YtimlbebockfioaaDoor
open Go.RowKit

theorem tell_one {N : Nat} (h : N / 10 = 0) : Lib.decDigits N = [hexD (N % 10)] := by
  have hN : N < 10 := by omega
  rw [Lib.decDigits, dif_pos hN, Nat.mod_eq_of_lt hN]
  unfold hexD
  rw [if_pos hN]
theorem tell_more {N : Nat} (h : N / 10 ≠ 0) : Lib.decDigits N = Lib.decDigits (N / 10) ++ [hexD (N % 10)] := by
  rw [Lib.decDigits, dif_neg (by omega)]
  congr 2
  unfold hexD
  rw [if_pos (by omega)]
/-- What is told so far: the rest's digits stand ahead of t. -/
def TellAt (N n : Nat) (t : List UInt8) : Prop := (n = 0 ∧ Lib.decDigits N = t) ∨ (n ≠ 0 ∧ Lib.decDigits N = Lib.decDigits n ++ t)
theorem tellAt_first (N : Nat) : TellAt N (N / 10) [hexD (N % 10)] := by
  by_cases h : N / 10 = 0
  · exact .inl ⟨h, tell_one h⟩
  · exact .inr ⟨h, tell_more h⟩
theorem TellAt.next {N n : Nat} {t : List UInt8} (h : TellAt N n t) (hn : n ≠ 0) : TellAt N (n / 10) (hexD (n % 10) :: t) := by
  rcases h with ⟨h, _⟩ | ⟨_, h⟩
  · exact absurd h hn
  · by_cases h2 : n / 10 = 0
    · exact .inl ⟨h2, by rw [h, tell_one h2]; rfl⟩
    · exact .inr ⟨h2, by rw [h, tell_more h2]; simp⟩
theorem run_cutU (i j : Int) (k : Nat) (hi : i = k) (hj : j = k + 1) (hk : k < 16) (W : World) :
    (Instr.slice 9 (.string ⟨#[48, 49, 50, 51, 52, 53, 54, 55, 56, 57, 97, 98, 99, 100, 101, 102]⟩) (some (.int .u64 i)) (some (.int .u64 j)) none).run Tryd.prog W = .ok (.string (bstr [hexD k])) W := by
  subst hi
  subst hj
  refine (run_slice_string (P := Tryd.prog) W 9 _ .u64 .u64 (k : Int) ((k : Int) + 1) Tryd.underlying9 (by omega) (by omega) (by show (k : Int) + 1 ≤ 16; omega)).trans ?_
  have h2 : ∀ k : Fin 16, digitsS.extract k.val (k.val + 1) = bstr [hexD k.val] := by decide
  have h3 := h2 ⟨k, hk⟩
  rw [show ((k : Int) + 1).toNat = k + 1 from by omega, show ((k : Int)).toNat = k from by omega]
  congr 2
set_option maxRecDepth 100000
section
set_option maxHeartbeats 1000000 in
theorem word_any (k : Int) (w : World) : Calls Tryd.prog 22 #[.int .i64 k] w fun e w' => e = .returned (.string (bstr (wordK k))) ∧ Ext w w' := by
  have hk : k = 0 ∨ k = 1 ∨ k = 2 ∨ k = 3 ∨ k = 4 ∨ k = 5 ∨ k = 6 ∨ k = 7 ∨ k < 0 ∨ 8 ≤ k := by omega
  rcases hk with rfl | rfl | rfl | rfl | rfl | rfl | rfl | rfl | h | h
  case' inr.inr.inr.inr.inr.inr.inr.inr.inl =>
    have he : wordK k = [] := by unfold wordK knownI; rw [decide_eq_false (by omega)]; rfl
    rw [he]
    have t0 : decide (k < 0) = true := decide_eq_true h
    clear he
  case' inr.inr.inr.inr.inr.inr.inr.inr.inr =>
    have he : wordK k = [] := by unfold wordK knownI; rw [decide_eq_false (show ¬ k < 8 by omega), Bool.and_false]; rfl
    rw [he]
    have t0 : decide (k < 0) = false := decide_eq_false (by omega)
    have t1 : decide (8 ≤ k) = true := decide_eq_true h
    clear he
  all_goals
    go_enter Tryd.func22, Tryd.ntmps22
    go_wp2
    go_ret
    exact ⟨rfl, ext_alloc _ _⟩
set_option maxHeartbeats 1000000 in
theorem tell_any (N : Nat) (w : World) (hN : N ≤ 999999) : Calls Tryd.prog 50 #[.int .u64 (N : Int)] w fun e w' => e = .returned (.string (bstr (Lib.decDigits N))) ∧ w = w' := by
  obtain ⟨R, hR⟩ : ∃ R, R = Lib.decDigits N := ⟨_, rfl⟩
  have HF := hid (tellAt_first N)
  rw [← hR]
  have HR := hid hR
  have hlen := (decDigits_len hN).2
  rw [← hR] at hlen
  clear hR
  have i1 := run_cutU ((N : Int) % 10) ((N : Int) % 10 + 1) (N % 10) (by omega) (by omega) (by omega)
  go_enter Tryd.func50, Tryd.ntmps50
  go_wp2
  clear i1
  go_loop [0, 3] (fun n s => ∃ (m : Nat) (t : List UInt8), m ≤ 999999 ∧ n = .int .u64 (m : Int) ∧ s = .string (bstr t) ∧ Wall (TellAt N m t)) (fun n _ => (intOf n).toNat)
  case atStart => exact ⟨N / 10, [hexD (N % 10)], by omega, by go_num, rfl, HF⟩
  case round =>
    obtain ⟨m, t, hm, rfl, rfl, HT⟩ := hrel
    by_cases hm0 : m = 0
    · subst hm0
      have he : t = R := by
        rcases HT.out with ⟨_, h⟩ | ⟨h, _⟩
        · exact (HR.out.trans h).symm
        · exact absurd rfl h
      subst he
      go_wp2
      go_ret
      exact ⟨rfl, rfl⟩
    · have i1 := run_cutU ((m : Int) % 10) ((m : Int) % 10 + 1) (m % 10) (by omega) (by omega) (by omega)
      have hpos : 0 < m := by omega
      have htl : t.length ≤ 6 := by
        rcases HT.out with ⟨_, h⟩ | ⟨_, h⟩
        · exact absurd (by assumption) hm0
        · have h2 := congrArg List.length h
          rw [List.length_append] at h2
          have h3 := HR.out
          rw [← h3] at h2
          omega
      have HN := hid (HT.out.next hm0)
      have b1 : (bstr t).size ≤ 6 := by rw [bstr_size]; exact htl
      have b2 : (bstr [hexD (m % 10)]).size ≤ 1 := by rw [bstr_size]; simp
      have HE := hid (bstr_app [hexD (m % 10)] t)
      obtain ⟨T, hT⟩ : ∃ T, T = bstr t := ⟨_, rfl⟩
      rw [← hT] at b1 HE ⊢
      clear hm0 hT htl
      go_wp2
      go_round
      case rel => exact ⟨m / 10, hexD (m % 10) :: t, by omega, by go_num, by rw [HE.out]; rfl, HN⟩
      case measure => simp [intOf]; omega
theorem tellI_any (n : Int) (w : World) (h0 : 0 ≤ n) (h1 : n ≤ 999999) : Calls Tryd.prog 38 #[.int .i64 n] w fun e w' => e = .returned (.string (bstr (Lib.itoa n))) ∧ w = w' := by
  rw [itoa_pos h0]
  obtain ⟨N, rfl⟩ : ∃ N : Nat, n = N := ⟨n.toNat, by omega⟩
  have HT := hid fun W => tell_any N W (by omega)
  rw [show ((N : Int)).toNat = N from by omega]
  go_enter Tryd.func38, Tryd.ntmps38
  go_wp2_with (go_at_call 50; refine (HT.out _).mono ?_; rintro e w2 ⟨rfl, rfl⟩)
  go_ret
  exact ⟨rfl, rfl⟩
set_option maxHeartbeats 1000000 in
theorem numR_any (l : List UInt8) (w : World) (hl : l.length ≤ 1000) : Calls Tryd.prog 29 #[.string (bstr l)] w fun e w' => e = .returned (.int .i64 (numR l)) ∧ w = w' := by
  obtain ⟨S, hS⟩ : ∃ S, S = bstr l := ⟨_, rfl⟩
  have hsz : S.size = l.length := by rw [hS, bstr_size]
  have RA := hid fun (k : Nat) (c : UInt8) (h : l[k]? = some c) (i : Int) (hi : i = k) (kd : IntKind) (W : World) => run_at l h i hi kd W
  rw [← hS] at RA ⊢
  obtain ⟨R, hR⟩ : ∃ R, R = numR l := ⟨_, rfl⟩
  rw [← hR]
  have HR := hid hR
  obtain ⟨n, hn⟩ : ∃ n, n = l.length := ⟨_, rfl⟩
  rw [← hn] at hsz hl
  have HN := hid hn
  clear hS hn hR
  by_cases hb : n < 1 ∨ 6 < n
  · have hr : R = -1 := by
      rw [HR.out]
      unfold numR
      rw [if_neg (by have := HN.out; omega)]
    subst hr
    clear HR
    by_cases h1 : n < 1
    · obtain rfl : n = 0 := by omega
      clear hb h1
      go_enter Tryd.func29, Tryd.ntmps29
      go_wp2
      go_ret
      exact ⟨rfl, rfl⟩
    · have t1 : decide (n < 1) = false := decide_eq_false h1
      have t1' : decide ((n : Int) < 1) = false := decide_eq_false (by omega)
      have t2 : decide (6 < n) = true := decide_eq_true (by omega)
      have t2' : decide ((6 : Int) < (n : Int)) = true := decide_eq_true (by omega)
      have hn0 : 0 < n := by omega
      clear hb h1
      go_enter Tryd.func29, Tryd.ntmps29
      go_wp2
      go_ret
      exact ⟨rfl, rfl⟩
  · have hn1 : 1 ≤ n := by omega
    have hn6 : n ≤ 6 := by omega
    have t1 : decide (n < 1) = false := decide_eq_false (by omega)
    have t1' : decide ((n : Int) < 1) = false := decide_eq_false (by omega)
    have t2 : decide (6 < n) = false := decide_eq_false (by omega)
    have t2' : decide ((6 : Int) < (n : Int)) = false := decide_eq_false (by omega)
    clear hb
    go_enter Tryd.func29, Tryd.ntmps29
    go_wp2
    clear t1 t1' t2 t2'
    go_loop [3, 4] (fun v i => ∃ (k m : Nat), k ≤ n ∧ m ≤ 999999999 ∧ i = .int .i64 (k : Int) ∧ v = .int .i64 (m : Int) ∧ Wall ((l.take k).all isDig = true ∧ decV (l.take k) = m ∧ m + 1 ≤ 10 ^ k)) (fun _ i => n - (intOf i).toNat)
    case atStart => exact ⟨0, 0, Nat.zero_le _, by omega, rfl, rfl, hid ⟨rfl, rfl, by simp⟩⟩
    case round =>
      obtain ⟨k, m, hk, hm, rfl, rfl, HP⟩ := hrel
      by_cases hlt : k < n
      · obtain ⟨c, hc⟩ : ∃ c, l[k]? = some c := ⟨_, List.getElem?_eq_getElem (by have := HN.out; omega)⟩
        have i1 := RA.out _ _ hc (k : Int) rfl .i64
        have hc256 := c.toNat_lt
        have HTK := hid (take_succ_of hc)
        by_cases hd : isDig c = true
        · have hd2 := hd
          unfold isDig at hd2
          rw [Bool.and_eq_true, decide_eq_true_iff, decide_eq_true_iff] at hd2
          have hm6 : 10 * m + (c.toNat - 48) + 1 ≤ 10 ^ (k + 1) := by have := HP.out.2.2; rw [Nat.pow_succ]; omega
          have hm7 : 10 ^ (k + 1) ≤ 10 ^ 6 := Nat.pow_le_pow_right (by decide) (by omega)
          have hm8 : 10 * m + (c.toNat - 48) ≤ 999999999 := by omega
          have HN2 : Wall ((l.take (k + 1)).all isDig = true ∧ decV (l.take (k + 1)) = 10 * m + (c.toNat - 48) ∧ 10 * m + (c.toNat - 48) + 1 ≤ 10 ^ (k + 1)) := hid ⟨by rw [HTK.out, List.all_append, HP.out.1, List.all_cons, hd]; rfl, by rw [HTK.out, decV_snoc, HP.out.2.1], hm6⟩
          obtain ⟨d, hcd⟩ : ∃ d, d = c.toNat := ⟨_, rfl⟩
          rw [← hcd] at i1 hc256 hd2 HN2 hm8
          obtain ⟨d1, d2⟩ := hd2
          have s1 : decide (d < 48) = false := decide_eq_false (by omega)
          have s1' : decide ((d : Int) < 48) = false := decide_eq_false (by omega)
          have s2 : decide (57 < d) = false := decide_eq_false (by omega)
          have s2' : decide ((57 : Int) < (d : Int)) = false := decide_eq_false (by omega)
          clear hc hd hcd hm6 hm7
          go_wp2
          go_round
          case rel => exact ⟨k + 1, 10 * m + (d - 48), by omega, hm8, by go_num, by go_num, HN2⟩
          case measure => simp [intOf]; omega
        · have hr : R = -1 := by
            rw [HR.out]
            unfold numR
            rw [if_neg]
            rintro ⟨_, _, h⟩
            exact hd (List.all_eq_true.1 h c (List.mem_of_getElem? hc))
          subst hr
          clear HR
          have hd2 : c.toNat < 48 ∨ 57 < c.toNat := by
            unfold isDig at hd
            rw [Bool.and_eq_true, decide_eq_true_iff, decide_eq_true_iff] at hd
            omega
          obtain ⟨d, hcd⟩ : ∃ d, d = c.toNat := ⟨_, rfl⟩
          rw [← hcd] at i1 hc256 hd2
          clear hc hd hcd
          by_cases h1 : d < 48
          · have s1 : decide (d < 48) = true := decide_eq_true h1
            have s1' : decide ((d : Int) < 48) = true := decide_eq_true (by omega)
            clear hd2 h1
            go_wp2
            go_ret
            exact ⟨rfl, rfl⟩
          · have s1 : decide (d < 48) = false := decide_eq_false h1
            have s1' : decide ((d : Int) < 48) = false := decide_eq_false (by omega)
            have s2 : decide (57 < d) = true := decide_eq_true (by omega)
            have s2' : decide ((57 : Int) < (d : Int)) = true := decide_eq_true (by omega)
            clear hd2 h1
            go_wp2
            go_ret
            exact ⟨rfl, rfl⟩
      · obtain rfl : k = n := by omega
        have hfin := HP.out
        rw [List.take_of_length_le (by rw [HN.out]; exact Nat.le_refl _)] at hfin
        have hr : R = m := by
          rw [HR.out]
          unfold numR
          rw [if_pos ⟨by have := HN.out; omega, by have := HN.out; omega, hfin.1⟩, hfin.2.1]
        subst hr
        clear HR hfin
        go_wp2
        go_ret
        exact ⟨rfl, rfl⟩
end
end Go.Proofs.YtimlbebockfioaaDoor
