/- The walks of the reference's Of and of the law's huge. -/
import Derived.Test.YtjchobncmogcpaaOf
import Derived.Test.YtjchobncmogcpaaPlaces
namespace Go.Proofs.Ytjchobncmogcpaa
open Go.RowKit

/-- Is something longer than a hundred? (Of the first two hundred.) -/
def hugeB (l : List Ev) : Bool := decide (100 < l.length) || (l.take 200).any fun x => decide (100 < x.data.length)
theorem hugeB_no {l : List Ev} (h : hugeB l = false) : l.length ≤ 100 ∧ ∀ x ∈ l, x.data.length ≤ 100 := by
  simp only [hugeB, Bool.or_eq_false_iff, decide_eq_false_iff_not, List.any_eq_false, decide_eq_true_eq] at h
  obtain ⟨h1, h2⟩ := h
  refine ⟨by omega, fun x hx => ?_⟩
  have := h2 x (by rw [List.take_of_length_le (by omega)]; exact hx)
  omega
theorem hugeB_long {l : List Ev} {k : Nat} {x : Ev} (h : l[k]? = some x) (hk : k < 200) (hx : 100 < x.data.length) : hugeB l = true := by
  simp only [hugeB, Bool.or_eq_true, List.any_eq_true, decide_eq_true_eq]
  exact .inr ⟨x, List.mem_take_iff_getElem.2 ⟨k, by have := lt_of_get h; omega, (List.getElem?_eq_some_iff.1 h).2⟩, hx⟩
theorem hugeB_end {l : List Ev} {k : Nat} (h : ∀ (j : Nat) (x : Ev), j < k → l[j]? = some x → x.data.length ≤ 100) (hk : 200 ≤ k ∨ l.length ≤ k) : hugeB l = decide (100 < l.length) := by
  have : (l.take 200).any (fun x => decide (100 < x.data.length)) = false := by
    rw [List.any_eq_false]
    intro x hx
    obtain ⟨i, hi, e⟩ := List.mem_take_iff_getElem.1 hx
    have := h i x (by omega) (by rw [← e]; exact List.getElem?_eq_getElem _)
    simp; omega
  unfold hugeB
  rw [this, Bool.or_false]

/-- Are texts the first ones of others? -/
def preB {α : Type} [DecidableEq α] (xs ys : List α) : Bool := decide (xs.length ≤ ys.length) && decide (xs = ys.take xs.length)
theorem preB_short {α : Type} [DecidableEq α] {xs ys : List α} (h : ys.length < xs.length) : preB xs ys = false := by
  unfold preB; rw [decide_eq_false (by omega)]; rfl
theorem preB_long {α : Type} [DecidableEq α] {xs ys : List α} (h : xs.length ≤ ys.length) : preB xs ys = decide (xs = ys.take xs.length) := by
  unfold preB; rw [decide_eq_true h]; rfl

set_option maxRecDepth 100000
section
set_option maxHeartbeats 400000 in
theorem ofR_any (v : Value) (xs : List Ev) (kind : Int) (w : World) (h : IsSlice repEv w (all w) v xs) (hl : xs.length ≤ 1000) (hd : ∀ x ∈ xs, x.data.length ≤ 1000) :
    Calls Try.prog 64 #[v, .int .i64 kind] w fun e w' => ∃ u, e = .returned u ∧ IsSlice (repSlice repByte) w' (fresh w w') u (texts xs kind) ∧ Ext w w' := by
  go_enter Try.func64, Try.ntmps64
  go_wp2_with fail
  refine (numbersR_any _ _ _ _ h hl).mono ?_
  rintro e w1 ⟨u, rfl, hu, hext1⟩
  have h1 := h.ext hext1
  obtain ⟨A, n, c, rfl, hnc, hcm, hrow⟩ := h1
  obtain ⟨B, m, c', rfl, hmc, hcm', hnum⟩ := hu.any
  have hn := hrow.1
  have hm := hnum.1
  have hnl := nums_le xs kind
  have hmb : m ≤ 1000 := by omega
  have HN := hid hn
  have HM := hid hm
  have HD := hid hd
  clear hn hm hd h hnl
  go_wp2
  go_loopw [6, 7] (fun u i wr => ∃ k : Nat, k ≤ m ∧ i = .int .i64 k ∧ Own (repSlice repByte) 33 w1.heap.size wr u (((nums xs kind).take k).map (dataAt xs)) ∧ Ext w1 wr) (fun _ i _ => m - (intOf i).toNat)
  case atStart => exact ⟨0, Nat.zero_le _, rfl, own_nil _ _ _ _, Below.refl _ _⟩
  case round =>
    obtain ⟨k, hk, rfl, hown, hext⟩ := hrel
    by_cases hlt : k < m
    · obtain ⟨b, off, z, rfl, hz, hcz, _⟩ := hnum.intE hext hlt
      obtain ⟨i, rfl, hil⟩ := nums_get hz
      have hin : i < n := by have := HN.out; omega
      obtain ⟨b', off', x, A', d, cd, rfl, hx, hdat, hdl, c0, c1, c2, c3⟩ := hrow.evE hext hin
      have hxd := HD.out x (List.mem_of_getElem? hx)
      have HS := hid (take_succ_of hz)
      have HX := hid (dataAt_nat hx)
      have HDL := hid hdl
      have hLen : (((nums xs kind).take k).map (dataAt xs)).length ≤ 1000 := by simp; omega
      clear hx hz hdl
      go_wp2_with fail
      refine (copyB_any _ _ _ (hdat.ext hext) (by omega)).mono ?_
      rintro e w2 ⟨u2, rfl, hu2, hex2⟩
      obtain ⟨A2, c2', rfl⟩ := hu2.shape
      have hown2 := hown.ext hex2
      have hu3 := hu2.newer (v := u6) (base := w1.heap.size) (fun k hk => hown.lt k hk) hext.size
      go_wp2_with (at_builtin; refine wpl_app1 (r := repSlice repByte) (x := x.data) _ _ rfl rfl Try.underlying25 info_bytes (by decide) hown2 rfl rfl rfl (isSlice_single hu3) (by omega) (by simp only [maxLen]; omega) (Nat.le_trans hext.size hex2.size) ?_; intro v' w3 hown3 hg3)
      go_roundw
      case rel => exact ⟨k + 1, by omega, by go_num, by rw [HS.out, List.map_append]; simp only [List.map_cons, List.map_nil, HX.out]; exact hown3, Below.grown (Ext.trans hext hex2) hg3 (Nat.le_trans hext.size hex2.size) (fun j hj => (hown2.lt j hj).1)⟩
      case measure => simp [intOf]; omega
    · go_wp2
      go_ret
      rw [List.take_of_length_le (by rw [HM.out]; omega)] at hown
      exact ⟨_, rfl, hown.fresh.since hext1, Ext.trans hext1 hext⟩

set_option maxHeartbeats 400000 in
theorem huge_any (v : Value) (xs : List Ev) (w : World) (h : IsSlice repEv w (all w) v xs) :
    Calls Try.prog 54 #[v] w fun e w' => e = .returned (.bool (hugeB xs)) ∧ w = w' := by
  obtain ⟨A, n, c, rfl, hnc, hcm, hrow⟩ := h
  have hn := hrow.1
  have hmax : n ≤ 9223372036854775807 := by unfold maxLen at hcm; omega
  have HN := hid hn
  clear hn
  go_enter Try.func54, Try.ntmps54
  go_wp2
  go_loop [3] (fun i => ∃ k : Nat, k ≤ n ∧ k ≤ 200 ∧ i = .int .i64 k ∧ ∀ (j : Nat) (x : Ev), j < k → xs[j]? = some x → x.data.length ≤ 100) (fun i => n - (intOf i).toNat)
  case atStart => exact ⟨0, Nat.zero_le _, by omega, rfl, fun _ _ h => absurd h (by omega)⟩
  case round =>
    obtain ⟨k, hk, hk2, rfl, hno⟩ := hrel
    have HNO := hid hno
    clear hno
    by_cases hlt : k < n ∧ k < 200
    · obtain ⟨hlt, hlt2⟩ := hlt
      obtain ⟨b, off, x, A', m, c', rfl, hx, hd, hdl, c0, c1, c2, c3⟩ := hrow.evE (Below.refl _ _) hlt
      have HX := hid hx
      have HL := hid hdl
      clear hx hdl
      by_cases hm : m ≤ 100
      · go_wp2
        go_round
        case rel =>
          refine ⟨k + 1, by omega, by omega, by go_num, fun j y hj hy => ?_⟩
          rcases Nat.lt_or_ge j k with h1 | h1
          · exact HNO.out j y h1 hy
          · obtain rfl : j = k := by omega
            rw [HX.out] at hy
            injection hy with e
            subst e
            rw [HL.out]; exact hm
        case measure => simp [intOf]; omega
      · go_wp2
        go_ret
        exact ⟨ret_bool (hugeB_long HX.out hlt2 (by rw [HL.out]; omega)).symm, rfl⟩
    · have he : hugeB xs = decide (100 < xs.length) := hugeB_end HNO.out (by have := HN.out; omega)
      have hw : decide ((100 : Int) < (n : Int)) = decide (100 < xs.length) := by rw [decide_eq_decide, HN.out]; omega
      have HE := hid (he.trans hw.symm)
      clear he hw
      by_cases hkn : k < n
      · go_wp2
        go_ret
        exact ⟨ret_bool HE.out.symm, rfl⟩
      · go_wp2
        go_ret
        exact ⟨ret_bool HE.out.symm, rfl⟩

theorem prefixR_any (u v : Value) (xs ys : List (List UInt8)) (w : World) (h : IsSlice (repSlice repByte) w (all w) u xs) (h' : IsSlice (repSlice repByte) w (all w) v ys) :
    Calls Try.prog 63 #[u, v] w fun e w' => e = .returned (.bool (preB xs ys)) ∧ ∃ k, w' = w.drewN k := by
  obtain ⟨A, n, c, rfl, hnc, hcm, hrow⟩ := h
  obtain ⟨B, m, d, rfl, hmd, hdm, hrow'⟩ := h'
  have hn := hrow.1
  have hm := hrow'.1
  have hmax : n ≤ 9223372036854775807 := by unfold maxLen at hcm; omega
  have hmax' : m ≤ 9223372036854775807 := by unfold maxLen at hdm; omega
  by_cases hle : n ≤ m
  · obtain ⟨B', hrun, hcut⟩ := cut_to (P := Try.prog) Try.underlying25 info_bytes (hrow'.isSlice hmd hdm) hle
    have hq := sameAllB_any _ _ xs (ys.take n) w (hrow.isSlice hnc hcm) hcut
    have HQ := hid hq
    have hP : preB xs ys = decide (xs = ys.take n) := by rw [preB_long (by omega), hn]
    have HP := hid hP
    clear hq hP hn hm hrow hrow' hcut
    go_enter Try.func63, Try.ntmps63
    go_wp2_with (go_at_call 21; refine HQ.out.mono ?_; rintro e w' ⟨rfl, k, rfl⟩)
    go_ret
    exact ⟨ret_bool HP.out.symm, k, rfl⟩
  · have hP : preB xs ys = false := preB_short (by omega)
    have HP := hid hP
    clear hP hn hm hrow hrow'
    go_enter Try.func63, Try.ntmps63
    go_wp2
    go_ret
    exact ⟨ret_bool HP.out.symm, 0, rfl⟩
end
end Go.Proofs.Ytjchobncmogcpaa
