/- The walks of judge.Crashed and of its reference; the reference's Of; the law's huge and few. -/
import Derived.Test.YtheopadakjojkaaJudgeLive
namespace Go.Proofs.Ytheopadakjojkaa
open Go.RowKit

/-- Is this event a crash of that station between those two? -/
def hit (x : Ev) (i f t who : Int) : Bool := decide (x.kind = 5 ∧ (who < 0 ∨ x.place = who) ∧ f < i ∧ i < t)
def crFrom (f t who : Int) : Nat → List Ev → Bool
  | _, [] => false
  | k, x :: l => hit x k f t who || crFrom f t who (k + 1) l
def crB (l : List Ev) (f t who : Int) : Bool := crFrom f t who 0 l
theorem crFrom_yes (f t who : Int) : ∀ (l : List Ev) (k j : Nat) (x : Ev), l[j]? = some x → hit x ((k + j : Nat) : Int) f t who = true → crFrom f t who k l = true
  | [], _, _, _, h, _ => by simp at h
  | y :: l, k, 0, x, h, hh => by simp at h; subst h; simp [crFrom, show hit y k f t who = true from hh]
  | y :: l, k, j + 1, x, h, hh => by
    rw [crFrom, crFrom_yes f t who l (k + 1) j x (by simpa using h) (by rw [show k + 1 + j = k + (j + 1) from by omega]; exact hh), Bool.or_true]
theorem crFrom_no (f t who : Int) : ∀ (l : List Ev) (k : Nat), (∀ (j : Nat) (x : Ev), l[j]? = some x → hit x ((k + j : Nat) : Int) f t who = false) → crFrom f t who k l = false
  | [], _, _ => rfl
  | y :: l, k, h => by
    rw [crFrom, show hit y k f t who = false from h 0 y (by simp), Bool.false_or]
    exact crFrom_no f t who l (k + 1) fun j x hj => by
      rw [show k + 1 + j = k + (j + 1) from by omega]
      exact h (j + 1) x (by simpa using hj)
theorem crB_yes {l : List Ev} {f t who : Int} {j : Nat} {x : Ev} (h : l[j]? = some x) (hh : hit x j f t who = true) : crB l f t who = true := crFrom_yes f t who l 0 j x h (by simpa using hh)
theorem crB_no {l : List Ev} {f t who : Int} (h : ∀ (j : Nat) (x : Ev), l[j]? = some x → hit x j f t who = false) : crB l f t who = false := crFrom_no f t who l 0 fun j x hj => by simpa using h j x hj
def NoHit (l : List Ev) (f t who : Int) (k : Nat) : Prop := ∀ (j : Nat) (x : Ev), j < k → l[j]? = some x → hit x j f t who = false
theorem noHit_step {l : List Ev} {f t who : Int} {k : Nat} {x : Ev} (h : NoHit l f t who k) (hx : l[k]? = some x) (hh : hit x k f t who = false) : NoHit l f t who (k + 1) := by
  intro j y hj hy
  rcases Nat.lt_or_ge j k with h1 | h1
  · exact h j y h1 hy
  · obtain rfl : j = k := by omega
    rw [hx] at hy
    injection hy with e
    subst e
    exact hh

/-- Is something longer than a hundred? (Of the first two hundred.) -/
def hugeB (l : List Ev) : Bool := decide (100 < l.length) || (l.take 200).any fun x => decide (100 < x.data.length)
/-- Are the texts few, and short? -/
def fewB (l : List (List UInt8)) : Bool := decide (l.length ≤ 60) && (l.take 100).all fun x => decide (x.length ≤ 100)
theorem hugeB_no {l : List Ev} (h : hugeB l = false) : l.length ≤ 100 ∧ ∀ x ∈ l, x.data.length ≤ 100 := by
  simp only [hugeB, Bool.or_eq_false_iff, decide_eq_false_iff_not, List.any_eq_false, decide_eq_true_eq] at h
  obtain ⟨h1, h2⟩ := h
  refine ⟨by omega, fun x hx => ?_⟩
  have := h2 x (by rw [List.take_of_length_le (by omega)]; exact hx)
  omega
theorem fewB_yes {l : List (List UInt8)} (h : fewB l = true) : l.length ≤ 60 ∧ ∀ x ∈ l, x.length ≤ 100 := by
  simp only [fewB, Bool.and_eq_true, decide_eq_true_eq, List.all_eq_true] at h
  obtain ⟨h1, h2⟩ := h
  exact ⟨h1, fun x hx => h2 x (by rw [List.take_of_length_le (by omega)]; exact hx)⟩

set_option maxRecDepth 100000
section
set_option maxHeartbeats 800000 in
theorem crashed_any (v : Value) (xs : List Ev) (f t who : Int) (w : World) (h : IsSlice repEv w (all w) v xs) :
    Calls Try.prog 43 #[v, .int .i64 f, .int .i64 t, .int .i64 who] w fun e w' => e = .returned (.bool (crB xs f t who)) ∧ Ext w w' := by
  obtain ⟨A, n, c, rfl, hnc, hcm, hrow⟩ := h
  have hn := hrow.1
  have hmax : n ≤ 9223372036854775807 := by unfold maxLen at hcm; omega
  have HN := hid hn
  clear hn
  go_enter Try.func43, Try.ntmps43
  go_wp2
  go_loopw [13] (fun i wr => ∃ k : Nat, k ≤ n ∧ i = .int .i64 k ∧ NoHit xs f t who k ∧ Ext w wr) (fun i _ => n - (intOf i).toNat)
  case atStart => exact ⟨0, Nat.zero_le _, rfl, fun _ _ h => absurd h (by omega), Below.refl _ _⟩
  case round =>
    obtain ⟨k, hk, rfl, hno, hext⟩ := hrel
    have HNO := hid hno
    clear hno
    by_cases hlt : k < n
    · obtain ⟨b, off, x, A', m, c', rfl, hx, hd, hdl, c0, c1, c2, c3⟩ := hrow.evE hext hlt
      have HX := hid hx
      clear hx hdl
      go_wp2
      all_goals first
        | (go_ret; exact ⟨ret_bool (crB_yes HX.out (decide_eq_true (by omega))).symm, Ext.trans hext (ext_alloc _ _)⟩)
        | (go_roundw
           case rel => exact ⟨k + 1, by omega, by go_num, noHit_step HNO.out HX.out (decide_eq_false (by first | omega | (simp_all only [beq_eq_false_iff_ne]; omega))), Ext.trans hext (ext_alloc _ _)⟩
           case measure => simp [intOf]; omega)
    · go_wp2
      go_ret
      exact ⟨ret_bool (crB_no fun j x hj => HNO.out j x (by have := lt_of_get hj; have := HN.out; omega) hj).symm, hext⟩

set_option maxHeartbeats 800000 in
theorem crashedR_any (v : Value) (xs : List Ev) (f t who : Int) (w : World) (h : IsSlice repEv w (all w) v xs) :
    Calls Try.prog 44 #[v, .int .i64 f, .int .i64 t, .int .i64 who] w fun e w' => e = .returned (.bool (crB xs f t who)) ∧ Ext w w' := by
  obtain ⟨A, n, c, rfl, hnc, hcm, hrow⟩ := h
  have hn := hrow.1
  have hmax : n ≤ 9223372036854775807 := by unfold maxLen at hcm; omega
  have HN := hid hn
  clear hn
  go_enter Try.func44, Try.ntmps44
  go_wp2
  go_loopw [9] (fun i wr => ∃ k : Nat, k ≤ n ∧ i = .int .i64 k ∧ NoHit xs f t who k ∧ Ext w wr) (fun i _ => n - (intOf i).toNat)
  case atStart => exact ⟨0, Nat.zero_le _, rfl, fun _ _ h => absurd h (by omega), Below.refl _ _⟩
  case round =>
    obtain ⟨k, hk, rfl, hno, hext⟩ := hrel
    have HNO := hid hno
    clear hno
    by_cases hlt : k < n
    · obtain ⟨b, off, x, A', m, c', rfl, hx, hd, hdl, c0, c1, c2, c3⟩ := hrow.evE hext hlt
      have HX := hid hx
      clear hx hdl
      go_wp2
      all_goals first
        | (go_ret; exact ⟨ret_bool (crB_yes HX.out (decide_eq_true (by omega))).symm, hext⟩)
        | (go_roundw
           case rel => exact ⟨k + 1, by omega, by go_num, noHit_step HNO.out HX.out (decide_eq_false (by first | omega | (simp_all only [beq_eq_false_iff_ne]; omega))), hext⟩
           case measure => simp [intOf]; omega)
    · go_wp2
      go_ret
      exact ⟨ret_bool (crB_no fun j x hj => HNO.out j x (by have := lt_of_get hj; have := HN.out; omega) hj).symm, hext⟩

set_option maxHeartbeats 400000 in
theorem ofR_any (v : Value) (xs : List Ev) (kind : Int) (w : World) (h : IsSlice repEv w (all w) v xs) (hl : xs.length ≤ 1000) (hd : ∀ x ∈ xs, x.data.length ≤ 1000) :
    Calls Try.prog 42 #[v, .int .i64 kind] w fun e w' => ∃ u, e = .returned u ∧ IsSlice (repSlice repByte) w' (fresh w w') u (texts xs kind) ∧ Ext w w' := by
  go_enter Try.func42, Try.ntmps42
  go_wp2_with fail
  refine (numbersR_any _ _ _ _ h hl).mono ?_
  rintro e w1 ⟨u, rfl, hu, hext1⟩
  have h1 := h.ext hext1
  obtain ⟨A, n, c, rfl, hnc, hcm, hrow⟩ := h1
  obtain ⟨B, m, c', rfl, hmc, hcm', hnum⟩ := hu.any
  have hn := hrow.1
  have hm := hnum.1
  have hnl := nums_le xs kind
  have hmb : m ≤ 1000 := by omega
  have HN := hid hn
  have HM := hid hm
  have HD := hid hd
  clear hn hm hd h hnl
  go_wp2
  go_loopw [6, 7] (fun u i wr => ∃ k : Nat, k ≤ m ∧ i = .int .i64 k ∧ Own (repSlice repByte) 49 w1.heap.size wr u (((nums xs kind).take k).map (dataAt xs)) ∧ Ext w1 wr) (fun _ i _ => m - (intOf i).toNat)
  case atStart => exact ⟨0, Nat.zero_le _, rfl, own_nil _ _ _ _, Below.refl _ _⟩
  case round =>
    obtain ⟨k, hk, rfl, hown, hext⟩ := hrel
    by_cases hlt : k < m
    · obtain ⟨b, off, z, rfl, hz, hcz, _⟩ := hnum.intE hext hlt
      obtain ⟨i, rfl, hil⟩ := nums_get hz
      have hin : i < n := by have := HN.out; omega
      obtain ⟨b', off', x, A', d, cd, rfl, hx, hdat, hdl, c0, c1, c2, c3⟩ := hrow.evE hext hin
      have hxd := HD.out x (List.mem_of_getElem? hx)
      have HS := hid (take_succ_of hz)
      have HX := hid (dataAt_nat hx)
      have HDL := hid hdl
      have hLen : (((nums xs kind).take k).map (dataAt xs)).length ≤ 1000 := by simp; omega
      clear hx hz hdl
      go_wp2_with fail
      refine (copyB_any _ _ _ (hdat.ext hext) (by omega)).mono ?_
      rintro e w2 ⟨u2, rfl, hu2, hex2⟩
      obtain ⟨A2, c2', rfl⟩ := hu2.shape
      have hown2 := hown.ext hex2
      have hu3 := hu2.newer (v := u6) (base := w1.heap.size) (fun k hk => hown.lt k hk) hext.size
      go_wp2_with (at_builtin; refine wpl_app1 (r := repSlice repByte) (x := x.data) _ _ rfl rfl Try.underlying42 info_bytes (by decide) hown2 rfl rfl rfl (isSlice_single hu3) (by omega) (by simp only [maxLen]; omega) (Nat.le_trans hext.size hex2.size) ?_; intro v' w3 hown3 hg3)
      go_roundw
      case rel => exact ⟨k + 1, by omega, by go_num, by rw [HS.out, List.map_append]; simp only [List.map_cons, List.map_nil, HX.out]; exact hown3, Below.grown (Ext.trans hext hex2) hg3 (Nat.le_trans hext.size hex2.size) (fun j hj => (hown2.lt j hj).1)⟩
      case measure => simp [intOf]; omega
    · go_wp2
      go_ret
      rw [List.take_of_length_le (by rw [HM.out]; omega)] at hown
      exact ⟨_, rfl, hown.fresh.since hext1, Ext.trans hext1 hext⟩

theorem hugeB_long {l : List Ev} {k : Nat} {x : Ev} (h : l[k]? = some x) (hk : k < 200) (hx : 100 < x.data.length) : hugeB l = true := by
  simp only [hugeB, Bool.or_eq_true, List.any_eq_true, decide_eq_true_eq]
  exact .inr ⟨x, List.mem_take_iff_getElem.2 ⟨k, by have := lt_of_get h; omega, (List.getElem?_eq_some_iff.1 h).2⟩, hx⟩
theorem hugeB_end {l : List Ev} {k : Nat} (h : ∀ (j : Nat) (x : Ev), j < k → l[j]? = some x → x.data.length ≤ 100) (hk : 200 ≤ k ∨ l.length ≤ k) : hugeB l = decide (100 < l.length) := by
  have : (l.take 200).any (fun x => decide (100 < x.data.length)) = false := by
    rw [List.any_eq_false]
    intro x hx
    obtain ⟨i, hi, e⟩ := List.mem_take_iff_getElem.1 hx
    have := h i x (by omega) (by rw [← e]; exact List.getElem?_eq_getElem _)
    simp; omega
  unfold hugeB
  rw [this, Bool.or_false]
theorem fewB_long {l : List (List UInt8)} {k : Nat} {x : List UInt8} (h : l[k]? = some x) (hk : k < 100) (hx : 100 < x.length) : fewB l = false := by
  rw [Bool.eq_false_iff]
  simp only [fewB, ne_eq, Bool.and_eq_true, List.all_eq_true, decide_eq_true_eq, not_and]
  intro _ h2
  have := h2 x (List.mem_take_iff_getElem.2 ⟨k, by have := lt_of_get h; omega, (List.getElem?_eq_some_iff.1 h).2⟩)
  omega
theorem fewB_end {l : List (List UInt8)} {k : Nat} (h : ∀ (j : Nat) (x : List UInt8), j < k → l[j]? = some x → x.length ≤ 100) (hk : 100 ≤ k ∨ l.length ≤ k) : fewB l = decide (l.length ≤ 60) := by
  have : (l.take 100).all (fun x => decide (x.length ≤ 100)) = true := by
    rw [List.all_eq_true]
    intro x hx
    obtain ⟨i, hi, e⟩ := List.mem_take_iff_getElem.1 hx
    have := h i x (by omega) (by rw [← e]; exact List.getElem?_eq_getElem _)
    simp; omega
  unfold fewB
  rw [this, Bool.and_true]

set_option maxHeartbeats 400000 in
theorem huge_any (v : Value) (xs : List Ev) (w : World) (h : IsSlice repEv w (all w) v xs) :
    Calls Try.prog 39 #[v] w fun e w' => e = .returned (.bool (hugeB xs)) ∧ w = w' := by
  obtain ⟨A, n, c, rfl, hnc, hcm, hrow⟩ := h
  have hn := hrow.1
  have hmax : n ≤ 9223372036854775807 := by unfold maxLen at hcm; omega
  have HN := hid hn
  clear hn
  go_enter Try.func39, Try.ntmps39
  go_wp2
  go_loop [3] (fun i => ∃ k : Nat, k ≤ n ∧ k ≤ 200 ∧ i = .int .i64 k ∧ ∀ (j : Nat) (x : Ev), j < k → xs[j]? = some x → x.data.length ≤ 100) (fun i => n - (intOf i).toNat)
  case atStart => exact ⟨0, Nat.zero_le _, by omega, rfl, fun _ _ h => absurd h (by omega)⟩
  case round =>
    obtain ⟨k, hk, hk2, rfl, hno⟩ := hrel
    have HNO := hid hno
    clear hno
    by_cases hlt : k < n ∧ k < 200
    · obtain ⟨hlt, hlt2⟩ := hlt
      obtain ⟨b, off, x, A', m, c', rfl, hx, hd, hdl, c0, c1, c2, c3⟩ := hrow.evE (Below.refl _ _) hlt
      have HX := hid hx
      have HL := hid hdl
      clear hx hdl
      by_cases hm : m ≤ 100
      · go_wp2
        go_round
        case rel =>
          refine ⟨k + 1, by omega, by omega, by go_num, fun j y hj hy => ?_⟩
          rcases Nat.lt_or_ge j k with h1 | h1
          · exact HNO.out j y h1 hy
          · obtain rfl : j = k := by omega
            rw [HX.out] at hy
            injection hy with e
            subst e
            rw [HL.out]; exact hm
        case measure => simp [intOf]; omega
      · go_wp2
        go_ret
        exact ⟨ret_bool (hugeB_long HX.out hlt2 (by rw [HL.out]; omega)).symm, rfl⟩
    · have he : hugeB xs = decide (100 < xs.length) := hugeB_end HNO.out (by have := HN.out; omega)
      have hw : decide ((100 : Int) < (n : Int)) = decide (100 < xs.length) := by rw [decide_eq_decide, HN.out]; omega
      have HE := hid (he.trans hw.symm)
      clear he hw
      by_cases hkn : k < n
      · go_wp2
        go_ret
        exact ⟨ret_bool HE.out.symm, rfl⟩
      · go_wp2
        go_ret
        exact ⟨ret_bool HE.out.symm, rfl⟩

set_option maxHeartbeats 400000 in
theorem few_any (v : Value) (xs : List (List UInt8)) (w : World) (h : IsSlice (repSlice repByte) w (all w) v xs) :
    Calls Try.prog 26 #[v] w fun e w' => e = .returned (.bool (fewB xs)) ∧ w = w' := by
  obtain ⟨A, n, c, rfl, hnc, hcm, hrow⟩ := h
  have hn := hrow.1
  have hmax : n ≤ 9223372036854775807 := by unfold maxLen at hcm; omega
  have HN := hid hn
  clear hn
  go_enter Try.func26, Try.ntmps26
  go_wp2
  go_loop [3] (fun i => ∃ k : Nat, k ≤ n ∧ k ≤ 100 ∧ i = .int .i64 k ∧ ∀ (j : Nat) (x : List UInt8), j < k → xs[j]? = some x → x.length ≤ 100) (fun i => n - (intOf i).toNat)
  case atStart => exact ⟨0, Nat.zero_le _, by omega, rfl, fun _ _ h => absurd h (by omega)⟩
  case round =>
    obtain ⟨k, hk, hk2, rfl, hno⟩ := hrel
    have HNO := hid hno
    clear hno
    by_cases hlt : k < n ∧ k < 100
    · obtain ⟨hlt, hlt2⟩ := hlt
      obtain ⟨b, off, A', m, c', x, rfl, hx, hd, hdl, c3⟩ := hrow.sliceE (Below.refl _ _) hlt
      have HX := hid hx
      have HL := hid hdl
      clear hx hdl
      by_cases hm : m ≤ 100
      · go_wp2
        go_round
        case rel =>
          refine ⟨k + 1, by omega, by omega, by go_num, fun j y hj hy => ?_⟩
          rcases Nat.lt_or_ge j k with h1 | h1
          · exact HNO.out j y h1 hy
          · obtain rfl : j = k := by omega
            rw [HX.out] at hy
            injection hy with e
            subst e
            rw [HL.out]; exact hm
        case measure => simp [intOf]; omega
      · go_wp2
        go_ret
        exact ⟨ret_bool (fewB_long HX.out hlt2 (by rw [HL.out]; omega)).symm, rfl⟩
    · have he : fewB xs = decide (xs.length ≤ 60) := fewB_end HNO.out (by have := HN.out; omega)
      have hw : decide ((n : Int) ≤ (60 : Int)) = decide (xs.length ≤ 60) := by rw [decide_eq_decide, HN.out]; omega
      have HE := hid (he.trans hw.symm)
      clear he hw
      by_cases hkn : k < n
      · go_wp2
        go_ret
        exact ⟨ret_bool HE.out.symm, rfl⟩
      · go_wp2
        go_ret
        exact ⟨ret_bool HE.out.symm, rfl⟩
end
end Go.Proofs.Ytheopadakjojkaa
