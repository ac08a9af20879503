/- The walks of odds.Each, and of the reference's Same on numbers. -/
import Derived.StillTailTactics
import Derived.Deep.RegionWith
import Derived.Test.YtheopadakjojkaaCount
namespace Go.Proofs.Ytheopadakjojkaa
open Go.RowKit

theorem digs_app (p : Nat) : ∀ (n x : Nat) (acc : List Nat), digs p n x acc = digs p n x [] ++ acc
  | 0, _, acc => by simp [digs]
  | n + 1, x, acc => by rw [digs, digs_app p n, digs, digs_app p n (x / p) [x % p]]; simp
theorem digs_get (p : Nat) : ∀ (n x j : Nat), j < n → (digs p n x [])[n - 1 - j]? = some (x / p ^ j % p)
  | 0, _, _, h => by omega
  | n + 1, x, j, h => by
    rw [digs, digs_app]
    have hl : (digs p n (x / p) []).length = n := by simp [digs_len]
    rcases j with _ | j
    · rw [List.getElem?_append_right (by omega)]
      simp [hl]
    · rw [List.getElem?_append_left (by omega), show n + 1 - 1 - (j + 1) = n - 1 - j from by omega, digs_get p n (x / p) j (by omega), Nat.div_div_eq_div_mul, Nat.pow_succ, Nat.mul_comm p]
theorem digZ_len (b n x : Nat) : (digZ b n x).length = n := by simp [digZ, digs_len]
theorem digZ_get {b n x j i s : Nat} (hj : j < n) (hi : i = n - 1 - j) (hs : s = j * b) : (digZ b n x)[i]? = some (((x / 2 ^ s % 2 ^ b : Nat)) : Int) := by
  unfold digZ
  rw [List.getElem?_map, hi, digs_get _ _ _ _ hj, hs, Nat.mul_comm j b, Nat.pow_mul]
  rfl
theorem digs_bd (p : Nat) (hp : p ≤ 65536) (h0 : 0 < p) : ∀ (n x : Nat) (acc : List Nat), (∀ y ∈ acc, y ≤ 65536) → ∀ y ∈ digs p n x acc, y ≤ 65536
  | 0, _, acc, h => by simpa [digs] using h
  | n + 1, x, acc, h => by
    rw [digs]
    refine digs_bd p hp h0 n _ _ fun y hy => ?_
    rcases List.mem_cons.1 hy with rfl | hy
    · have := Nat.mod_lt x h0; omega
    · exact h y hy
theorem digZ_wf {b n x : Nat} (hb : b ≤ 16) : ∀ z ∈ digZ b n x, (Lit.int .u64 z).wf = true := by
  intro z hz
  obtain ⟨y, hy, rfl⟩ := List.mem_map.1 hz
  have := digs_bd (2 ^ b) (Nat.le_trans (Nat.pow_le_pow_right (by omega) hb) (show 2 ^ 16 ≤ 65536 by decide)) (Nat.two_pow_pos b) n x [] (by simp) y hy
  exact WalkArith.wf_u64 (by simp; omega)
theorem own_ints {w : World} {base e g n c : Nat} {k : IntKind} {xs : List Int} (h : w.ownsRow base e 1 (.slice (some ⟨g, 0, none⟩) n c) n (xs.map (Value.int k))) (hw : ∀ z ∈ xs, (Lit.int k z).wf = true) : IsSlice (repInt k) w (all w) (.slice (some ⟨g, 0, none⟩) n c) xs := by
  have hl : xs.length = n := by have := h.1; simpa using this
  have h' : Own (repInt k) e base w (.slice (some ⟨g, 0, none⟩) n c) xs := by
    refine ⟨xs.map (Value.int k), by rw [hl]; exact h, fun j hj => ⟨?_, hw _ (List.getElem_mem hj)⟩⟩
    show (((xs.map (Value.int k)).drop (j * 1)).take 1) = _
    rw [Nat.mul_one, List.drop_eq_getElem_cons (by simpa using hj)]
    simp
  exact h'.slice
theorem and_val {x s b k : Nat} (h1 : (x : Int) < P2 k) (h2 : P2 k ≤ 281474976710656) (hb : b ≤ 16) : bits .and .u64 ((x : Int) / 2 ^ s) (IntKind.u64.wrap (P2 b - 1)) = ((x / 2 ^ s % 2 ^ b : Nat) : Int) := by
  have hp : 1 ≤ 2 ^ b := Nat.two_pow_pos b
  have hp2 : 2 ^ b ≤ 2 ^ 16 := Nat.pow_le_pow_right (by omega) hb
  have e1 : IntKind.u64.wrap (P2 b - 1) = ((2 ^ b - 1 : Nat) : Int) := by unfold P2; rw [IntWalk.u64_in _ (by omega)]; omega
  have e2 : (x : Int) / 2 ^ s = ((x / 2 ^ s : Nat) : Int) := by rw [Int.natCast_ediv]; simp
  have hd := Nat.div_le_self x (2 ^ s)
  rw [e1, e2, u64_and_nat _ _ (by omega) (by omega), Nat.and_two_pow_sub_one_eq_mod]
theorem set_step {L : List Int} {i n : Nat} {y : Int} (h : L[i]? = some y) (hn : i < n) (hl : L.length = n) : ((List.replicate (i + 1) 0 ++ L.drop (i + 1)).map (Value.int .u64)).set i (.int .u64 y) = (List.replicate i 0 ++ L.drop i).map (Value.int .u64) := by
  rw [← List.map_set]
  congr 1
  rw [List.replicate_succ', List.append_assoc, List.set_append_right _ _ (by simp)]
  congr 1
  have : L.drop i = y :: L.drop (i + 1) := by
    have hi : i < L.length := by omega
    rw [List.drop_eq_getElem_cons hi]
    have := (List.getElem?_eq_some_iff.1 h).2
    rw [this]
  simp [this]

set_option maxRecDepth 100000
section
theorem each_no (i j : Int) (x : Int) (h : rightB i j = false) (w : World) :
    Calls Try.prog 23 #[.int .i64 i, .int .i64 j, .int .u64 x] w fun e w' => e = .returned (.tuple #[.slice none 0 0, .int .i64 1]) ∧ w = w' := by
  go_enter Try.func23, Try.ntmps23
  go_wp2_with (go_at_call 77; refine (right_any _ _ _).mono ?_; rintro e w' ⟨rfl, rfl⟩)
  go_ret2
  exact ⟨rfl, rfl⟩
theorem each_big (b n : Nat) (h : Rt b n) (x : Int) (hx : P2 (n * b) ≤ x) (w : World) :
    Calls Try.prog 23 #[.int .i64 b, .int .i64 n, .int .u64 x] w fun e w' => e = .returned (.tuple #[.slice none 0 0, .int .i64 1]) ∧ w = w' := by
  have hr := rightB_of h
  go_enter Try.func23, Try.ntmps23
  go_wp2_with (first | (go_at_call 77; refine (right_any _ _ _).mono ?_; rintro e w' ⟨rfl, rfl⟩) | (go_at_call 78; refine (ways_any _ _ (n * b) (by simp) h.m _).mono ?_; rintro e w' ⟨rfl, rfl⟩))
  go_ret2
  exact ⟨rfl, rfl⟩

set_option maxHeartbeats 400000 in
theorem each_yes (b n : Nat) (h : Rt b n) (x : Nat) (hx : (x : Int) < P2 (n * b)) (w : World) :
    Calls Try.prog 23 #[.int .i64 b, .int .i64 n, .int .u64 x] w fun e w' => ∃ v, e = .returned (.tuple #[v, .int .i64 0]) ∧ IsSlice (repInt .u64) w' (all w') v (digZ b n x) ∧ Ext w w' := by
  have hr := rightB_of h
  obtain ⟨q1, q2⟩ := nb_bd h
  have p3 := h.m
  have hb1 := P2_pos b
  have h16 := h.n2
  have hxb := P2_bd p3
  obtain ⟨i0, hi, hz0, hz1, hz2⟩ := info_parts (show (Try.prog.info? 22).map (fun i => (i.zero, i.size, i.bytes)) = some (some (.int .u64 0), 1, 8) from by kernel_rfl)
  go_enter Try.func23, Try.ntmps23
  go_wp2_with (first | (go_at_call 77; refine (right_any _ _ _).mono ?_; rintro e w' ⟨rfl, rfl⟩) | (go_at_call 78; refine (ways_any _ _ (n * b) (by simp) h.m _).mono ?_; rintro e w' ⟨rfl, rfl⟩) | (at_make; refine wpList_make_full _ rfl _ _ 35 rfl w.heap.size 22 i0 (.int .u64 0) 1 Try.underlying35 hi hz0 hz1 .i64 .i64 n n n rfl rfl rfl rfl (by rw [hz2]; omega) (by simp only [maxLen]; omega) (Nat.le_refl _) ?_; intro w1 hown1 hg1))
  go_loopw [24] (fun i wr => ∃ j : Nat, j ≤ n ∧ i = .int .i64 j ∧ wr.ownsRow w.heap.size 22 1 (.slice (some ⟨w.heap.size, 0, none⟩) n n) n ((List.replicate (n - j) 0 ++ (digZ b n x).drop (n - j)).map (Value.int .u64)) ∧ Below w.heap.size w wr) (fun i _ => n - (intOf i).toNat)
  case atStart =>
    refine ⟨0, Nat.zero_le _, rfl, ?_, (Below.refl _ _).grown hg1 (Nat.le_refl _) (by simp)⟩
    have e : (madeCells (Value.int .u64 0).cells (n * 1)).toList = (List.replicate (n - 0) 0 ++ (digZ b n x).drop (n - 0)).map (Value.int .u64) := by
      rw [Nat.mul_one, Nat.sub_zero, List.drop_of_length_le (by rw [digZ_len]; exact Nat.le_refl _), List.append_nil, List.map_replicate]
      exact toList_madeCells_one _ n
    rw [← e]
    exact hown1
  case round =>
    obtain ⟨j, hj, rfl, hown, hext⟩ := hrel
    by_cases hlt : j < n
    · have hcell := hown.cellAt (n - 1 - j) (by omega)
      have hfr := hown.frozenAt (n - 1 - j)
      have i2 : n - 1 - j < n := by omega
      obtain ⟨s, hs⟩ : ∃ s, s = j * b := ⟨_, rfl⟩
      obtain ⟨i, hi'⟩ : ∃ i, i = n - 1 - j := ⟨_, rfl⟩
      have hsb : s ≤ 48 := by rw [hs]; exact Nat.le_trans (Nat.mul_le_mul_right b (Nat.le_of_lt hlt)) h.m
      rw [← hi'] at hcell hfr i2
      obtain ⟨u, hu⟩ : ∃ u, wr.cell? ⟨w.heap.size, i, none⟩ = some u := by
        rw [hcell, List.getElem?_eq_getElem (by rw [hown.1]; omega)]
        exact ⟨_, rfl⟩
      clear hcell
      have e1 : IntKind.i64.wrap ((n : Int) - 1) = (n : Int) - 1 := IntWalk.i64_in _ (by omega)
      have e2 : IntKind.i64.wrap ((n : Int) - 1 - (j : Int)) = (i : Int) := by rw [IntWalk.i64_in _ (by omega)]; omega
      have e3 : IntKind.i64.wrap ((j : Int) * (b : Int)) = (s : Int) := by rw [hs, Int.natCast_mul]; exact IntWalk.i64_in _ (by rw [← Int.natCast_mul, ← hs]; omega)
      have HS := hid hs
      have HI := hid hi'
      clear hs hi'
      go_wp2
      go_region_with (go_at_call 78; refine (ways_any _ _ b (by simp) (Nat.le_trans h.b2 (by omega)) _).mono ?_; rintro e w' ⟨rfl, rfl⟩)
      go_wp2
      go_roundw
      case rel =>
        refine ⟨j + 1, by omega, by go_num, ?_, (hext.setCell (by simp) _).drew⟩
        have hg := digZ_get (x := x) hlt HI.out HS.out
        have h1 := (hown.stored i (.int .u64 (bits .and .u64 ((x : Int) / 2 ^ s) (IntKind.u64.wrap (P2 b - 1))))).1
        rw [and_val hx hxb h.b2] at h1 ⊢
        have hI := HI.out
        rw [show n - j = i + 1 from by omega, set_step hg i2 (digZ_len b n x)] at h1
        rw [show n - (j + 1) = i from by omega]
        exact h1.drew
      case measure => simp [intOf]; omega
    · have hjn : n - j = 0 := by omega
      have H0 := hid hjn
      clear hjn
      go_wp2
      go_ret2
      refine ⟨_, rfl, ?_, hext⟩
      rw [H0.out] at hown
      simp only [List.replicate_zero, List.nil_append, List.drop_zero] at hown
      exact own_ints hown (digZ_wf h.b2)

set_option maxHeartbeats 400000 in
theorem sameR_any (v u : Value) (xs ys : List Int) (w : World) (h : IsSlice (repInt .u64) w (all w) v xs) (h' : IsSlice (repInt .u64) w (all w) u ys) :
    Calls Try.prog 25 #[v, u] w fun e w' => e = .returned (.bool (decide (xs = ys))) ∧ ∃ k, w' = w.drewN k := by
  obtain ⟨A, n, c, rfl, hnc, hcm, hrow⟩ := h
  obtain ⟨A', n', c', rfl, hnc', hcm', hrow'⟩ := h'
  have hn := hrow.1
  have hn' := hrow'.1
  have hmax : n ≤ 9223372036854775807 := by unfold maxLen at hcm; omega
  have hmax' : n' ≤ 9223372036854775807 := by unfold maxLen at hcm'; omega
  by_cases hne : n = n'
  · subst hne
    have HN := hid hn
    have HN' := hid hn'
    clear hn hn'
    go_enter Try.func25, Try.ntmps25
    go_wp2
    go_loopw [5] (fun i wr => ∃ j : Nat, j ≤ n ∧ i = .int .i64 j ∧ xs.take j = ys.take j ∧ ∃ k, wr = w.drewN k) (fun i _ => n - (intOf i).toNat)
    case atStart => exact ⟨0, Nat.zero_le _, rfl, by simp, 0, rfl⟩
    case round =>
      obtain ⟨j, hj, rfl, heq, nd, rfl⟩ := hrel
      have HEQ := hid heq
      clear heq
      by_cases hlt : j < n
      · obtain ⟨b, off, x, rfl, hb, hx, hcx, _⟩ := hrow.int hlt
        obtain ⟨b', off', y, rfl, hb', hy, hcy, _⟩ := hrow'.int hlt
        have HX := hid hx
        have HY := hid hy
        clear hx hy
        by_cases hxy : (x != y) = true
        · go_wp2
          go_quiet (fail)
          go_wp2
          go_ret
          refine ⟨ret_bool ?_, _, World.drewN_drewN _ _ _⟩
          symm
          rw [decide_eq_false_iff_not]
          intro he
          subst he
          have h1 := HX.out
          rw [HY.out] at h1
          injection h1 with h1
          simp [h1] at hxy
        · have hxy : (x != y) = false := by simpa using hxy
          go_wp2
          go_quiet (fail)
          go_wp2
          go_roundw
          case rel =>
            refine ⟨j + 1, by omega, by go_num, ?_, _, rfl⟩
            rw [take_succ_of HX.out, take_succ_of HY.out, HEQ.out]
            have : x = y := by simpa using hxy
            rw [this]
          case measure => simp [intOf]; omega
      · obtain rfl : j = n := by omega
        go_wp2
        go_ret
        refine ⟨ret_bool ?_, _, rfl⟩
        symm
        rw [decide_eq_true_iff]
        have := HEQ.out
        rwa [List.take_of_length_le (by rw [HN.out]; exact Nat.le_refl _), List.take_of_length_le (by rw [HN'.out]; exact Nat.le_refl _)] at this
  · have hb : ((n : Int) != (n' : Int)) = true := by rw [bne_iff_ne]; omega
    have hf : decide (xs = ys) = false := by
      rw [decide_eq_false_iff_not]
      intro he
      subst he
      omega
    clear hn hn' hrow hrow'
    go_enter Try.func25, Try.ntmps25
    go_wp2
    go_ret
    exact ⟨ret_bool hf.symm, 0, rfl⟩

/-- May so many numbers of so many bits be, and is there such a way? -/
def okB (bits n : Int) (x : Nat) : Bool := rightB bits n && decide ((x : Int) < P2 (n.toNat * bits.toNat))
def eachL (bits n : Int) (x : Nat) : List Int := if okB bits n x then digZ bits.toNat n.toNat x else []
def eachE (bits n : Int) (x : Nat) : Int := if okB bits n x then 0 else 1

theorem each_any (i j : Int) (x : Nat) (w : World) :
    Calls Try.prog 23 #[.int .i64 i, .int .i64 j, .int .u64 x] w fun e w' => ∃ v, e = .returned (.tuple #[v, .int .i64 (eachE i j x)]) ∧ IsSlice (repInt .u64) w' (all w') v (eachL i j x) ∧ Ext w w' := by
  unfold eachE eachL okB
  cases h : rightB i j
  · exact (each_no i j x h w).mono fun e w' ⟨he, hw⟩ => ⟨_, he, isSlice_nil _ _ _, by subst hw; exact Below.refl _ _⟩
  · obtain ⟨b, n, rfl, rfl, hr⟩ := rightB_nat h
    by_cases hx : (x : Int) < P2 (n * b)
    · refine (each_yes b n hr x hx w).mono fun e w' ⟨v, he, hv, hext⟩ => ?_
      simp only [Int.toNat_natCast, hx, decide_true, Bool.and_self, if_true]
      exact ⟨v, he, hv, hext⟩
    · refine (each_big b n hr x (by omega) w).mono fun e w' ⟨he, hw⟩ => ?_
      simp only [Int.toNat_natCast, hx, decide_false, Bool.and_false, Bool.false_eq_true, if_false]
      exact ⟨_, he, isSlice_nil _ _ _, by subst hw; exact Below.refl _ _⟩
theorem eachR_any (i j : Int) (x : Nat) (w : World) :
    Calls Try.prog 24 #[.int .i64 i, .int .i64 j, .int .u64 x] w fun e w' => ∃ v, e = .returned (.tuple #[v, .int .i64 (eachE i j x)]) ∧ IsSlice (repInt .u64) w' (all w') v (eachL i j x) ∧ Ext w w' := by
  unfold eachE eachL okB
  cases h : rightB i j
  · exact (eachR_no i j x h w).mono fun e w' ⟨he, hw⟩ => ⟨_, he, isSlice_nil _ _ _, by subst hw; exact Below.refl _ _⟩
  · obtain ⟨b, n, rfl, rfl, hr⟩ := rightB_nat h
    by_cases hx : (x : Int) < P2 (n * b)
    · refine (eachR_yes b n hr x hx w).mono fun e w' ⟨v, he, hv, hext⟩ => ?_
      simp only [Int.toNat_natCast, hx, decide_true, Bool.and_self, if_true]
      exact ⟨v, he, hv, hext⟩
    · refine (eachR_big b n hr x (by omega) w).mono fun e w' ⟨he, hw⟩ => ?_
      simp only [Int.toNat_natCast, hx, decide_false, Bool.and_false, Bool.false_eq_true, if_false]
      exact ⟨_, he, isSlice_nil _ _ _, by subst hw; exact Below.refl _ _⟩

theorem digs_inj (p : Nat) : ∀ (n x y : Nat), digs p n x [] = digs p n y [] → x % p ^ n = y % p ^ n
  | 0, x, y, _ => by simp [Nat.mod_one]
  | n + 1, x, y, h => by
    rw [digs, digs_app, digs, digs_app p n (y / p)] at h
    have hl := List.append_inj h (by simp [digs_len])
    have h1 := digs_inj p n (x / p) (y / p) hl.1
    have h2 : x % p = y % p := by simpa using hl.2
    rw [Nat.pow_succ, Nat.mul_comm, Nat.mod_mul, Nat.mod_mul, h1, h2]
theorem digZ_inj {b n x y : Nat} (hx : (x : Int) < P2 (n * b)) (hy : (y : Int) < P2 (n * b)) : digZ b n x = digZ b n y ↔ x = y := by
  constructor
  · intro h
    have h1 : digs (2 ^ b) n x [] = digs (2 ^ b) n y [] := by
      unfold digZ at h
      exact (List.map_inj_right (fun a b h => by have h : (a : Int) = (b : Int) := h; omega)).1 h
    have h2 := digs_inj _ _ _ _ h1
    have e : (2 ^ b) ^ n = 2 ^ (n * b) := by rw [← Nat.pow_mul, Nat.mul_comm]
    unfold P2 at hx hy
    rwa [e, Nat.mod_eq_of_lt (by omega), Nat.mod_eq_of_lt (by omega)] at h2
  · rintro rfl; rfl
theorem each_two {i j : Int} {x y : Nat} (hx : eachE i j x = 0) (hy : eachE i j y = 0) : (decide (eachL i j x = eachL i j y) == decide ((x : Int) = y)) = true := by
  unfold eachE at hx hy
  unfold eachL
  by_cases h1 : okB i j x = true <;> simp [h1] at hx
  by_cases h2 : okB i j y = true <;> simp [h2] at hy
  simp only [h1, h2, if_true]
  simp only [okB, Bool.and_eq_true, decide_eq_true_eq] at h1 h2
  have := digZ_inj h1.2 h2.2
  rw [beq_iff_eq, decide_eq_decide, this]
  omega
end
end Go.Proofs.Ytheopadakjojkaa
