/- The walks of the digits' bytes: Unhex on both sides. -/
import Derived.Test.YtimlbebockfioaaDoorChartH
namespace Go.Proofs.YtimlbebockfioaaDoor
open Go.RowKit

theorem unhexL_pre : ∀ (p : List UInt8) (bs : List UInt8) (a b : UInt8) (r : List UInt8), unhexL p = some bs → unhexL (p ++ a :: b :: r) = match halfD a, halfD b with
    | some x, some y => (unhexL r).map (bs ++ UInt8.ofNat (16 * x + y) :: ·)
    | _, _ => none
  | [], bs, a, b, r, h => by
    rw [unhexL] at h
    injection h with h
    subst h
    rfl
  | [_], bs, a, b, r, h => by rw [unhexL] at h; cases h
  | c :: d :: p, bs, a, b, r, h => by
    rw [unhexL] at h
    rw [List.cons_append, List.cons_append, unhexL]
    split at h
    · rename_i x y hx hy
      cases hp : unhexL p with
      | none => rw [hp] at h; cases h
      | some bs' =>
        rw [hp] at h
        injection h with h
        subst h
        rw [unhexL_pre p bs' a b r hp]
        simp only
        split
        · cases unhexL r <;> rfl
        · rfl
    · cases h
theorem unhexL_odd : ∀ (l : List UInt8), l.length % 2 = 1 → unhexL l = none
  | [], h => by simp at h
  | [_], _ => rfl
  | c :: d :: p, h => by
    rw [unhexL, unhexL_odd p (by simp only [List.length_cons] at h; omega)]
    split <;> rfl
theorem split_two {l : List UInt8} {k : Nat} {a b : UInt8} (ha : l[k]? = some a) (hb : l[k + 1]? = some b) : l = l.take k ++ a :: b :: l.drop (k + 2) := by
  have h1 := (List.getElem?_eq_some_iff.1 ha)
  have h2 := (List.getElem?_eq_some_iff.1 hb)
  have e1 : l.drop k = a :: l.drop (k + 1) := by rw [List.drop_eq_getElem_cons h1.1, h1.2]
  have e2 : l.drop (k + 1) = b :: l.drop (k + 2) := by rw [List.drop_eq_getElem_cons h2.1, h2.2]
  rw [← e2, ← e1, List.take_append_drop]
theorem unhex_step {l bs : List UInt8} {k : Nat} {a b : UInt8} {x y : Nat} (ha : l[k]? = some a) (hb : l[k + 1]? = some b) (h : unhexL (l.take k) = some bs) (hx : halfD a = some x) (hy : halfD b = some y) :
    unhexL (l.take (k + 2)) = some (bs ++ [UInt8.ofNat (16 * x + y)]) := by
  have e : l.take (k + 2) = l.take k ++ a :: b :: [] := by
    rw [show k + 2 = (k + 1) + 1 from rfl, take_succ_of hb, take_succ_of ha]
    simp
  rw [e, unhexL_pre _ _ _ _ _ h, hx, hy]
  rfl
theorem unhex_fail {l bs : List UInt8} {k : Nat} {a b : UInt8} (ha : l[k]? = some a) (hb : l[k + 1]? = some b) (h : unhexL (l.take k) = some bs) (hn : halfD a = none ∨ halfD b = none) : unhexL l = none := by
  rw [split_two ha hb, unhexL_pre _ _ _ _ _ h]
  rcases hn with hn | hn
  · rw [hn]
  · rw [hn]
    cases halfD a <;> rfl
/-- How a reading of digits ends. -/
def UnOut (l : List UInt8) (ok : Bool) (bs : List UInt8) : Prop := (ok = true ∧ unhexL l = some bs) ∨ (ok = false ∧ unhexL l = none ∧ bs = [])
theorem run_at (l : List UInt8) {k : Nat} {c : UInt8} (h : l[k]? = some c) (i : Int) (hi : i = k) (kd : IntKind) (W : World) : (Instr.index 9 (.string (bstr l)) (.int kd i)).run Tryd.prog W = .ok (.int .u8 (c.toNat : Int)) W := by
  subst hi
  have hl := lt_of_get h
  have hs : (bstr l).size = l.length := bstr_size l
  refine (run_index_string (P := Tryd.prog) (w := W) 9 _ kd (k : Int) Tryd.underlying9).trans ?_
  rw [dif_pos ⟨by omega, by omega⟩]
  congr 3
  have h2 := (List.getElem?_eq_some_iff.1 h).2
  rw [← h2]
  rfl
theorem pack_byte (x y : Nat) (hx : x < 16) (hy : y < 16) : bits BinOp.or IntKind.u8 ((x : Int) * 16) (y : Int) = ((UInt8.ofNat (16 * x + y)).toNat : Int) := by
  have h2 : ∀ x y : Fin 16, bits BinOp.or IntKind.u8 ((x.val : Int) * 16) (y.val : Int) = ((UInt8.ofNat (16 * x.val + y.val)).toNat : Int) := by decide +kernel
  exact h2 ⟨x, hx⟩ ⟨y, hy⟩
set_option maxRecDepth 100000
section
set_option maxHeartbeats 1000000 in
theorem unhex_any (l : List UInt8) (w : World) (hl : l.length ≤ 1000) :
    Calls Tryd.prog 44 #[.string (bstr l)] w fun e w' => ∃ u ok bs, e = .returned (.tuple #[u, .bool ok]) ∧ UnOut l ok bs ∧ IsSlice repByte w' (fresh w w') u bs ∧ Ext w w' := by
  obtain ⟨S, hS⟩ : ∃ S, S = bstr l := ⟨_, rfl⟩
  have hsz : S.size = l.length := by rw [hS, bstr_size]
  have RA := hid fun (k : Nat) (c : UInt8) (h : l[k]? = some c) (i : Int) (hi : i = k) (kd : IntKind) (W : World) => run_at l h i hi kd W
  rw [← hS] at RA ⊢
  obtain ⟨n, hn⟩ : ∃ n, n = l.length := ⟨_, rfl⟩
  rw [← hn] at hsz hl
  have HN := hid hn
  clear hS hn
  by_cases hod : n % 2 = 0
  · obtain ⟨m, rfl⟩ : ∃ m, n = 2 * m := ⟨n / 2, by omega⟩
    have t1 : (((2 * m : Nat) : Int).tmod 2 != 0) = false := by
      simp
    have t2 : (((2 * m : Nat) : Int) % 2 != 0) = false := by
      simp
    clear hod
    go_enter Tryd.func44, Tryd.ntmps44
    go_wp2_with (at_make; refine wpl_make0 (r := repByte) (base := w.heap.size) (z := .int .u8 0) (bytes := 1) _ _ m rfl rfl Tryd.underlying22 (by kernel_rfl) rfl rfl rfl (by omega) (by simp only [maxLen]; omega) (Nat.le_refl _) ?_; intro v1 w1 hown1 hext1)
    go_loopw [4, 5] (fun u i wr => ∃ j bs, j ≤ m ∧ i = .int .i64 (2 * (j : Int)) ∧ Wall (unhexL (l.take (2 * j)) = some bs ∧ Own repByte 5 w.heap.size wr u bs ∧ Ext w wr ∧ bs.length = j)) (fun _ i _ => 2 * m - (intOf i).toNat)
    case atStart => exact ⟨0, [], Nat.zero_le _, rfl, ⟨rfl, hown1, hext1, rfl⟩⟩
    case round =>
      obtain ⟨j, bs, hj, rfl, HP⟩ := hrel
      by_cases hlt : j < m
      · have hl1 : 2 * j + 1 < l.length := by have := HN.out; omega
        obtain ⟨a, ha⟩ : ∃ a, l[2 * j]? = some a := ⟨_, List.getElem?_eq_getElem (by omega)⟩
        obtain ⟨b, hb⟩ : ∃ b, l[2 * j + 1]? = some b := ⟨_, List.getElem?_eq_getElem hl1⟩
        have i1 := RA.out _ _ ha (2 * (j : Int)) (by omega) .i64
        have i2 := RA.out _ _ hb (2 * (j : Int) + 1) (by omega) .i64
        have HAB := hid (⟨ha, hb⟩ : l[2 * j]? = some a ∧ l[2 * j + 1]? = some b)
        clear ha hb hl1
        obtain ⟨xa, hxa⟩ : ∃ xa, xa = halfB a := ⟨_, rfl⟩
        obtain ⟨xb, hxb⟩ : ∃ xb, xb = halfB b := ⟨_, rfl⟩
        have HA := hid (fun W => hxa ▸ half_any a W)
        have HB := hid (fun W => hxb ▸ half_any b W)
        have sa := halfB_spec a
        have sb := halfB_spec b
        rw [← hxa] at sa
        rw [← hxb] at sb
        clear hxa hxb
        obtain ⟨ya, oa⟩ := xa
        obtain ⟨yb, ob⟩ := xb
        rcases sa with ⟨sa1, sa2, sa3, sa4⟩ | ⟨sa1, sa2⟩
        · rcases sb with ⟨sb1, sb2, sb3, sb4⟩ | ⟨sb1, sb2⟩
          · simp only at sa1 sa2 sa3 sa4 sb1 sb2 sb3 sb4
            subst sa2 sb2
            obtain ⟨x, rfl⟩ : ∃ x : Nat, ya = x := ⟨ya.toNat, by omega⟩
            obtain ⟨y, rfl⟩ : ∃ y : Nat, yb = y := ⟨yb.toNat, by omega⟩
            rw [show ((x : Int)).toNat = x from by omega] at sa1
            rw [show ((y : Int)).toNat = y from by omega] at sb1
            have HU := hid (unhex_step HAB.out.1 HAB.out.2 HP.out.1 sa1 sb1)
            have HPK := hid (pack_byte x y (by omega) (by omega))
            clear sa1 sb1
            simp only at HA HB
            have hq := HP.out.2.2.2
            go_upto_region 11 with (first
              | (go_at_call 59; refine (HA.out _).mono ?_; rintro e w2 ⟨rfl, rfl⟩; clear HA)
              | (go_at_call 59; refine (HB.out _).mono ?_; rintro e w2 ⟨rfl, rfl⟩))
            go_wp2_with (at_builtin; refine wpl_app1 (r := repByte) (base := w.heap.size) (x := UInt8.ofNat (16 * x + y)) _ _ rfl rfl Tryd.underlying22 info_byte (by decide) HP.out.2.1 rfl rfl rfl (by show [Value.int .u8 (bits BinOp.or IntKind.u8 ((x : Int) * 16) (y : Int))] = [Value.int .u8 ((UInt8.ofNat (16 * x + y)).toNat : Int)]; rw [HPK.out]) (by omega) (by simp only [maxLen]; omega) HP.out.2.2.1.size ?_; intro v' w1 hown1 hg1)
            go_roundw
            case rel => exact ⟨j + 1, bs ++ [UInt8.ofNat (16 * x + y)], by omega, by go_num, hid ⟨HU.out, hown1, Below.grown HP.out.2.2.1 hg1 HP.out.2.2.1.size (fun k hk => (HP.out.2.1.lt k hk).1), by rw [List.length_append, hq]; rfl⟩⟩
            case measure => simp [intOf]; omega
          · simp only at sa2
            injection sb2 with sb2 sb3
            subst sa2 sb2 sb3
            have HF := hid (unhex_fail HAB.out.1 HAB.out.2 HP.out.1 (.inr sb1))
            simp only at HA HB
            clear sa1 sb1
            go_wp2_with (first
              | (go_at_call 59; refine (HA.out _).mono ?_; rintro e w2 ⟨rfl, rfl⟩; clear HA)
              | (go_at_call 59; refine (HB.out _).mono ?_; rintro e w2 ⟨rfl, rfl⟩))
            go_ret2
            exact ⟨_, _, [], rfl, .inr ⟨rfl, HF.out, rfl⟩, isSlice_nil _ _ _, HP.out.2.2.1⟩
        · injection sa2 with sa2 sa3
          subst sa2 sa3
          have HF := hid (unhex_fail HAB.out.1 HAB.out.2 HP.out.1 (.inl sa1))
          simp only at HA HB
          clear sa1 sb
          go_wp2_with (first
            | (go_at_call 59; refine (HA.out _).mono ?_; rintro e w2 ⟨rfl, rfl⟩; clear HA)
            | (go_at_call 59; refine (HB.out _).mono ?_; rintro e w2 ⟨rfl, rfl⟩))
          go_ret2
          exact ⟨_, _, [], rfl, .inr ⟨rfl, HF.out, rfl⟩, isSlice_nil _ _ _, HP.out.2.2.1⟩
      · obtain rfl : j = m := by omega
        have hfin := HP.out.1
        rw [List.take_of_length_le (by rw [← HN.out]; exact Nat.le_refl _)] at hfin
        have HFIN := hid hfin
        clear hfin
        go_wp2
        go_ret2
        exact ⟨_, _, bs, rfl, .inl ⟨rfl, HFIN.out⟩, HP.out.2.1.fresh, HP.out.2.2.1⟩
  · have t1 : ((n : Int).tmod 2 != 0) = true := by
      rw [Int.tmod_eq_emod_of_nonneg (by omega), bne_iff_ne]
      omega
    have t2 : ((n : Int) % 2 != 0) = true := by
      rw [bne_iff_ne]
      omega
    have HF := hid (unhexL_odd l (by have := HN.out; omega))
    clear hod
    go_enter Tryd.func44, Tryd.ntmps44
    go_wp2
    go_ret2
    exact ⟨_, _, [], rfl, .inr ⟨rfl, HF.out, rfl⟩, isSlice_nil _ _ _, Below.refl _ _⟩
/-! The document's. -/
def digI (c : UInt8) : Int := match halfD c with | some n => (n : Int) | none => -1
theorem digI_hit {c : UInt8} {k : Nat} (hk : k < 16) (h : hexD k = c) : digI c = k := by
  unfold digI
  rw [← h, half_hex k hk]
theorem digI_miss {c : UInt8} (h : ∀ k, k < 16 → hexD k ≠ c) : digI c = -1 := by
  unfold digI
  cases hh : halfD c with
  | none => rfl
  | some n => exact absurd (hex_half hh).2 (h n (hex_half hh).1)
set_option maxHeartbeats 1000000 in
theorem digit_any (c : UInt8) (w : World) : Calls Tryd.prog 45 #[.int .u8 (c.toNat : Int)] w fun e w' => e = .returned (.int .i64 (digI c)) ∧ w = w' := by
  have hlt := c.toNat_lt
  have HIT := hid fun k hk h => digI_hit (c := c) (k := k) hk h
  have MISS := hid fun h => digI_miss (c := c) h
  obtain ⟨R, hR⟩ : ∃ R, R = digI c := ⟨_, rfl⟩
  rw [← hR] at HIT MISS ⊢
  clear hR
  go_enter Tryd.func45, Tryd.ntmps45
  go_wp2
  go_loop [3] (fun i => ∃ j : Nat, j ≤ 16 ∧ i = .int .i64 j ∧ Wall (∀ k, k < j → hexD k ≠ c)) (fun i => 16 - (intOf i).toNat)
  case atStart => exact ⟨0, by omega, rfl, hid fun k h => absurd h (Nat.not_lt_zero _)⟩
  case round =>
    obtain ⟨j, hj, rfl, HP⟩ := hrel
    by_cases hjl : j < 16
    · have i1 := run_digit .i64 (j : Int) j rfl hjl
      by_cases he : hexD j = c
      · have e1 : (((hexD j).toNat : Int) == (c.toNat : Int)) = true := by rw [he]; simp
        have e2 : ((hexD j).toNat == c.toNat) = true := by rw [he]; simp
        have HR := hid (HIT.out j hjl he)
        clear he
        go_wp2
        go_ret
        exact ⟨ret_int HR.out.symm, rfl⟩
      · have hne : (hexD j).toNat ≠ c.toNat := fun e => he (UInt8.toNat_inj.1 e)
        have e1 : (((hexD j).toNat : Int) == (c.toNat : Int)) = false := by rw [beq_eq_false_iff_ne]; omega
        have e2 : ((hexD j).toNat == c.toNat) = false := by rw [beq_eq_false_iff_ne]; exact hne
        have HN : Wall (∀ k, k < j + 1 → hexD k ≠ c) := hid fun k hk => by
          by_cases hkj : k = j
          · subst hkj; exact he
          · exact HP.out k (by omega)
        clear he hne
        go_wp2
        go_round
        case rel => exact ⟨j + 1, by omega, by go_num, HN⟩
        case measure => simp [intOf]; omega
    · obtain rfl : j = 16 := by omega
      have HR := hid (MISS.out HP.out)
      go_wp2
      go_ret
      exact ⟨ret_int HR.out.symm, rfl⟩
theorem digI_cases (c : UInt8) : (∃ x : Nat, halfD c = some x ∧ x < 16 ∧ digI c = (x : Int)) ∨ (halfD c = none ∧ digI c = -1) := by
  unfold digI
  cases hh : halfD c with
  | none => exact .inr ⟨rfl, rfl⟩
  | some x => exact .inl ⟨x, rfl, (hex_half hh).1, rfl⟩
theorem pack_byte2 (x y : Nat) (hx : x < 16) (hy : y < 16) : 16 * (x : Int) + (y : Int) = ((UInt8.ofNat (16 * x + y)).toNat : Int) := by
  rw [UInt8.toNat_ofNat']
  omega
set_option maxHeartbeats 2000000 in
theorem unhexR_any (l : List UInt8) (w : World) (hl : l.length ≤ 1000) :
    Calls Tryd.prog 30 #[.string (bstr l)] w fun e w' => ∃ u ok bs, e = .returned (.tuple #[u, .bool ok]) ∧ UnOut l ok bs ∧ IsSlice repByte w' (fresh w w') u bs ∧ Ext w w' := by
  obtain ⟨S, hS⟩ : ∃ S, S = bstr l := ⟨_, rfl⟩
  have hsz : S.size = l.length := by rw [hS, bstr_size]
  have RA := hid fun (k : Nat) (c : UInt8) (h : l[k]? = some c) (i : Int) (hi : i = k) (kd : IntKind) (W : World) => run_at l h i hi kd W
  rw [← hS] at RA ⊢
  obtain ⟨n, hn⟩ : ∃ n, n = l.length := ⟨_, rfl⟩
  rw [← hn] at hsz hl
  have HN := hid hn
  clear hS hn
  by_cases hod : n % 2 = 0
  · obtain ⟨m, rfl⟩ : ∃ m, n = 2 * m := ⟨n / 2, by omega⟩
    have t1 : (((2 * m : Nat) : Int).tmod 2 != 0) = false := by
      simp
    have t2 : (((2 * m : Nat) : Int) % 2 != 0) = false := by
      simp
    clear hod
    go_enter Tryd.func30, Tryd.ntmps30
    go_wp2
    go_loopw [4, 5] (fun u i wr => ∃ j bs, j ≤ m ∧ i = .int .i64 (2 * (j : Int)) ∧ Wall (unhexL (l.take (2 * j)) = some bs ∧ Own repByte 5 w.heap.size wr u bs ∧ Ext w wr ∧ bs.length = j)) (fun _ i _ => 2 * m - (intOf i).toNat)
    case atStart => exact ⟨0, [], Nat.zero_le _, rfl, ⟨rfl, own_nil _ _ _ _, Below.refl _ _, rfl⟩⟩
    case round =>
      obtain ⟨j, bs, hj, rfl, HP⟩ := hrel
      by_cases hlt : j < m
      · have hl1 : 2 * j + 1 < l.length := by have := HN.out; omega
        obtain ⟨a, ha⟩ : ∃ a, l[2 * j]? = some a := ⟨_, List.getElem?_eq_getElem (by omega)⟩
        obtain ⟨b, hb⟩ : ∃ b, l[2 * j + 1]? = some b := ⟨_, List.getElem?_eq_getElem hl1⟩
        have i1 := RA.out _ _ ha (2 * (j : Int)) (by omega) .i64
        have i2 := RA.out _ _ hb (2 * (j : Int) + 1) (by omega) .i64
        have w1 := IntWalk.i64_in (2 * (j : Int) + 1) (by omega)
        have HAB := hid (⟨ha, hb⟩ : l[2 * j]? = some a ∧ l[2 * j + 1]? = some b)
        clear ha hb hl1
        rcases digI_cases a with ⟨x, sa1, sa2, sa3⟩ | ⟨sa1, sa3⟩
        · rcases digI_cases b with ⟨y, sb1, sb2, sb3⟩ | ⟨sb1, sb3⟩
          · have HU := hid (unhex_step HAB.out.1 HAB.out.2 HP.out.1 sa1 sb1)
            have HPK := hid (pack_byte2 x y (by omega) (by omega))
            have HXY := hid (⟨sa3, sb3⟩ : digI a = x ∧ digI b = y)
            have hq := HP.out.2.2.2
            have a0 : 0 ≤ digI a := by omega
            have a1 : digI a < 16 := by omega
            have b0 : 0 ≤ digI b := by omega
            have b1 : digI b < 16 := by omega
            clear sa1 sb1 sa2 sa3 sb2 sb3
            go_upto_region 7 with (fail)
            go_quiet ((go_at_call 45; first | exact q_same (digit_any _ _) | exact q_same2 (digit_any _ _)))
            have hown2 := (HP.out.2.1).ext (ext_drewN wr nq)
            have hext2 := Ext.trans HP.out.2.2.1 (ext_drewN wr nq)
            have HOE := hid (⟨hown2, hext2⟩ : Own repByte 5 w.heap.size (wr.drewN nq) u4 bs ∧ Ext w (wr.drewN nq))
            clear hown2 hext2
            generalize wr.drewN nq = w2 at *
            go_wp2_with (at_builtin; refine wpl_app1 (r := repByte) (base := w.heap.size) (x := UInt8.ofNat (16 * x + y)) _ _ rfl rfl Tryd.underlying22 info_byte (by decide) HOE.out.1 rfl rfl rfl (by show [Value.int .u8 (16 * digI a + digI b)] = [Value.int .u8 ((UInt8.ofNat (16 * x + y)).toNat : Int)]; rw [HXY.out.1, HXY.out.2, HPK.out]) (by omega) (by simp only [maxLen]; omega) HOE.out.2.size ?_; intro v' w1 hown1 hg1)
            go_roundw
            case rel => exact ⟨j + 1, bs ++ [UInt8.ofNat (16 * x + y)], by omega, by go_num, hid ⟨HU.out, hown1, Below.grown HOE.out.2 hg1 HOE.out.2.size (fun k hk => (HOE.out.1.lt k hk).1), by rw [List.length_append, hq]; rfl⟩⟩
            case measure => simp [intOf]; omega
          · have HF := hid (unhex_fail HAB.out.1 HAB.out.2 HP.out.1 (.inr sb1))
            have a0 : 0 ≤ digI a := by omega
            have b0 : digI b < 0 := by omega
            clear sa1 sb1 sa2 sa3 sb3
            go_upto_region 7 with (fail)
            go_quiet ((go_at_call 45; first | exact q_same (digit_any _ _) | exact q_same2 (digit_any _ _)))
            go_wp2
            go_ret2
            exact ⟨_, _, [], rfl, .inr ⟨rfl, HF.out, rfl⟩, isSlice_nil _ _ _, Ext.trans HP.out.2.2.1 (ext_drewN _ _)⟩
        · have HF := hid (unhex_fail HAB.out.1 HAB.out.2 HP.out.1 (.inl sa1))
          have b0 : digI a < 0 := by omega
          clear sa1 sa3
          go_upto_region 7 with (fail)
          go_quiet ((go_at_call 45; first | exact q_same (digit_any _ _) | exact q_same2 (digit_any _ _)))
          go_wp2
          go_ret2
          exact ⟨_, _, [], rfl, .inr ⟨rfl, HF.out, rfl⟩, isSlice_nil _ _ _, Ext.trans HP.out.2.2.1 (ext_drewN _ _)⟩
      · obtain rfl : j = m := by omega
        have hfin := HP.out.1
        rw [List.take_of_length_le (by rw [← HN.out]; exact Nat.le_refl _)] at hfin
        have HFIN := hid hfin
        clear hfin
        go_wp2
        go_ret2
        exact ⟨_, _, bs, rfl, .inl ⟨rfl, HFIN.out⟩, HP.out.2.1.fresh, HP.out.2.2.1⟩
  · have t1 : ((n : Int).tmod 2 != 0) = true := by
      rw [Int.tmod_eq_emod_of_nonneg (by omega), bne_iff_ne]
      omega
    have t2 : ((n : Int) % 2 != 0) = true := by
      rw [bne_iff_ne]
      omega
    have HF := hid (unhexL_odd l (by have := HN.out; omega))
    clear hod
    go_enter Tryd.func30, Tryd.ntmps30
    go_wp2
    go_ret2
    exact ⟨_, _, [], rfl, .inr ⟨rfl, HF.out, rfl⟩, isSlice_nil _ _ _, Below.refl _ _⟩
end
end Go.Proofs.YtimlbebockfioaaDoor
