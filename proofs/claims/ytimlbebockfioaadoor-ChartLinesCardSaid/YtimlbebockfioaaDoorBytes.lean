/- Bytes: are two the same, a copy, all parts one behind the other. The walks of octet's and its reference's functions. -/
import Derived.Test.YtimlbebockfioaaDoorRows
import Derived.Test.YtimlbebockfioaaDoorApi
namespace Go.Proofs.YtimlbebockfioaaDoor
open Go.RowKit

def bstr (l : List UInt8) : ByteArray := ⟨l.toArray⟩
theorem bstr_list (a : List UInt8) : (bstr a).toList = a := by rw [ByteArray.toList_eq]; rfl
theorem bstr_eq (a b : List UInt8) : ((bstr a).toList == (bstr b).toList) = decide (a = b) := by
  rw [bstr_list, bstr_list, Bool.eq_iff_iff, beq_iff_eq, decide_eq_true_iff]
theorem bstr_nums (l : List UInt8) : strOfNums (l.map fun b => (b.toNat : Int)) = bstr l := by
  unfold strOfNums bstr
  congr 2
  rw [List.map_map]
  conv => rhs; rw [← List.map_id l]
  apply List.map_congr_left
  intro b _
  simp

/-- 'string(b)'. -/
theorem run_str {P : Program} {w : World} {S : Nat → Prop} {v : Value} {xs : List UInt8} (src e dst : TypeId) (hs : P.underlying src = some (.slice e)) (he : P.underlying e = some (.int .u8)) (hd : P.underlying dst = some .string)
    (h : IsSlice repByte w S v xs) : (convert src dst v).run P w = .ok (.string (bstr xs)) w := by
  obtain ⟨A, n, c, rfl, hnc, hcm, hrow⟩ := h
  rcases Nat.eq_zero_or_pos n with h0 | h0
  · subst h0
    have hx : xs = [] := List.eq_nil_of_length_eq_zero hrow.1
    subst hx
    rw [run_convert_bytes_string w src dst e _ 0 c hs he hd]
    rcases A with _ | ad
    · simp [Conv.bytesToString]; rfl
    · have hl : (loadCells ad 0).run P w = .ok (([] : List Int).map (Value.int .u8)).toArray w := by
        have := run_loadCells_list (P := P) w ad [] (by simp)
        simpa using this
      rw [run_bytesToString w _ 0 c [] hl]; rfl
  · obtain ⟨b, off, x, rfl, _⟩ := hrow.byte h0
    rw [← bstr_nums]
    refine run_convert_bytes_arg w src e hs he b off n c _ (by simpa using hrow.1) (fun i hi => ?_) dst hd
    obtain ⟨b', off', y, hA, _, hy, hc⟩ := hrow.byte hi
    simp only [Option.some.injEq, Addr.mk.injEq, and_true] at hA
    obtain ⟨rfl, rfl⟩ := hA
    rw [hc, List.getD_eq_getElem?_getD, List.getElem?_map, hy]
    rfl

theorem info_byte : ElemInfo Tryd.prog 5 1 1 := elemInfo (z := .int .u8 0) (by kernel_rfl) rfl
theorem info_bytes : ElemInfo Tryd.prog 22 1 24 := elemInfo (z := .slice none 0 0) (by kernel_rfl) rfl

set_option maxRecDepth 100000
section

/-- The reference's Same. -/
theorem sameB_any (v u : Value) (xs ys : List UInt8) (w : World) (h : IsSlice repByte w (all w) v xs) (h' : IsSlice repByte w (all w) u ys) :
    Calls Tryd.prog 39 #[v, u] w fun e w' => e = .returned (.bool (decide (xs = ys))) ∧ ∃ k, w' = w.drewN k := by
  obtain ⟨A, n, c, rfl, hnc, hcm, hrow⟩ := h
  obtain ⟨A', n', c', rfl, hnc', hcm', hrow'⟩ := h'
  have hn := hrow.1
  have hn' := hrow'.1
  have hmax : n ≤ 9223372036854775807 := by unfold maxLen at hcm; omega
  have hmax' : n' ≤ 9223372036854775807 := by unfold maxLen at hcm'; omega
  by_cases hne : n = n'
  · subst hne
    have HN := hid hn
    have HN' := hid hn'
    clear hn hn'
    go_enter Tryd.func39, Tryd.ntmps39
    go_wp2
    go_loopw [5] (fun i wr => ∃ j : Nat, j ≤ n ∧ i = .int .i64 j ∧ xs.take j = ys.take j ∧ ∃ k, wr = w.drewN k) (fun i _ => n - (intOf i).toNat)
    case atStart => exact ⟨0, Nat.zero_le _, rfl, by simp, 0, rfl⟩
    case round =>
      obtain ⟨j, hj, rfl, heq, nd, rfl⟩ := hrel
      have HEQ := hid heq
      clear heq
      by_cases hlt : j < n
      · obtain ⟨b, off, x, rfl, hb, hx, hcx⟩ := hrow.byte hlt
        obtain ⟨b', off', y, rfl, hb', hy, hcy⟩ := hrow'.byte hlt
        have HX := hid hx
        have HY := hid hy
        clear hx hy
        by_cases hxy : ((x.toNat : Int) != (y.toNat : Int)) = true
        · go_wp2
          go_quiet (fail)
          go_wp2
          go_ret
          refine ⟨ret_bool ?_, _, by first | exact World.drewN_drewN _ _ _ | rfl⟩
          symm
          rw [decide_eq_false_iff_not]
          intro he
          subst he
          have h1 := HX.out
          rw [HY.out] at h1
          injection h1 with h1
          simp [h1] at hxy
        · have hxy : ((x.toNat : Int) != (y.toNat : Int)) = false := by simpa using hxy
          go_wp2
          go_quiet (fail)
          go_wp2
          go_roundw
          case rel =>
            refine ⟨j + 1, by omega, by go_num, ?_, _, by first | rfl | exact World.drewN_drewN _ _ _⟩
            rw [take_succ_of HX.out, take_succ_of HY.out, HEQ.out]
            have : x.toNat = y.toNat := by have : (x.toNat : Int) = y.toNat := by simpa using hxy
                                           omega
            rw [UInt8.toNat_inj.1 this]
          case measure => simp [intOf]; omega
      · obtain rfl : j = n := by omega
        go_wp2
        go_ret
        refine ⟨ret_bool ?_, _, rfl⟩
        symm
        rw [decide_eq_true_iff]
        have := HEQ.out
        rwa [List.take_of_length_le (by rw [HN.out]; exact Nat.le_refl _), List.take_of_length_le (by rw [HN'.out]; exact Nat.le_refl _)] at this
  · have hb : ((n : Int) != (n' : Int)) = true := by rw [bne_iff_ne]; omega
    have hf : decide (xs = ys) = false := by
      rw [decide_eq_false_iff_not]
      intro he
      subst he
      omega
    clear hn hn' hrow hrow'
    go_enter Tryd.func39, Tryd.ntmps39
    go_wp2
    go_ret
    exact ⟨ret_bool hf.symm, 0, rfl⟩

/-- Both compare lists of texts. -/
theorem list_apart {α : Type} {xs ys : List α} {j : Nat} {x y : α} (hx : xs[j]? = some x) (hy : ys[j]? = some y) (h : x ≠ y) : xs ≠ ys := by
  rintro rfl
  rw [hx] at hy
  injection hy with hy
  exact h hy

end
end Go.Proofs.YtimlbebockfioaaDoor
