/- The walk of the document's words. -/
import Derived.Test.YtimlbebockfioaaDoorChartS
import Derived.Test.YtimlbebockfioaaDoorOwnSet
namespace Go.Proofs.YtimlbebockfioaaDoor
open Go.RowKit

theorem info_string : ElemInfo Tryd.prog 9 1 16 := elemInfo (z := .string ByteArray.empty) (by kernel_rfl) rfl
theorem wordsL_len : ∀ (l : List UInt8), (wordsL l).length ≤ l.length + 1
  | [] => Nat.le_refl _
  | c :: r => by
    have := wordsL_len r
    unfold wordsL
    split
    · simp only [List.length_cons]; omega
    · split
      · simp
      · rename_i h t he
        rw [he] at this
        simp only [List.length_cons] at this ⊢
        omega
theorem joinW_len : ∀ (ws : List (List UInt8)) a, a ∈ ws → a.length ≤ (joinW ws).length
  | [], a, h => by cases h
  | [b], a, h => by rw [List.mem_singleton.1 h]; exact Nat.le_refl _
  | b :: c :: r, a, h => by
    rw [joinW, List.length_append, List.length_cons]
    rcases List.mem_cons.1 h with rfl | h
    · omega
    · have := joinW_len (c :: r) a h
      omega
theorem wordsL_mem {l a : List UInt8} (h : a ∈ wordsL l) : a.length ≤ l.length := by
  have := joinW_len _ a h
  rwa [joinW_words] at this
theorem run_one (l : List UInt8) {k : Nat} {c : UInt8} (h : l[k]? = some c) (i j : Int) (hi : i = k) (hj : j = k + 1) (W : World) :
    (Instr.slice 9 (.string (bstr l)) (some (.int .i64 i)) (some (.int .i64 j)) none).run Tryd.prog W = .ok (.string (bstr [c])) W := by
  subst hi
  subst hj
  have hl := lt_of_get h
  have hs := bstr_size l
  refine (run_slice_string (P := Tryd.prog) W 9 _ .i64 .i64 (k : Int) ((k : Int) + 1) Tryd.underlying9 (by omega) (by omega) (by omega)).trans ?_
  rw [show ((k : Int) + 1).toNat = k + 1 from by omega, show ((k : Int)).toNat = k from by omega]
  congr 2
  have h2 := (List.getElem?_eq_some_iff.1 h).2
  refine ByteArray.ext ?_
  rw [ByteArray.data_extract]
  show l.toArray.extract k (k + 1) = [c].toArray
  rw [List.extract_toArray]
  congr 1
  show (l.drop k).take (k + 1 - k) = [c]
  rw [show k + 1 - k = 1 from by omega, List.drop_eq_getElem_cons hl, h2]
  rfl
set_option maxRecDepth 100000
section
set_option maxHeartbeats 2000000 in
theorem wordsR_any (l : List UInt8) (w : World) (hl : l.length ≤ 1000) : Calls Tryd.prog 28 #[.string (bstr l)] w fun e w' => ∃ u, e = .returned u ∧ IsSlice repString w' (fresh w w') u ((wordsL l).map bstr) ∧ Ext w w' := by
  obtain ⟨S, hS⟩ : ∃ S, S = bstr l := ⟨_, rfl⟩
  have hsz : S.size = l.length := by rw [hS, bstr_size]
  have RA := hid fun (k : Nat) (c : UInt8) (h : l[k]? = some c) (i : Int) (hi : i = k) (kd : IntKind) (W : World) => run_at l h i hi kd W
  have RO := hid fun (k : Nat) (c : UInt8) (h : l[k]? = some c) (i j : Int) (hi : i = k) (hj : j = k + 1) (W : World) => run_one l h i j hi hj W
  rw [← hS] at RA RO ⊢
  obtain ⟨n, hn⟩ : ∃ n, n = l.length := ⟨_, rfl⟩
  rw [← hn] at hsz hl
  have HN := hid hn
  clear hS hn
  have hown0 : Own repString 9 w.heap.size (w.alloc (.cells #[.string ⟨#[]⟩] 9)) (.slice (some ⟨w.heap.size, 0, none⟩) 1 1) [bstr []] := own_lit1 (r := repString) (Nat.le_refl _) rfl
  have hext0 := ext_alloc w (.cells #[.string ⟨#[]⟩] 9)
  go_enter Tryd.func28, Tryd.ntmps28
  go_wp2
  go_loopw [3, 4] (fun u i wr => ∃ (k : Nat) (ws : List (List UInt8)) (z : List UInt8), k ≤ n ∧ i = .int .i64 (k : Int) ∧ Wall (wordsL (l.take k) = ws ++ [z] ∧ Own repString 9 w.heap.size wr u ((ws ++ [z]).map bstr) ∧ Ext w wr)) (fun _ i _ => n - (intOf i).toNat)
  case atStart => exact ⟨0, [], [], Nat.zero_le _, rfl, hid ⟨rfl, hown0, hext0⟩⟩
  case round =>
    clear hown0 hext0
    obtain ⟨k, ws, z, hk, rfl, HP⟩ := hrel
    by_cases hlt : k < n
    · obtain ⟨c, hc⟩ : ∃ c, l[k]? = some c := ⟨_, List.getElem?_eq_getElem (by have := HN.out; omega)⟩
      have i1 := RA.out _ _ hc (k : Int) rfl .i64
      have hc256 := c.toNat_lt
      have HTK := hid (take_succ_of hc)
      have hwl : ws.length + 1 ≤ 1001 := by
        have h1 := wordsL_len (l.take k)
        rw [HP.out.1, List.length_append, List.length_take] at h1
        have := HN.out
        simp only [List.length_cons, List.length_nil] at h1
        omega
      by_cases h32 : c = 32
      · have HW : Wall (wordsL (l.take (k + 1)) = (ws ++ [z]) ++ [[]]) := hid (by rw [HTK.out, h32, wordsL_blank, HP.out.1])
        have e1 : ((c.toNat : Int) == 32) = true := by rw [h32]; rfl
        have e2 : (c.toNat == 32) = true := by rw [h32]; rfl
        clear hc h32
        go_wp2_with (at_builtin; refine wpl_app1 (r := repString) (base := w.heap.size) (x := bstr []) _ _ rfl rfl Tryd.underlying36 info_string (by decide) HP.out.2.1 rfl rfl rfl rfl (by simp; omega) (by simp [maxLen]; omega) HP.out.2.2.size ?_; intro v' w1 hown1 hg1)
        go_roundw
        case rel => exact ⟨k + 1, ws ++ [z], [], by omega, by go_num, hid ⟨HW.out, by simpa using hown1, Below.grown HP.out.2.2 hg1 HP.out.2.2.size (fun k hk => (HP.out.2.1.lt k hk).1)⟩⟩
        case measure => simp [intOf]; omega
      · have HW : Wall (wordsL (l.take (k + 1)) = ws ++ [z ++ [c]]) := hid (by rw [HTK.out]; exact wordsL_snoc _ _ h32 _ _ HP.out.1)
        have i2 := RO.out _ _ hc (k : Int) ((k : Int) + 1) rfl rfl
        have hne : c.toNat ≠ 32 := fun e => h32 (UInt8.toNat_inj.1 e)
        have e1 : ((c.toNat : Int) == 32) = false := by rw [beq_eq_false_iff_ne]; omega
        have e2 : (c.toNat == 32) = false := by rw [beq_eq_false_iff_ne]; exact hne
        have hzl : z.length ≤ 1000 := by
          have h1 := wordsL_mem (l := l.take k) (a := z) (by rw [HP.out.1]; simp)
          rw [List.length_take] at h1
          omega
        have HZC := hid (bstr_app z [c])
        have b1 : (bstr z).size ≤ 1000 := by rw [bstr_size]; exact hzl
        have b2 : (bstr [c]).size ≤ 1 := by rw [bstr_size]; simp
        have w1 := IntWalk.i64_in ((k : Int) + 1) (by omega)
        have hown := HP.out.2.1
        obtain ⟨gb, cb, rfl, hgb1, hgb2, hcb1, hcb2, cur, hblk, _⟩ := hown.blockOf (by simp)
        have hln : ((ws ++ [z]).map bstr).length = ws.length + 1 := by simp
        have hget : ((ws ++ [z]).map bstr)[ws.length]? = some (bstr z) := by simp
        obtain ⟨ds, hds, hcells⟩ := hown.cells hget
        have hds' : ds = [.string (bstr z)] := hds
        subst hds'
        have hcell : wr.cell? ⟨gb, ws.length, none⟩ = some (.string (bstr z)) := by
          have := hcells 0 (by simp)
          rwa [show repString.size = 1 from rfl, Nat.mul_one, Nat.add_zero] at this
        have hfz := hblk.frozen ws.length
        have hset : Own repString 9 w.heap.size (wr.setCell ⟨gb, ws.length, none⟩ (.string (bstr (z ++ [c])))) (.slice (some ⟨gb, 0, none⟩) ((ws ++ [z]).map bstr).length cb) (((ws ++ [z]).map bstr).set ws.length (bstr (z ++ [c]))) :=
          hown.setAt flat_string hget (q := 0) (by decide) (.string (bstr (z ++ [c]))) (by simp [repString]) (fun cs hcs => by
            have hcs' : cs = [.string (bstr z)] := hcs
            subst hcs'
            rfl)
        rw [hln] at hset ⊢
        have HEX := hid HP.out.2.2
        clear hln hget hcells hown hblk hc h32 hne hzl HP HTK RA RO
        obtain ⟨q, hq⟩ : ∃ q, q = ws.length := ⟨_, rfl⟩
        rw [← hq] at hcell hfz hset hwl ⊢
        have HQ := hid hq
        clear hq
        obtain ⟨Z, hZ⟩ : ∃ Z, Z = bstr z := ⟨_, rfl⟩
        rw [← hZ] at hcell HZC b1
        have hset2 := hset
        rw [← HZC.out] at hset2
        have HSET := hid (⟨hset2, Below.setCell HEX.out hgb1 (.string (Z ++ bstr [c]))⟩ : _ ∧ Ext w (wr.setCell ⟨gb, q, none⟩ (.string (Z ++ bstr [c]))))
        clear hset hset2 hZ
        have hz9 : ¬ (9223372036854775807 < Z.size + (bstr [c]).size) := by omega
        have w2 := IntWalk.i64_in (q : Int) (by omega)
        have hq1 : (q : Int) < (q : Int) + 1 := by omega
        have hq2 : q < q + 1 := by omega
        go_upto_region 7 with (fail)
        go_region_law (fail)
        all_goals
          go_wp2
          go_roundw
          case rel =>
            refine ⟨k + 1, ws, z ++ [c], by omega, by go_num, hid ⟨HW.out, ?_, Ext.trans HSET.out.2 (ext_drewN _ 1)⟩⟩
            have h9 := HSET.out.1.ext (ext_drewN _ 1)
            have e : ((ws ++ [z]).map bstr).set q (Z ++ bstr [c]) = (ws ++ [z ++ [c]]).map bstr := by rw [HQ.out, HZC.out]; simp
            rw [e, HZC.out] at h9
            rw [HZC.out]
            exact h9
          case measure => simp [intOf]; omega
    · obtain rfl : k = n := by omega
      have hfin := HP.out.1
      rw [List.take_of_length_le (by rw [HN.out]; exact Nat.le_refl _)] at hfin
      have HF := hid hfin
      clear hfin
      go_wp2
      go_ret
      exact ⟨_, rfl, by rw [HF.out]; exact HP.out.2.1.fresh, HP.out.2.2⟩
end
end Go.Proofs.YtimlbebockfioaaDoor
