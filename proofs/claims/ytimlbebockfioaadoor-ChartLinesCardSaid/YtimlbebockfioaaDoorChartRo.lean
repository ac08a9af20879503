/- The walk of Rows: how often each kind is there. -/
import Derived.Test.YtimlbebockfioaaDoorChartW
import Derived.Test.YtimlbebockfioaaDoorOwnSet
namespace Go.Proofs.YtimlbebockfioaaDoor
open Go.RowKit

abbrev repRow : Rep (ByteArray × Int) := repPair repString (repInt .i64)
def cntL (k : Int) (l : List Ev) : Nat := (l.filter fun e => e.kind == k).length
def rowsL (l : List Ev) : List (ByteArray × Int) := (List.range 8).map fun (k : Nat) => (bstr (wordK (k : Int)), (cntL (k : Int) l : Int))
theorem cntL_snoc (k : Int) (l : List Ev) (e : Ev) : cntL k (l ++ [e]) = cntL k l + (if e.kind = k then 1 else 0) := by
  unfold cntL
  rw [List.filter_append, List.length_append]
  congr 1
  by_cases h : e.kind = k
  · simp [h]
  · have : (e.kind == k) = false := by simpa using h
    simp [this, h]
theorem cntL_le (k : Int) (l : List Ev) : cntL k l ≤ l.length := List.length_filter_le _ _
theorem info_row : ElemInfo Tryd.prog 46 2 24 := elemInfo (z := .agg #[.string ByteArray.empty, .int .i64 0]) (by kernel_rfl) rfl
theorem knownN' {k : Nat} (h : k < 8) : knownI (k : Int) = true := by
  unfold knownI
  rw [decide_eq_true (by omega), decide_eq_true (by omega)]
  rfl
theorem wf_small (n : Nat) (h : n ≤ 1000) : (Lit.int .i64 (n : Int)).wf = true := by
  have h2 : ∀ n : Fin 1001, (Lit.int .i64 (n.val : Int)).wf = true := by decide +kernel
  exact h2 ⟨n, by omega⟩
theorem flat_row : Flat repRow := fun _ _ _ _ _ _ h => h
set_option maxRecDepth 100000
section
set_option maxHeartbeats 2000000 in
theorem rows_any (v : Value) (l : List Ev) (w : World) (h : IsSlice repEv w (all w) v l) (hl : l.length ≤ 1000) :
    Calls Tryd.prog 17 #[v] w fun e w' => ∃ u, e = .returned u ∧ IsSlice repRow w' (fresh w w') u (rowsL l) ∧ Ext w w' := by
  obtain ⟨A, n, c, rfl, hnc, hcm, hrow⟩ := h
  have hn := hrow.1
  have HN := hid hn
  have hn1 : n ≤ 1000 := by omega
  clear hn hl
  have HR := hid fun (k : Nat) (hk : k < 8) => run_name (knownN' hk)
  have HNM := hid names_any
  obtain ⟨NA, hNA⟩ : ∃ NA, NA = namesA := ⟨_, rfl⟩
  rw [← hNA] at HNM HR
  clear hNA
  go_enter Tryd.func17, Tryd.ntmps17
  go_wp2_with (go_at_call 36; refine (HNM.out _).mono ?_; rintro e w2 ⟨rfl, hx2⟩)
  have HX2 := hid hx2
  clear hx2
  go_loopw [3, 10] (fun u i wr => ∃ k : Nat, k ≤ 8 ∧ i = .int .i64 (k : Int) ∧ Wall (Own repRow 46 w.heap.size wr u ((rowsL l).take k) ∧ Ext w wr)) (fun _ i _ => 8 - (intOf i).toNat)
  case atStart => exact ⟨0, by omega, rfl, hid ⟨own_nil _ _ _ _, HX2.out⟩⟩
  case round =>
    clear HX2
    obtain ⟨k, hk, rfl, HP⟩ := hrel
    by_cases hk8 : k < 8
    · have i1 := HR.out k hk8
      have hrk : (rowsL l)[k]? = some (bstr (wordK (k : Int)), (cntL (k : Int) l : Int)) := by
        unfold rowsL
        rw [List.getElem?_map, List.getElem?_range hk8]
        rfl
      obtain ⟨WK, hWK⟩ : ∃ WK, WK = bstr (wordK (k : Int)) := ⟨_, rfl⟩
      rw [← hWK] at i1 hrk
      have HTK := hid (take_succ_of hrk)
      clear hrk hWK
      go_upto_region 7 with (fail)
      have hxA := Ext.trans HP.out.2 (ext_alloc wr (.cells #[.string WK, .int .i64 0] 46))
      have hb6 := Blk.new wr 46 #[.string WK, .int .i64 0]
      have hownA := HP.out.1.ext (ext_alloc wr (.cells #[.string WK, .int .i64 0] 46))
      obtain ⟨g6, hg6⟩ : ∃ g6, g6 = wr.heap.size := ⟨_, rfl⟩
      have hge : w.heap.size ≤ g6 := by rw [hg6]; exact HP.out.2.size
      have hne : ∀ q, u3.ownBlock = some q → q ≠ g6 := fun q hq e => by have := (HP.out.1.lt q hq).2; omega
      rw [← hg6] at hb6 ⊢
      generalize wr.alloc (.cells #[.string WK, .int .i64 0] 46) = wA at *
      have HA := hid (⟨hxA, hb6, hownA⟩ : Ext w wA ∧ Blk wA g6 46 #[.string WK, .int .i64 0] ∧ Own repRow 46 w.heap.size wA u3 ((rowsL l).take k))
      have HNE := hid hne
      clear hxA hb6 hownA hg6 HP hne
      go_loopw [18] (fun i wx => ∃ j : Nat, j ≤ n ∧ i = .int .i64 (j : Int) ∧ Wall (Blk wx g6 46 #[.string WK, .int .i64 (cntL (k : Int) (l.take j) : Int)] ∧ Only g6 wA wx)) (fun i _ => n - (intOf i).toNat)
      case atStart => exact ⟨0, Nat.zero_le _, rfl, hid ⟨HA.out.2.1, Only.refl _ _⟩⟩
      case round =>
        obtain ⟨j, hj, rfl, HQ⟩ := hrel
        by_cases hjl : j < n
        · have hxx := HQ.out.2.ext_new HA.out.1 hge
          obtain ⟨b, off, x, A1, m1, c1, rfl, hx, hs, hm, p0, p1, p2, p3⟩ := hrow.evE hxx hjl
          have hct := cntL_snoc (k : Int) (l.take j) x
          rw [← take_succ_of hx] at hct
          have hcle := cntL_le (k : Int) (l.take j)
          rw [List.length_take] at hcle
          obtain ⟨ct, hct0⟩ : ∃ ct, ct = cntL (k : Int) (l.take j) := ⟨_, rfl⟩
          rw [← hct0] at hct HQ hcle
          have hct1 : ct ≤ 1000 := by omega
          clear hct0 hx hs hm hxx hcle
          obtain ⟨xs, xk, xp, xd⟩ := x
          simp only at p0 p1 p2 p3 hct
          have q0 := HQ.out.1.cell 0
          have q1 := HQ.out.1.cell 1
          have qf := HQ.out.1.frozen 1
          have hlt6 := HQ.out.1.lt
          by_cases hk1 : xk = (k : Int)
          · subst hk1
            rw [if_pos rfl] at hct
            have HCT := hid hct
            have hbx := (HQ.out.1.set_ 1 (.int .i64 ((ct : Int) + 1))).alloc (.cells #[.int .i64 xs, .int .i64 (k : Int), .int .i64 xp, .slice A1 m1 c1] 24)
            have hox := (HQ.out.2.set_ 1 (.int .i64 ((ct : Int) + 1))).then (ext_alloc _ (.cells #[.int .i64 xs, .int .i64 (k : Int), .int .i64 xp, .slice A1 m1 c1] 24))
            have HBO := hid (⟨hbx, hox⟩ : _ ∧ Only g6 wA _)
            clear hct hbx hox HQ
            go_wp2
            go_roundw
            case rel => exact ⟨j + 1, by omega, by go_num, hid ⟨by rw [HCT.out]; exact HBO.out.1, HBO.out.2⟩⟩
            case measure => simp [intOf]; omega
          · rw [if_neg hk1] at hct
            have HCT := hid hct
            have t1 : (xk == (k : Int)) = false := by simpa using hk1
            have hbx := HQ.out.1.alloc (.cells #[.int .i64 xs, .int .i64 xk, .int .i64 xp, .slice A1 m1 c1] 24)
            have hox := HQ.out.2.then (ext_alloc _ (.cells #[.int .i64 xs, .int .i64 xk, .int .i64 xp, .slice A1 m1 c1] 24))
            have HBO := hid (⟨hbx, hox⟩ : _ ∧ Only g6 wA _)
            clear hct hbx hox HQ hk1
            go_wp2
            go_roundw
            case rel => exact ⟨j + 1, by omega, by go_num, hid ⟨by rw [HCT.out]; exact HBO.out.1, HBO.out.2⟩⟩
            case measure => simp [intOf]; omega
        · obtain rfl : j = n := by omega
          have htl : l.take j = l := List.take_of_length_le (by rw [HN.out]; exact Nat.le_refl _)
          rw [htl] at HQ
          obtain ⟨ct, hct0⟩ : ∃ ct, ct = cntL (k : Int) l := ⟨_, rfl⟩
          have HTK2 := HTK
          rw [← hct0] at HQ HTK2
          have hctl : ct ≤ 1000 := by have := cntL_le (k : Int) l; rw [← hct0, HN.out] at this; omega
          have hwf : (Lit.int .i64 (ct : Int)).wf = true := wf_small ct hctl
          clear hct0 htl
          have q0 := HQ.out.1.cell 0
          have q1 := HQ.out.1.cell 1
          have hownB := HA.out.2.2.keepFlat' flat_row HQ.out.2 (by
            cases hq : u3.ownBlock with
            | none => exact .inl rfl
            | some q => exact .inr fun e => HNE.out q hq (by injection e))
          have hext9 := HQ.out.2.ext_new HA.out.1 hge
          go_wp2_with (at_builtin; refine wpl_app1 (r := repRow) (base := w.heap.size) (x := (WK, (ct : Int))) (cs := #[.string WK, .int .i64 (ct : Int)]) _ _ rfl rfl Tryd.underlying42 info_row (by decide) hownB rfl rfl rfl ⟨[_], [_], rfl, rfl, rfl, hwf⟩ (by simp; omega) (by simp [maxLen]; omega) hext9.size ?_; intro v' w9 hown9 hg9)
          go_roundw
          case rel => exact ⟨k + 1, by omega, by go_num, hid ⟨by rw [HTK2.out]; exact hown9, Below.grown hext9 hg9 hext9.size (fun q hq => (hownB.lt q hq).1)⟩⟩
          case measure => simp [intOf]; omega
    · obtain rfl : k = 8 := by omega
      rw [show (rowsL l).take 8 = rowsL l from List.take_of_length_le (by unfold rowsL; simp)] at HP
      go_wp2
      go_ret
      exact ⟨_, rfl, HP.out.1.fresh, HP.out.2⟩
end
end Go.Proofs.YtimlbebockfioaaDoor
