/- The statement SpanRanks: the walk of the law. -/
import Derived.Test.YtmllkniloalgoaaBarsR
namespace Go.Proofs.Ytmllkniloalgoaa
open Go.RowKit

theorem blk2cells {w : World} {g : Nat} {t : TypeId} {x y : Value} (h : Blk w g t #[x, y]) : w.cell? ⟨g, 0, none⟩ = some x ∧ w.cell? ⟨g, 1, none⟩ = some y := ⟨h.cell 0, h.cell 1⟩
theorem sum_step {l : List Int} {k : Nat} {x : Int} (h : l[k]? = some x) : (l.take (k + 1)).sum = (l.take k).sum + x := by
  rw [take_succ_of h, List.sum_append]
  simp
/-- The Bool says whether. -/
def Says (b : Bool) (P : Prop) : Prop := b = true ↔ P
theorem Says.out {b : Bool} {P : Prop} (h : Says b P) : b = true ↔ P := h
def FoundTo (xs : List Int) (a : Int) (ok : Bool) (k : Nat) : Prop := ok = false ∨ ∃ j, j < k ∧ xs[j]? = some a
theorem found_step {xs : List Int} {a x : Int} {ok : Bool} {k : Nat} (hx : xs[k]? = some x) : FoundTo xs a ok (k + 1) ↔ FoundTo xs a ok k ∨ x = a := by
  constructor
  · rintro (h | ⟨j, hj, h⟩)
    · exact .inl (.inl h)
    · rcases Nat.lt_or_ge j k with h1 | h1
      · exact .inl (.inr ⟨j, h1, h⟩)
      · obtain rfl : j = k := by omega
        rw [hx] at h
        injection h with h
        exact .inr h
  · rintro ((h | ⟨j, hj, h⟩) | rfl)
    · exact .inl h
    · exact .inr ⟨j, by omega, h⟩
    · exact .inr ⟨k, by omega, hx⟩

set_option maxRecDepth 100000
section
set_option maxHeartbeats 3200000 in
theorem spanRanks_any (v : Value) (xs : List Int) (xa xb ya yb : Int) (w : World) (h : IsSlice (repInt .i64) w (all w) v xs) (hya : ya ≤ 9223372036854775807) :
    Calls Try.prog 3 #[v, .agg #[.int .i64 xa, .int .i64 xb], .agg #[.int .i64 ya, .int .i64 yb]] w fun e w' => e = .returned (.bool true) ∧ Ext w w' := by
  have hv := h
  obtain ⟨A, n, c, rfl, hnc, hcm, hrow⟩ := h
  have hn := hrow.1
  have hmax : n ≤ 9223372036854775807 := by unfold maxLen at hcm; omega
  by_cases hA : 200 < (n : Int)
  · clear hn
    go_enter Try.func3, Try.ntmps3
    go_wp2_with (go_at_call 6; refine (spanLive_any _).mono ?_; rintro e w1 ⟨rfl, hx1⟩)
    go_ret
    exact ⟨rfl, Ext.of_alloc (Ext.of_alloc hx1)⟩
  have hl : xs.length ≤ 200 := by omega
  have HN := hid hn
  have hmem := rankV_mem (xs := xs) (num := xa) (den := xb)
  have hsum := barsV_sum xs ya yb
  have hcin := barsV_in xs ya yb
  have hr1 := fun v w1 (he : IsSlice (repInt .i64) w1 (all w1) v xs) => rankAll_any v xs xa xb w1 he hl
  have hr2 := fun v w1 (he : IsSlice (repInt .i64) w1 (all w1) v xs) => rankRAll_any v xs xa xb w1 he hl
  have hb1 := fun v w1 (he : IsSlice (repInt .i64) w1 (all w1) v xs) => barsAll_any v xs ya yb w1 he hl hya
  have hb2 := fun v w1 (he : IsSlice (repInt .i64) w1 (all w1) v xs) => barsRAll_any v xs ya yb w1 he hl hya
  generalize (rankV xs xa xb).1 = a at *
  generalize (rankV xs xa xb).2 = ok at *
  generalize barsV xs ya yb = cs at *
  have HMEM := hid hmem
  have HSUM := hid hsum
  have HCIN := hid hcin
  have HR1 := hid hr1
  have HR2 := hid hr2
  have HB1 := hid hb1
  have HB2 := hid hb2
  have HL := hid hl
  have hn200 : n ≤ 200 := by omega
  clear hn hmem hsum hcin hr1 hr2 hb1 hb2 hya hl
  go_enter Try.func3, Try.ntmps3
  go_upto_region 3 with fail
  have hbx := Blk.alloc (Blk.new w 24 #[.int .i64 xa, .int .i64 xb]) (.cells #[.int .i64 ya, .int .i64 yb] 24)
  have hby := Blk.new (w.alloc (.cells #[.int .i64 xa, .int .i64 xb] 24)) 24 #[.int .i64 ya, .int .i64 yb]
  rw [World.size_alloc] at hby
  have hx0 : Ext w ((w.alloc (.cells #[.int .i64 xa, .int .i64 xb] 24)).alloc (.cells #[.int .i64 ya, .int .i64 yb] 24)) := Ext.trans (ext_alloc _ _) (ext_alloc _ _)
  generalize ((w.alloc (.cells #[.int .i64 xa, .int .i64 xb] 24)).alloc (.cells #[.int .i64 ya, .int .i64 yb] 24)) = v0 at *
  have hv0 := hv.ext hx0
  go_upto_region 4 with (at_builtin; refine wpl_app (r := repInt .i64) (base := v0.heap.size) (v := .slice (some ⟨v0.heap.size, 0, none⟩) 0 0) (xs := []) _ _ rfl rfl Try.underlying22 info_int (by decide) (own_lit (xs := []) (Nat.le_refl _) (by simp [maxLen]) (by simp) (by simp)) ((hv0.off (ext_alloc v0 _) (by simp [Value.ownBlock])).flat (flat_int _)) rfl rfl (by have := HL.out; simp; omega) (by have := HL.out; simp [maxLen]; omega) (by simp) ?_; intro v1 w1 hown1 hg1 _)
  have hx01 : Ext v0 w1 := Below.grown (ext_alloc _ _) hg1 (by simp) (by simp [Value.ownBlock])
  have hwas := hown1.slice
  rw [List.nil_append] at hwas
  obtain ⟨A1, c1, rfl⟩ := hwas.shape
  clear hown1 hg1
  have hx1 := Ext.trans hx0 hx01
  have hbx1 := hbx.ext hx01
  have hby1 := hby.ext hx01
  obtain ⟨e0, e1⟩ := blk2cells hbx1
  go_wp2_with fail
  refine (HR1.out _ _ (hv.ext hx1)).mono ?_
  rintro r w2 ⟨rfl, hx12⟩
  have hx2 := Ext.trans hx1 hx12
  have hbx2 := hbx1.ext hx12
  have hby2 := hby1.ext hx12
  clear e0 e1
  obtain ⟨e0, e1⟩ := blk2cells hbx2
  go_wp2_with fail
  refine (HR2.out _ _ (hv.ext hx2)).mono ?_
  rintro r w3 ⟨rfl, hx23⟩
  have hx3 := Ext.trans hx2 hx23
  have hby3 := hby2.ext hx23
  clear e0 e1
  obtain ⟨e0, e1⟩ := blk2cells hby3
  go_wp2_with fail
  refine (HB1.out _ _ (hv.ext hx3)).mono ?_
  rintro r w4 ⟨u4, rfl, hu4, hx34⟩
  have hx4 := Ext.trans hx3 hx34
  have hby4 := hby3.ext hx34
  clear e0 e1
  obtain ⟨e0, e1⟩ := blk2cells hby4
  go_wp2_with fail
  refine (HB2.out _ _ (hv.ext hx4)).mono ?_
  rintro r w5 ⟨u5, rfl, hu5, hx45⟩
  have hx5 := Ext.trans hx4 hx45
  go_wp2_with fail
  refine (sameInts_any _ _ _ _ _ (hu4.any.ext hx45) hu5.any).mono ?_
  rw [decide_eq_true rfl]
  rintro r w6 ⟨rfl, k6, rfl⟩
  have hx56 : Ext w5 (w5.drewN k6) := ext_drewN _ _
  generalize w5.drewN k6 = w6 at *
  have hx6 := Ext.trans hx5 hx56
  go_wp2_with fail
  refine (sameInts_any _ _ _ _ _ (hv.ext hx6) (hwas.ext (Ext.trans hx12 (Ext.trans hx23 (Ext.trans hx34 (Ext.trans hx45 hx56)))))).mono ?_
  rw [decide_eq_true rfl]
  rintro r w7 ⟨rfl, k7, rfl⟩
  have hx67 : Ext w6 (w6.drewN k7) := ext_drewN _ _
  generalize w6.drewN k7 = w7 at *
  have hx7 := Ext.trans hx6 hx67
  have hc7 := hu4.any.ext (Ext.trans hx45 (Ext.trans hx56 hx67))
  obtain ⟨B, m, cb, rfl, hmb, hcb, hrc⟩ := hc7
  have hcl := hrc.1
  have hm100 : m ≤ 100 := by have := HCIN.out.1; omega
  have HCL := hid hcl
  clear hcl hby hbx hbx1 hby1 hbx2 hby2 hby3 hby4 e0 e1 hu4 hu5 hwas hv0
  go_wp2
  go_loop [13, 14] (fun t i => ∃ (k : Nat) (S : Int), k ≤ m ∧ i = .int .i64 k ∧ t = .int .i64 S ∧ 0 ≤ S ∧ S ≤ 200 * k ∧ Hid (S = (cs.take k).sum)) (fun _ i => m - (intOf i).toNat)
  case atStart => exact ⟨0, 0, Nat.zero_le _, rfl, rfl, by omega, by omega, hid (by simp)⟩
  case round =>
    obtain ⟨k, S, hk, rfl, rfl, hS0, hS1, HS⟩ := hrel
    by_cases hlt : k < m
    · obtain ⟨b, off, x, rfl, _, hx, hc, _⟩ := hrc.int hlt
      have hxb := HCIN.out.2 x (List.mem_of_getElem? hx)
      have hxb2 : 0 ≤ x ∧ x ≤ 200 := by have := HN.out; omega
      have HST := hid (sum_step hx)
      clear hx hxb
      go_wp2
      go_round
      case rel => exact ⟨k + 1, S + x, by omega, by go_num, by go_num, by omega, by omega, hid (by rw [HST.out, ← HS.out])⟩
      case measure => simp [intOf]; omega
    · have hkm : k = m := by omega
      have hSs : S = cs.sum := by rw [HS.out, hkm, List.take_of_length_le (by rw [HCL.out]; exact Nat.le_refl _)]
      have HSS := hid hSs
      clear hSs
      subst hkm
      go_wp2
      go_loop [15, 16] (fun t i => ∃ (j : Nat) (b : Bool), j ≤ n ∧ i = .int .i64 j ∧ t = .bool b ∧ Says b (FoundTo xs a ok j)) (fun _ i => n - (intOf i).toNat)
      case atStart =>
        refine ⟨0, !ok, Nat.zero_le _, rfl, rfl, ?_⟩
        unfold Says FoundTo
        cases ok
        · simp
        · simp
      case round =>
        obtain ⟨j, b, hj, rfl, rfl, hb⟩ := hrel
        have HB := hid hb
        clear hb
        by_cases hjn : j < n
        · obtain ⟨b', off', x, rfl, hx, hc, _⟩ := hrow.intE hx7 hjn
          have HST := hid (found_step (a := a) (ok := ok) hx)
          clear hx
          cases b
          · obtain ⟨q, hq⟩ : ∃ q : Bool, (x == a) = q := ⟨_, rfl⟩
            have HQ := hid hq
            go_wp2
            go_round
            case rel =>
              refine ⟨j + 1, q, by omega, by go_num, rfl, ?_⟩
              unfold Says
              rw [HST.out, ← HQ.out]
              have := HB.out.out
              constructor
              · intro h; exact .inr (by simpa using h)
              · rintro (h | h)
                · have := this.2 h; cases this
                · simpa using h
            case measure => simp [intOf]; omega
          · go_wp2
            go_round
            case rel => exact ⟨j + 1, true, by omega, by go_num, rfl, (⟨fun _ => HST.out.2 (.inl (HB.out.out.1 rfl)), fun _ => rfl⟩ : _ ↔ _)⟩
            case measure => simp [intOf]; omega
        · have hjn2 : j = n := by omega
          have hbt : b = true := HB.out.out.2 (by
            cases hok : ok with
            | false => exact .inl rfl
            | true =>
              obtain ⟨i, hi, he⟩ := List.getElem_of_mem (HMEM.out hok)
              exact .inr ⟨i, by have := HN.out; omega, by rw [List.getElem?_eq_getElem hi, he]⟩)
          subst hbt
          rcases HSUM.out with hnil | ⟨hpos, hsm⟩
          · have hm0 : k = 0 := by have := HCL.out; rw [hnil] at this; simpa using this.symm
            subst hm0
            clear hnil
            go_wp2_with fail
            refine (spanLive_any _).mono ?_
            rintro r w8 ⟨rfl, hx8⟩
            go_wp2
            go_ret
            exact ⟨rfl, Ext.trans hx7 hx8⟩
          · have hk1 : ((k : Int) == 0) = false := by have := HCL.out; simp; omega
            have hSn : S = (n : Int) := by rw [HSS.out, hsm, HN.out]
            subst hSn
            clear hpos hsm
            go_wp2_with fail
            refine (spanLive_any _).mono ?_
            rintro r w8 ⟨rfl, hx8⟩
            go_wp2
            go_ret
            exact ⟨rfl, Ext.trans hx7 hx8⟩
theorem spanRanks_frame (v : Value) (xs : List Int) (cs1 cs2 : Array Value) (x y : Int × Int) (S : Nat → Prop) (w : World) (h : IsSlice (repInt .i64) w (all w) v xs)
    (hx : (repPair (repInt .i64) (repInt .i64)).holds w S (Value.agg cs1).cells.toList x) (hy : (repPair (repInt .i64) (repInt .i64)).holds w S (Value.agg cs2).cells.toList y) :
    Calls Try.prog 3 #[v, .agg cs1, .agg cs2] w fun e w' => e = .returned (.bool true) ∧ Ext w w' := by
  obtain ⟨c, d, hcd, ⟨rfl, _⟩, ⟨rfl, _⟩⟩ := hx
  obtain ⟨k⟩ := cs1
  simp [Value.cells] at hcd
  subst hcd
  obtain ⟨c, d, hcd, ⟨rfl, hw⟩, ⟨rfl, _⟩⟩ := hy
  obtain ⟨k⟩ := cs2
  simp [Value.cells] at hcd
  subst hcd
  exact spanRanks_any v xs _ _ _ _ w h (bounds_i64 hw).2
end
end Go.Proofs.Ytmllkniloalgoaa
