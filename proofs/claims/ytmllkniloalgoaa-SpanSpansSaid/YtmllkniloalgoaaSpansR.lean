/- The walk of the reference's Spans. -/
import Derived.Test.YtmllkniloalgoaaSpans
namespace Go.Proofs.Ytmllkniloalgoaa
open Go.RowKit

theorem toldF_in {l : List Ev} {p z : Int} (h : toldF l p = some z) : 0 ≤ z := by
  unfold toldF at h
  rw [Option.map_eq_some_iff] at h
  obtain ⟨x, _, rfl⟩ := h
  exact (stepE_in x).1
theorem toldF_take {l : List Ev} {k : Nat} {p z : Int} (h : toldF (l.take k) p = some z) : toldF l p = some z := by
  unfold toldF at h ⊢
  rw [Option.map_eq_some_iff] at h
  obtain ⟨x, h1, rfl⟩ := h
  rw [← List.take_append_drop k l, List.find?_append, h1]
  rfl
theorem stepsOf_get {l : List Ev} {kind : Int} {k i : Nat} {x : Ev} (h : (nums l kind)[k]? = some (i : Int)) (hx : l[i]? = some x) : (stepsOf l kind)[k]? = some (stepE x) := by
  rw [stepsOf_nums, List.getElem?_map, h, Option.map_some, stepAt_nat hx]

set_option maxRecDepth 100000
section
theorem info_spR : ElemInfo Try.prog 34 4 32 := elemInfo (z := .agg #[.int .i64 0, .int .i64 0, .int .i64 0, .int .i64 0]) (by kernel_rfl) rfl
set_option maxHeartbeats 8000000 in
theorem spansR_any (v : Value) (xs : List Ev) (w : World) (h : IsSlice repEv w (all w) v xs) (hl : xs.length ≤ 100) (hd : ∀ x ∈ xs, x.data.length ≤ 1000) :
    Calls Try.prog 20 #[v] w fun e w' => ∃ u, e = .returned u ∧ IsSlice repSp w' (fresh w w') u (spansOf xs) ∧ Ext w w' := by
  have HD := hid hd
  have h0l := nums_le xs 0
  have h2l := nums_le xs 2
  clear hd
  have hv := h
  obtain ⟨A, n, c, rfl, hnc, hcm, hrow⟩ := h
  have hn := hrow.1
  have hmax : n ≤ 100 := by omega
  have HN := hid hn
  go_enter Try.func20, Try.ntmps20
  go_wp2_with fail
  refine (numbersR_any _ xs 0 _ hv (by omega)).mono ?_
  rintro r w1 ⟨u1, rfl, hu1, hx1⟩
  go_wp2_with fail
  refine (numbersR_any _ xs 2 _ (hv.ext hx1) (by omega)).mono ?_
  rintro r w2 ⟨u2, rfl, hu2, hx2⟩
  have hx02 := Ext.trans hx1 hx2
  go_wp2_with fail
  refine (ofR_any _ xs 2 _ (hv.ext hx02) (by omega) HD.out).mono ?_
  rintro r w3 ⟨o3, rfl, ho3, hx3⟩
  have hx03 := Ext.trans hx02 hx3
  go_wp2_with fail
  refine (ofR_any _ xs 0 _ (hv.ext hx03) (by omega) HD.out).mono ?_
  rintro r w4 ⟨o4, rfl, ho4, hx4⟩
  have hx04 := Ext.trans hx03 hx4
  go_wp2_with fail
  refine (placesR_any _ _ _ _ _ (ho3.any.ext hx4) ho4.any (by rw [texts_len]; omega) (by rw [texts_len]; omega)).mono ?_
  rintro r w5 ⟨o5, rfl, ho5, hx5⟩
  have hx05 := Ext.trans hx04 hx5
  have ho5 : IsSlice (repInt .i64) w5 (fresh w4 w5) o5 (plOf xs) := ho5
  have hnone : (placesOf (texts xs 2) (texts xs 0)).isSome = false → (plOf xs).length = 0 := by
    intro hh
    unfold plOf placesV
    cases hp : placesOf (texts xs 2) (texts xs 0) with
    | none => rfl
    | some p => rw [hp] at hh; cases hh
  generalize (placesOf (texts xs 2) (texts xs 0)).isSome = okk at *
  have hrow5 := hrow.ext hx05
  have hus := hu1.any.ext (Ext.trans hx2 (Ext.trans hx3 (Ext.trans hx4 hx5)))
  have hud := hu2.any.ext (Ext.trans hx3 (Ext.trans hx4 hx5))
  have hup := ho5.any
  obtain ⟨S, m, cs, rfl, hm1, hm2, hrs⟩ := hus
  obtain ⟨D, nd, cd, rfl, hd1, hd2, hrd⟩ := hud
  obtain ⟨P, np, cp, rfl, hp1, hp2, hrp⟩ := hup
  have hm := hrs.1
  have hnd := hrd.1
  have hnp := hrp.1
  have hm100 : m ≤ 100 := by omega
  have hnd100 : nd ≤ 100 := by omega
  have hnp100 : np ≤ 9223372036854775807 := by unfold maxLen at hp2; omega
  rw [hnp] at hnone
  have HM := hid hm
  have HND := hid hnd
  have HNP := hid hnp
  have hw5 := hx05.size
  have HNONE := hid hnone
  have hfin : spansOf xs = spansTo xs np m := by unfold spansOf; rw [hnp, hm]
  have HFIN := hid hfin
  clear hu1 hu2 ho3 ho4 ho5 hn hm hnd hnp hnone hfin h0l h2l hrow
  go_wp2
  go_loopw [7, 8] (fun t i wr => ∃ k : Nat, k ≤ m ∧ i = .int .i64 k ∧ Own repSp 34 w5.heap.size wr t (spansTo xs np k) ∧ Ext w5 wr) (fun _ i _ => m - (intOf i).toNat)
  case atStart => exact ⟨0, Nat.zero_le _, rfl, own_nil _ _ _ _, Below.refl _ _⟩
  case round =>
    obtain ⟨k, hk, rfl, hown, hext⟩ := hrel
    by_cases hlt : k < m
    · obtain ⟨b, off, y, rfl, hy, hc, _⟩ := hrs.intE hext hlt
      obtain ⟨i, rfl, hil⟩ := nums_get hy
      have hin : i < n := by have := HN.out; omega
      obtain ⟨b', off', x, A', dl, cdl, rfl, hx, hdat, hdl, c0, c1, c2, c3⟩ := hrow5.evE hext hin
      have HSG := hid (stepsOf_get hy hx)
      have hst := fun w1 => stepR_any x (.slice A' dl cdl) w1
      have hse := stepE_in x
      obtain ⟨se, hse'⟩ : ∃ se, stepE x = se := ⟨_, rfl⟩
      rw [hse'] at hst hse HSG
      have HST := hid hst
      clear hy hx hdat hdl hst hse'
      go_wp2_with fail
      refine (HST.out _).mono ?_
      rintro r w6 ⟨rfl, hx6⟩
      have hsz6 := hx6.size
      have hsz := hext.size
      have hown6 := hown.ext hx6
      have hex6 := Ext.trans hext hx6
      go_wp2
      have hbx := Blk.new w6 34 #[.int .i64 k, .int .i64 se, .int .i64 (-1), .int .i64 (-1)]
      have hexo : Ext w5 (w6.alloc (.cells #[.int .i64 k, .int .i64 se, .int .i64 (-1), .int .i64 (-1)] 34)) := Ext.trans hex6 (ext_alloc _ _)
      have howno := hown6.ext (ext_alloc w6 (.cells #[.int .i64 k, .int .i64 se, .int .i64 (-1), .int .i64 (-1)] 34))
      have hne : ∀ j, u7.ownBlock = some j → j < w6.heap.size := fun j hj => by have := (hown.lt j hj).2; omega
      have hwg : w5.heap.size ≤ w6.heap.size := by omega
      generalize (w6.alloc (.cells #[.int .i64 k, .int .i64 se, .int .i64 (-1), .int .i64 (-1)] 34)) = wo at *
      generalize w6.heap.size = gx at *
      have hneG : ∀ W : World, u7.ownBlock = none ∨ u7.ownBlock ≠ some gx := fun _ => .inr fun e => by have := hne _ e; omega
      have hsp : spTo xs np k = ⟨k, se, retTo (zipOf xs) np k, (toldF xs k).getD (-1)⟩ := by unfold spTo; rw [HSG.out]; rfl
      have HSP := hid hsp
      have HSL := hid (spansTo_len xs np k)
      have hr0 : retTo (zipOf xs) 0 k = -1 := rfl
      clear hsp hext hx6 hown6 hex6 hsz6 hsz HST c0 c1 c2 c3 hc hne
      go_loopw [10] (fun i wr' => ∃ q : Nat, q ≤ np ∧ i = .int .i64 q ∧ Blk wr' gx 34 #[.int .i64 k, .int .i64 se, .int .i64 (retTo (zipOf xs) q k), .int .i64 (-1)] ∧ Only gx wo wr') (fun i _ => np - (intOf i).toNat)
      case atStart => exact ⟨0, Nat.zero_le _, rfl, by rw [hr0]; exact hbx, Only.refl _ _⟩
      case round =>
        obtain ⟨q, hq, rfl, hb2, hon⟩ := hrel
        have hexq := Only.ext_new hon hexo hwg
        by_cases hqt : q < np
        · cases okk
          · exact absurd (HNONE.out rfl) (by omega)
          obtain ⟨a, d, hpa, hak, hq2, hdq, hzip⟩ := pl_at (l := xs) (k := q) (by rw [HNP.out]; exact hqt)
          obtain ⟨bp, offp, y, rfl, hy, hcy, _⟩ := hrp.intE hexq hqt
          rw [hpa] at hy
          injection hy with hy
          subst hy
          have HRT := hid (retTo_step hzip k)
          by_cases hak2 : a = k
          · have hab : ((a : Int) == (k : Int)) = true := by simp [hak2]
            obtain ⟨bd, offd, z, rfl, hz, hcz, _⟩ := hrd.intE hexq (show q < nd by have := HND.out; omega)
            obtain ⟨i2, rfl, hil2⟩ := nums_get hz
            have hin2 : i2 < n := by have := HN.out; omega
            obtain ⟨b2, off2, x2, A2, dl2, cdl2, hbo, hx2', hdat2, hdl2, e0, e1, e2, e3⟩ := hrow5.evE hexq hin2
            simp only [Option.some.injEq, Addr.mk.injEq, and_true] at hbo
            obtain ⟨rfl, rfl⟩ := hbo
            have hse2 := stepsOf_get hz hx2'
            rw [hdq] at hse2
            injection hse2 with hse2
            have hst2 := fun w1 => stepR_any x2 (.slice A2 dl2 cdl2) w1
            rw [← hse2] at hst2
            rw [if_pos (by rw [hak2])] at HRT
            have HST2 := hid hst2
            have hqd : q < nd := by have := HND.out; omega
            have hgl := hb2.lt
            clear hpa hak hq2 hdq hzip hz hx2' hdat2 hdl2 hse2 hst2 hak2
            go_wp2_with fail
            refine (HST2.out _).mono ?_
            rintro r w7 ⟨rfl, hx7⟩
            have hb7 := hb2.ext hx7
            have zf := hb7.frozen 2
            have zc : w7.cell? ⟨gx, 2, none⟩ = some (.int .i64 (retTo (zipOf xs) q k)) := hb7.cell 2
            go_wp2
            go_roundw
            case rel => exact ⟨q + 1, by omega, by go_num, by rw [HRT.out]; exact hb7.set_ 2 _, Only.set_ (hon.then hx7) _ _⟩
            case measure => simp [intOf]; omega
          · have hab : ((a : Int) == (k : Int)) = false := by simp; omega
            rw [if_neg (by show ¬ ((a : Int) = (k : Int)); omega)] at HRT
            clear hpa hak hq2 hdq hzip hak2
            go_wp2
            go_roundw
            case rel => exact ⟨q + 1, by omega, by go_num, by rw [HRT.out]; exact hb2, hon⟩
            case measure => simp [intOf]; omega
        · obtain rfl : q = np := by omega
          obtain ⟨rt, hrt⟩ : ∃ rt, retTo (zipOf xs) q k = rt := ⟨_, rfl⟩
          rw [hrt] at hb2 HSP
          have hownP := howno.keepFlat flat_sp hon (hneG wo)
          have hexP := hexq
          obtain ⟨np, hnpq⟩ : ∃ np, np = q := ⟨_, rfl⟩
          subst hnpq
          clear hrt hr0 hbx hexo hown
          obtain ⟨wp, rfl⟩ : ∃ wp : World, wp = wr := ⟨_, rfl⟩
          have hnil : (toldF (xs.take 0) k).getD (-1) = -1 := by simp [toldF]
          cases okk
          all_goals
            go_wp2
            go_loopw [11] (fun i wr' => ∃ q : Nat, q ≤ n ∧ i = .int .i64 q ∧ Blk wr' gx 34 #[.int .i64 k, .int .i64 se, .int .i64 rt, .int .i64 ((toldF (xs.take q) k).getD (-1))] ∧ Only gx wp wr') (fun i _ => n - (intOf i).toNat)
            case atStart => exact ⟨0, Nat.zero_le _, rfl, by rw [hnil]; exact hb2, Only.refl _ _⟩
            case round =>
              obtain ⟨q, hq, rfl, hb3, hon3⟩ := hrel
              clear hnil
              cases ht : toldF (xs.take q) k with
              | some z =>
                rw [ht] at hb3
                have hz0 := toldF_in ht
                have hb3 : Blk wr gx 34 #[.int .i64 k, .int .i64 se, .int .i64 rt, .int .i64 z] := hb3
                have HTX : toldF xs k = some z := toldF_take ht
                have hownA := hownP.keepFlat flat_sp hon3 (hneG wo)
                have hextA := Only.ext_new hon3 hexP hwg
                have hszA := hextA.size
                have z0 : wr.cell? ⟨gx, 0, none⟩ = some (.int .i64 k) := hb3.cell 0
                have z1 : wr.cell? ⟨gx, 1, none⟩ = some (.int .i64 se) := hb3.cell 1
                have z2 : wr.cell? ⟨gx, 2, none⟩ = some (.int .i64 rt) := hb3.cell 2
                have z3 : wr.cell? ⟨gx, 3, none⟩ = some (.int .i64 z) := hb3.cell 3
                have hgl := hb3.lt
                have hcs : (#[Value.int .i64 k, .int .i64 se, .int .i64 rt, .int .i64 z] : Array Value).toList = [Value.int .i64 (spTo xs np k).place, .int .i64 (spTo xs np k).sent, .int .i64 (spTo xs np k).ret, .int .i64 (spTo xs np k).told] := by rw [HSP.out, HTX]; rfl
                have HCS := hid hcs
                clear hcs
                clear HTX ht
                by_cases hqt : q < n
                · go_wp2_with (at_builtin; refine wpl_app1 (r := repSp) (base := w5.heap.size) (x := spTo xs np k) (cs := #[.int .i64 k, .int .i64 se, .int .i64 rt, .int .i64 z]) _ _ rfl rfl Try.underlying31 info_spR (by decide) hownA rfl rfl rfl HCS.out (by rw [HSL.out]; omega) (by rw [HSL.out]; simp only [maxLen]; omega) hszA ?_; intro v9 w9 hown9 hg9)
                  go_roundw
                  case rel => exact ⟨k + 1, by omega, by go_num, by rw [spansTo_succ]; exact hown9, Below.grown hextA hg9 hszA (fun j hj => (hownA.lt j hj).1)⟩
                  case measure => simp [intOf]; omega
                · obtain rfl : q = n := by omega
                  go_wp2_with (at_builtin; refine wpl_app1 (r := repSp) (base := w5.heap.size) (x := spTo xs np k) (cs := #[.int .i64 k, .int .i64 se, .int .i64 rt, .int .i64 z]) _ _ rfl rfl Try.underlying31 info_spR (by decide) hownA rfl rfl rfl HCS.out (by rw [HSL.out]; omega) (by rw [HSL.out]; simp only [maxLen]; omega) hszA ?_; intro v9 w9 hown9 hg9)
                  go_roundw
                  case rel => exact ⟨k + 1, by omega, by go_num, by rw [spansTo_succ]; exact hown9, Below.grown hextA hg9 hszA (fun j hj => (hownA.lt j hj).1)⟩
                  case measure => simp [intOf]; omega
              | none =>
                rw [ht] at hb3
                have hb3 : Blk wr gx 34 #[.int .i64 k, .int .i64 se, .int .i64 rt, .int .i64 (-1)] := hb3
                by_cases hqt : q < n
                · have hexA := Only.ext_new hon3 hexP hwg
                  have z3 : wr.cell? ⟨gx, 3, none⟩ = some (.int .i64 (-1)) := hb3.cell 3
                  have hgl := hb3.lt
                  obtain ⟨b2, off2, x2, A2, dl2, cdl2, hbo, hx2', hdat2, hdl2, e0, e1, e2, e3⟩ := hrow5.evE hexA hqt
                  simp only [Option.some.injEq, Addr.mk.injEq, and_true] at hbo
                  obtain ⟨rfl, rfl⟩ := hbo
                  have hts := toldF_step hx2' (k : Int)
                  rw [ht, Option.none_or] at hts
                  by_cases hp : x2.place = (k : Int)
                  · have hpb : (x2.place == (k : Int)) = true := by simpa using hp
                    by_cases h3 : x2.kind = 3
                    · have h3b : (x2.kind == 3) = true := by simpa using h3
                      rw [if_pos (by simp only [isOut, decide_eq_true_eq]; omega)] at hts
                      have HTS := hid hts
                      have hst2 := fun w1 => stepR_any x2 (.slice A2 dl2 cdl2) w1
                      obtain ⟨s2, hs2⟩ : ∃ s2, stepE x2 = s2 := ⟨_, rfl⟩
                      rw [hs2] at hst2 HTS
                      have HST2 := hid hst2
                      clear hx2' hdat2 hdl2 hts ht hp h3 hst2 hs2
                      go_wp2_with fail
                      refine (HST2.out _).mono ?_
                      rintro r w7 ⟨rfl, hx7⟩
                      have hb7 := hb3.ext hx7
                      have zf := hb7.frozen 3
                      have zc : w7.cell? ⟨gx, 3, none⟩ = some (.int .i64 (-1)) := hb7.cell 3
                      go_wp2
                      go_roundw
                      case rel => exact ⟨q + 1, by omega, by go_num, by rw [HTS.out]; exact hb7.set_ 3 _, Only.set_ (hon3.then hx7) _ _⟩
                      case measure => simp [intOf]; omega
                    by_cases h4 : x2.kind = 4
                    · have h3b : (x2.kind == 3) = false := by simpa using h3
                      have h4b : (x2.kind == 4) = true := by simpa using h4
                      rw [if_pos (by simp only [isOut, decide_eq_true_eq]; omega)] at hts
                      have HTS := hid hts
                      have hst2 := fun w1 => stepR_any x2 (.slice A2 dl2 cdl2) w1
                      obtain ⟨s2, hs2⟩ : ∃ s2, stepE x2 = s2 := ⟨_, rfl⟩
                      rw [hs2] at hst2 HTS
                      have HST2 := hid hst2
                      clear hx2' hdat2 hdl2 hts ht hp h3 h4 hst2 hs2
                      go_wp2_with fail
                      refine (HST2.out _).mono ?_
                      rintro r w7 ⟨rfl, hx7⟩
                      have hb7 := hb3.ext hx7
                      have zf := hb7.frozen 3
                      have zc : w7.cell? ⟨gx, 3, none⟩ = some (.int .i64 (-1)) := hb7.cell 3
                      go_wp2
                      go_roundw
                      case rel => exact ⟨q + 1, by omega, by go_num, by rw [HTS.out]; exact hb7.set_ 3 _, Only.set_ (hon3.then hx7) _ _⟩
                      case measure => simp [intOf]; omega
                    · have h3b : (x2.kind == 3) = false := by simpa using h3
                      have h4b : (x2.kind == 4) = false := by simpa using h4
                      rw [if_neg (by simp only [isOut, decide_eq_true_eq]; omega)] at hts
                      have HTS := hid hts
                      clear hx2' hdat2 hdl2 hts ht hp h3 h4
                      go_wp2
                      go_roundw
                      case rel => exact ⟨q + 1, by omega, by go_num, by rw [HTS.out]; exact hb3, hon3⟩
                      case measure => simp [intOf]; omega
                  · have hpb : (x2.place == (k : Int)) = false := by simpa using hp
                    by_cases h3 : x2.kind = 3
                    · have h3b : (x2.kind == 3) = true := by simpa using h3
                      rw [if_neg (by simp only [isOut, decide_eq_true_eq]; omega)] at hts
                      have HTS := hid hts
                      clear hx2' hdat2 hdl2 hts ht hp h3
                      go_wp2
                      go_roundw
                      case rel => exact ⟨q + 1, by omega, by go_num, by rw [HTS.out]; exact hb3, hon3⟩
                      case measure => simp [intOf]; omega
                    by_cases h4 : x2.kind = 4
                    · have h3b : (x2.kind == 3) = false := by simpa using h3
                      have h4b : (x2.kind == 4) = true := by simpa using h4
                      rw [if_neg (by simp only [isOut, decide_eq_true_eq]; omega)] at hts
                      have HTS := hid hts
                      clear hx2' hdat2 hdl2 hts ht hp h3 h4
                      go_wp2
                      go_roundw
                      case rel => exact ⟨q + 1, by omega, by go_num, by rw [HTS.out]; exact hb3, hon3⟩
                      case measure => simp [intOf]; omega
                    · have h3b : (x2.kind == 3) = false := by simpa using h3
                      have h4b : (x2.kind == 4) = false := by simpa using h4
                      rw [if_neg (by simp only [isOut, decide_eq_true_eq]; omega)] at hts
                      have HTS := hid hts
                      clear hx2' hdat2 hdl2 hts ht hp h3 h4
                      go_wp2
                      go_roundw
                      case rel => exact ⟨q + 1, by omega, by go_num, by rw [HTS.out]; exact hb3, hon3⟩
                      case measure => simp [intOf]; omega
                · obtain rfl : q = n := by omega
                  have HTX : toldF xs k = none := by rw [List.take_of_length_le (by rw [HN.out]; exact Nat.le_refl _)] at ht; exact ht
                  have hownA := hownP.keepFlat flat_sp hon3 (hneG wo)
                  have hextA := Only.ext_new hon3 hexP hwg
                  have hszA := hextA.size
                  have z0 : wr.cell? ⟨gx, 0, none⟩ = some (.int .i64 k) := hb3.cell 0
                  have z1 : wr.cell? ⟨gx, 1, none⟩ = some (.int .i64 se) := hb3.cell 1
                  have z2 : wr.cell? ⟨gx, 2, none⟩ = some (.int .i64 rt) := hb3.cell 2
                  have z3 : wr.cell? ⟨gx, 3, none⟩ = some (.int .i64 (-1)) := hb3.cell 3
                  have hgl := hb3.lt
                  have hcs : (#[Value.int .i64 k, .int .i64 se, .int .i64 rt, .int .i64 (-1)] : Array Value).toList = [Value.int .i64 (spTo xs np k).place, .int .i64 (spTo xs np k).sent, .int .i64 (spTo xs np k).ret, .int .i64 (spTo xs np k).told] := by rw [HSP.out, HTX]; rfl
                  have HCS := hid hcs
                  clear hcs
                  clear HTX ht
                  go_wp2_with (at_builtin; refine wpl_app1 (r := repSp) (base := w5.heap.size) (x := spTo xs np k) (cs := #[.int .i64 k, .int .i64 se, .int .i64 rt, .int .i64 (-1)]) _ _ rfl rfl Try.underlying31 info_spR (by decide) hownA rfl rfl rfl HCS.out (by rw [HSL.out]; omega) (by rw [HSL.out]; simp only [maxLen]; omega) hszA ?_; intro v9 w9 hown9 hg9)
                  go_roundw
                  case rel => exact ⟨k + 1, by omega, by go_num, by rw [spansTo_succ]; exact hown9, Below.grown hextA hg9 hszA (fun j hj => (hownA.lt j hj).1)⟩
                  case measure => simp [intOf]; omega
    · obtain rfl : k = m := by omega
      go_wp2
      go_ret
      exact ⟨_, rfl, by rw [HFIN.out]; exact hown.own.keep fun b hb => ⟨⟨by have := hb.1; omega, hb.2⟩, fun _ => rfl⟩, Ext.trans hx05 hext⟩
end
end Go.Proofs.Ytmllkniloalgoaa
