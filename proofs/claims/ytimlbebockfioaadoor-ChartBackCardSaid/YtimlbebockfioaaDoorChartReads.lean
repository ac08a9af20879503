/- The law ChartReads: its walk. -/
import Derived.Test.YtimlbebockfioaaDoorChartLv
import Derived.Test.YtimlbebockfioaaDoorChartPR
import Derived.Test.YtimlbebockfioaaDoorChartSE
import Derived.Test.YtimlbebockfioaaDoorChartRd
namespace Go.Proofs.YtimlbebockfioaaDoor
open Go.RowKit

theorem AllOk.at_ {xs : List ByteArray} {evs : List Ev} (h : AllOk xs evs) {j : Nat} {x : ByteArray} (hx : xs[j]? = some x) : ∃ e, parseG x.data.toList = some e := by
  unfold AllOk at h
  have h2 : (xs.map (fun b => parseG b.data.toList))[j]? = some (parseG x.data.toList) := by rw [List.getElem?_map, hx]; rfl
  rw [h, List.getElem?_map] at h2
  cases he : evs[j]? with
  | none => rw [he] at h2; cases h2
  | some e =>
    rw [he] at h2
    injection h2 with h2
    exact ⟨e, h2.symm⟩
theorem AllOk.stop {xs : List ByteArray} {es : List Ev} {j j0 : Nat} {x0 : ByteArray} (h : AllOk (xs.take j) es) (hx : xs[j0]? = some x0) (hp : parseG x0.data.toList = none) : j ≤ j0 := by
  refine Nat.le_of_not_lt fun hlt => ?_
  obtain ⟨e, he⟩ := h.at_ (j := j0) (x := x0) (by rw [List.getElem?_take_of_lt hlt]; exact hx)
  rw [he] at hp
  cases hp
theorem ReadOut.unique {xs : List ByteArray} {evs evs' : List Ev} {n n' : Nat} {f f' : Int} (h : ReadOut xs evs n f) (h' : ReadOut xs evs' n' f') : evs' = evs ∧ n' = n ∧ f' = f := by
  rcases h with ⟨h1, h2, h3⟩ | ⟨h1, h2, es, x, h3, h4, h5⟩ <;> rcases h' with ⟨k1, k2, k3⟩ | ⟨k1, k2, es', x', k3, k4, k5⟩
  · exact ⟨k3.unique h3, k2.trans h2.symm, k1.trans h1.symm⟩
  · obtain ⟨e, he⟩ := h3.at_ k4
    rw [he] at k5; cases k5
  · obtain ⟨e, he⟩ := k3.at_ h4
    rw [he] at h5; cases h5
  · have a1 := h3.stop k4 k5
    have a2 := k3.stop h4 h5
    exact ⟨k2.trans h2.symm, by omega, k1.trans h1.symm⟩
set_option maxRecDepth 100000
section
set_option maxHeartbeats 4000000 in
theorem chartReads_any (v : Value) (xs : List ByteArray) (w : World) (HL : Laid w) (h : IsSlice repString w (all w) v xs) :
    Calls Tryd.prog 4 #[v] w fun e w' => e = .returned (.bool true) ∧ Ext w w' := by
  have HV := hid h
  obtain ⟨A, n, c, rfl, hnc, hcm, hrow⟩ := h
  have hn := hrow.1
  have HN := hid hn
  have HLL := hid HL
  have HLV := hid fun W (he : Ext w W) => live35_any W (HL.ext he)
  clear hn HL
  by_cases h60 : 60 < n
  · have t1 : decide (60 < n) = true := decide_eq_true h60
    have t1' : decide ((60 : Int) < (n : Int)) = true := decide_eq_true (by omega)
    clear h60
    go_enter Tryd.func4, Tryd.ntmps4
    go_wp2_with (go_at_call 7; refine (HLV.out _ (Below.refl _ _)).mono ?_; rintro e w8 ⟨rfl, hx8⟩)
    go_ret
    exact ⟨rfl, hx8⟩
  · have t1 : decide (60 < n) = false := decide_eq_false h60
    have t1' : decide ((60 : Int) < (n : Int)) = false := decide_eq_false (by omega)
    have hn60 : n ≤ 60 := by omega
    clear h60
    go_enter Tryd.func4, Tryd.ntmps4
    go_wp2
    clear t1 t1'
    go_loopw [3, 4, 5, 6] (fun u at_ f i wr => (∃ (j : Nat) (evs : List Ev), j ≤ n ∧ evs.length = j ∧ at_ = .int .i64 (n : Int) ∧ f = .int .i64 0 ∧ i = .int .i64 (j : Int) ∧ Wall (AllOk (xs.take j) evs ∧ Own repEv 24 w.heap.size wr u evs ∧ Ext w wr ∧ ∀ k x, k < j → xs[k]? = some x → x.size ≤ 400)) ∨
      (∃ (j : Nat), j < n ∧ u = .slice none 0 0 ∧ at_ = .int .i64 (j : Int) ∧ f = .int .i64 320 ∧ i = .int .i64 ((j : Int) + 1) ∧ Wall ((∃ es x, AllOk (xs.take j) es ∧ xs[j]? = some x ∧ parseG x.data.toList = none) ∧ Ext w wr ∧ ∀ k x, k ≤ j → xs[k]? = some x → x.size ≤ 400))) (fun _ _ _ i _ => n - (intOf i).toNat)
    case atStart => exact .inl ⟨0, [], Nat.zero_le _, rfl, rfl, rfl, rfl, hid ⟨rfl, own_nil _ _ _ _, Below.refl _ _, fun k x hk => absurd hk (Nat.not_lt_zero _)⟩⟩
    case round =>
      have hsplit : (∃ (j : Nat) (evs : List Ev), j < n ∧ evs.length = j ∧ u4 = .int .i64 (n : Int) ∧ u5 = .int .i64 0 ∧ u6 = .int .i64 (j : Int) ∧ Wall (AllOk (xs.take j) evs ∧ Own repEv 24 w.heap.size wr u3 evs ∧ Ext w wr ∧ ∀ k x, k < j → xs[k]? = some x → x.size ≤ 400)) ∨
          (∃ (evs : List Ev), evs.length = n ∧ u4 = .int .i64 (n : Int) ∧ u5 = .int .i64 0 ∧ u6 = .int .i64 (n : Int) ∧ Wall (AllOk (xs.take n) evs ∧ Own repEv 24 w.heap.size wr u3 evs ∧ Ext w wr ∧ ∀ k x, k < n → xs[k]? = some x → x.size ≤ 400)) ∨
          (∃ (j : Nat), j < n ∧ u3 = .slice none 0 0 ∧ u4 = .int .i64 (j : Int) ∧ u5 = .int .i64 320 ∧ u6 = .int .i64 ((j : Int) + 1) ∧ Wall ((∃ es x, AllOk (xs.take j) es ∧ xs[j]? = some x ∧ parseG x.data.toList = none) ∧ Ext w wr ∧ ∀ k x, k ≤ j → xs[k]? = some x → x.size ≤ 400)) := by
        rcases hrel with ⟨j, evs, hj, h1, h2, h3, h4, h5⟩ | h
        · by_cases hjn : j < n
          · exact .inl ⟨j, evs, hjn, h1, h2, h3, h4, h5⟩
          · obtain rfl : j = n := by omega
            exact .inr (.inl ⟨evs, h1, h2, h3, h4, h5⟩)
        · exact .inr (.inr h)
      clear hrel
      rcases hsplit with ⟨j, evs, hjl, hel, rfl, rfl, rfl, HP⟩ | ⟨evs, hel, rfl, rfl, rfl, HP⟩ | ⟨j, hjl, rfl, rfl, rfl, rfl, HP⟩
      case inl =>
        obtain ⟨b, off, us, x, rfl, hb, hx, hus, hc⟩ := hrow.get1 rfl hjl
        have hus' : us = .string x := by
          have : [us] = [Value.string x] := hus
          injection this
        subst hus'
        have q0 := (HP.out.2.2.1.cell hb _).trans hc
        have HXJ := hid hx
        have HTK := hid (take_succ_of hx)
        clear hx hus hc
        by_cases h400 : 400 < x.size
        · have t2 : decide (400 < x.size) = true := decide_eq_true h400
          have t2' : decide ((400 : Int) < (x.size : Int)) = true := decide_eq_true (by omega)
          clear h400
          go_wp2_with (go_at_call 7; refine (HLV.out _ HP.out.2.2.1).mono ?_; rintro e w8 ⟨rfl, hx8⟩)
          go_ret
          exact ⟨rfl, Ext.trans HP.out.2.2.1 hx8⟩
        · have t2 : decide (400 < x.size) = false := decide_eq_false h400
          have t2' : decide ((400 : Int) < (x.size : Int)) = false := decide_eq_false (by omega)
          have HPA : Wall (Calls Tryd.prog 9 #[.string x] wr (ParseRes x.data.toList wr)) := hid (by
            have := parseR_any x.data.toList wr (by show x.size ≤ 1000; omega)
            rwa [list_bstr] at this)
          have HSZ : Wall (∀ k y, k ≤ j → xs[k]? = some y → y.size ≤ 400) := hid fun k y hk hy => by
            by_cases hkj : k = j
            · subst hkj
              have := HXJ.out
              rw [this] at hy
              injection hy with hy
              subst hy
              omega
            · exact HP.out.2.2.2 k y (by omega) hy
          clear h400
          go_upto_region 11 with (go_at_call 9; refine HPA.out.mono ?_; rintro e w1 ⟨ev, u1, f, rfl, ho, hs, hx1⟩; obtain ⟨Au, cu, rfl⟩ := hs.shape)
          clear t2 t2'
          have hsz := HP.out.2.2.1.size
          have hown1 := (HP.out.2.1.ext hx1).ext (ext_alloc w1 (.cells #[.int .i64 ev.step, .int .i64 ev.kind, .int .i64 ev.place, .slice Au ev.data.length cu] 24))
          have hs2 := (hs.later (ext_alloc w1 (.cells #[.int .i64 ev.step, .int .i64 ev.kind, .int .i64 ev.place, .slice Au ev.data.length cu] 24))).newer (fun q hq => HP.out.2.1.lt q hq) hsz
          have hx2 := Ext.trans HP.out.2.2.1 (Ext.trans hx1 (ext_alloc w1 (.cells #[.int .i64 ev.step, .int .i64 ev.kind, .int .i64 ev.place, .slice Au ev.data.length cu] 24)))
          have hbE := Blk.new w1 24 #[.int .i64 ev.step, .int .i64 ev.kind, .int .i64 ev.place, .slice Au ev.data.length cu]
          have HPO := hid HP.out.1
          obtain ⟨gE, hgE⟩ : ∃ gE, gE = w1.heap.size := ⟨_, rfl⟩
          rw [← hgE] at hbE ⊢
          have hhold : repEv.holds (w1.alloc (.cells #[.int .i64 ev.step, .int .i64 ev.kind, .int .i64 ev.place, .slice Au ev.data.length cu] 24)) (el w.heap.size (w1.alloc (.cells #[.int .i64 ev.step, .int .i64 ev.kind, .int .i64 ev.place, .slice Au ev.data.length cu] 24)) u3) [.int .i64 ev.step, .int .i64 ev.kind, .int .i64 ev.place, .slice Au ev.data.length cu] ev := ⟨_, rfl, hs2⟩
          generalize w1.alloc (.cells #[.int .i64 ev.step, .int .i64 ev.kind, .int .i64 ev.place, .slice Au ev.data.length cu] 24) = w2 at *
          have q1 := hbE.cell 0
          have q2 := hbE.cell 1
          have q3 := hbE.cell 2
          have q4 := hbE.cell 3
          have HH := hid (⟨hown1, hhold, hx2⟩ : Own repEv 24 w.heap.size w2 u3 evs ∧ repEv.holds w2 (el w.heap.size w2 u3) [.int .i64 ev.step, .int .i64 ev.kind, .int .i64 ev.place, .slice Au ev.data.length cu] ev ∧ Ext w w2)
          have HO := hid ho
          clear hs hs2 hown1 hx2 hhold hbE hgE ho HP HPA hx1 hsz q0
          go_upto_region 12 with (at_builtin; refine wpl_app1 (r := repEv) (base := w.heap.size) (x := ev) (cs := #[.int .i64 ev.step, .int .i64 ev.kind, .int .i64 ev.place, .slice Au ev.data.length cu]) _ _ rfl rfl Tryd.underlying34 info_ev (by decide) HH.out.1 rfl rfl rfl HH.out.2.1 (by omega) (by simp only [maxLen]; omega) HH.out.2.2.size ?_; intro v' w9 hown9 hg9)
          have HG9 := hid (⟨hown9, Below.grown HH.out.2.2 hg9 HH.out.2.2.size (fun k hk => (HH.out.1.lt k hk).1)⟩ : Own repEv 24 w.heap.size w9 v' (evs ++ [ev]) ∧ Ext w w9)
          clear hown9 hg9 q1 q2 q3 q4
          rcases HO.out with ⟨rfl, ho⟩ | ⟨rfl, ho, rfl⟩
          · have HOK := hid (HTK.out ▸ AllOk.snoc HPO.out ho)
            clear ho HO
            go_wp2
            go_roundw
            case rel => exact .inl ⟨j + 1, evs ++ [ev], by omega, by rw [List.length_append, hel]; rfl, rfl, rfl, by go_num, hid ⟨HOK.out, HG9.out.1, HG9.out.2, fun k y hk hy => HSZ.out k y (by omega) hy⟩⟩
            case measure => simp [intOf]; omega
          · have HOK := hid (⟨evs, x, HPO.out, HXJ.out, ho⟩ : ∃ es x, AllOk (xs.take j) es ∧ xs[j]? = some x ∧ parseG x.data.toList = none)
            clear ho HO
            go_wp2
            go_roundw
            case rel => exact .inr ⟨j, by omega, rfl, rfl, rfl, rfl, hid ⟨HOK.out, HG9.out.2, HSZ.out⟩⟩
            case measure => simp [intOf]; omega
      case' inr.inl =>
        have hrd : ReadOut xs evs n 0 := .inl ⟨rfl, HN.out.symm, by have := HP.out.1; rwa [List.take_of_length_le (by rw [HN.out]; exact Nat.le_refl _)] at this⟩
        have hus : IsSlice repEv wr (all wr) u3 evs := HP.out.2.1.slice
        have hex : Ext w wr := HP.out.2.2.1
        have hln : ∀ (k : Nat) x es, xs[k]? = some x → AllOk (xs.take k) es → x.size ≤ 1000 := fun k x es hx _ => Nat.le_trans (HP.out.2.2.2 k x (by have := lt_of_get hx; have := HN.out; omega) hx) (by decide)
        clear HP hel
        go_upto_region 14 with (fail)
      case' inr.inr =>
        have hrd : ReadOut xs [] j 320 := .inr ⟨rfl, rfl, HP.out.1⟩
        have hus : IsSlice repEv wr (all wr) (.slice none 0 0) [] := isSlice_nil _ _ _
        have hex : Ext w wr := HP.out.2.1
        have hln : ∀ (k : Nat) x es, xs[k]? = some x → AllOk (xs.take k) es → x.size ≤ 1000 := fun k x es hx ha => by
          obtain ⟨es0, x0, _, g2, g3⟩ := HP.out.1
          have := ha.stop g2 g3
          exact Nat.le_trans (HP.out.2.2 k x this hx) (by decide)
        clear HP
        go_upto_region 14 with (fail)
      all_goals
        have HRD := hid (read_any _ xs wr (HLL.out.ext hex) (HV.out.ext hex) (by have := HN.out; omega) hln)
        have HUS := hid hus
        have HRO := hid hrd
        have HEX := hid hex
        clear hln hus hrd hex
        go_upto_region 15 with (go_at_call 14; refine HRD.out.mono ?_; rintro e w1 ⟨u9, n9, f9, evs9, rfl, ho9, hs9, hx9⟩)
        obtain ⟨r1, r2, r3⟩ := HRO.out.unique ho9
        subst r1 r2 r3
        have HS9 := hid (sameEv_any _ _ _ w1 hs9.any (HUS.out.ext hx9))
        have HX9 := hid hx9
        clear ho9 hs9 hx9 HRD HRO
        go_wp2_with (first
          | (go_at_call 12; refine (cnum_any _ _).mono ?_; rintro e w12 ⟨rfl, rfl⟩)
          | (go_at_call 13; refine HS9.out.mono ?_; rintro e w13 ⟨rfl, hx13⟩)
          | (go_at_call 7; refine (HLV.out _ (Ext.trans HEX.out (Ext.trans HX9.out hx13))).mono ?_; rintro e w14 ⟨rfl, hx14⟩))
        go_ret
        exact ⟨rfl, Ext.trans (Ext.trans HEX.out (Ext.trans HX9.out hx13)) hx14⟩
end
end Go.Proofs.YtimlbebockfioaaDoor
