/- The walk of span's Spans. -/
import Derived.Test.YtmllkniloalgoaaSpansPlain
namespace Go.Proofs.Ytmllkniloalgoaa
open Go.RowKit

set_option maxRecDepth 100000
section
theorem Own.retCell {e : TypeId} {base : Nat} {w : World} {g n c : Nat} {xs : List Sp} (h : Own repSp e base w (.slice (some ⟨g, 0, none⟩) n c) xs) {i : Nat} {x : Sp} (hx : xs[i]? = some x) :
    w.cell? ⟨g, i * 4 + 2, none⟩ = some (.int .i64 x.ret) ∧ w.frozen? ⟨g, i * 4 + 2, none⟩ = false := by
  obtain ⟨ys, ⟨hl, hcase⟩, h2⟩ := h
  have hi := lt_of_get hx
  have he : xs[i] = x := by rw [List.getElem?_eq_getElem hi] at hx; injection hx
  have h4 : (ys.drop (i * 4)).take 4 = [.int .i64 xs[i].place, .int .i64 xs[i].sent, .int .i64 xs[i].ret, .int .i64 xs[i].told] := h2 i hi
  rw [he] at h4
  obtain ⟨q0, q1, q2, q3⟩ := take4.1 h4
  have hyl : ys.length = xs.length * 4 := by simpa [repSp] using hl
  rcases hcase with ⟨hv, _⟩ | ⟨g', cap, cur, hv, hg, hh, hnc, hm, hcs, hcur⟩
  · cases hv
  · injection hv with e1 e2 e3
    injection e1 with e1
    injection e1 with e1 _ _
    subst e1 e2 e3
    have hcs4 : cur.size = c * 4 := hcs
    have hyl2 : ys.length = xs.length * 4 := hyl
    refine ⟨?_, Blk.frozen hh _⟩
    refine (Blk.cell hh _).trans ?_
    rw [← q2, ← hcur, List.getElem?_take_of_lt (by show i * 4 + 2 < xs.length * 4; omega), Array.getElem?_toList]
theorem info_sp : ElemInfo Try.prog 35 4 32 := elemInfo (z := .agg #[.int .i64 0, .int .i64 0, .int .i64 0, .int .i64 0]) (by kernel_rfl) rfl
set_option maxHeartbeats 1600000 in
theorem spans_any (v : Value) (xs : List Ev) (w : World) (h : IsSlice repEv w (all w) v xs) (hl : xs.length ≤ 100) (hd : ∀ x ∈ xs, x.data.length ≤ 1000) :
    Calls Try.prog 19 #[v] w fun e w' => ∃ u, e = .returned u ∧ IsSlice repSp w' (fresh w w') u (spansOf xs) ∧ Ext w w' := by
  have HD := hid hd
  have h0l := nums_le xs 0
  have h2l := nums_le xs 2
  have hsl := steps_len xs 0
  have hs2 := steps_len xs 2
  have hz : ∀ W : World, (zeroValue 3).run Try.prog W = .ok (.int .i64 0) W := fun _ => by kernel_rfl
  have HZ := hid hz
  clear hz hd
  have hv := h
  obtain ⟨A, n, c, rfl, _⟩ := h
  go_enter Try.func19, Try.ntmps19
  go_wp2_with fail
  refine (outcomes_any _ xs _ hv (by omega)).mono ?_
  rintro r w1 ⟨b, L, rfl, hmap, hT, hx1⟩
  have HT := hid hT
  clear hT
  go_wp2_with fail
  refine (steps_any _ xs 0 _ (hv.ext hx1) (by omega)).mono ?_
  rintro r w2 ⟨u2, rfl, hu2, hx2⟩
  have hx02 := Ext.trans hx1 hx2
  have hm2 := hmap.ext hx2
  have hblt := hm2.lt
  obtain ⟨B, m, cb, rfl, hmb, hcb, hrs⟩ := hu2.any
  have hml := hrs.1
  have hm100 : m ≤ 100 := by omega
  have hmN : (nums xs 0).length = m := by omega
  have HML := hid hml
  have HMN := hid hmN
  clear hu2 hml hmap hmN hsl h0l
  go_wp2
  go_loopw [4, 20] (fun t i wr => ∃ k : Nat, k ≤ m ∧ i = .int .i64 k ∧ Own repSp 35 w2.heap.size wr t (spansTo xs 0 k) ∧ Ext w2 wr) (fun _ i _ => m - (intOf i).toNat)
  case atStart => exact ⟨0, Nat.zero_le _, rfl, own_nil _ _ _ _, Below.refl _ _⟩
  case round =>
    obtain ⟨k, hk, rfl, hown, hext⟩ := hrel
    by_cases hlt : k < m
    · obtain ⟨b', off, y, rfl, hy, hc, _⟩ := hrs.intE hext hlt
      have hsp : spTo xs 0 k = ⟨k, y, -1, (toldF xs k).getD (-1)⟩ := by unfold spTo; rw [hy]; rfl
      have HSP := hid hsp
      have hsl := hid (spansTo_len xs 0 k)
      have hmr := hm2.ext hext
      have hmr1 := fun o => hmr.ext (ext_alloc wr o)
      have hlk := fun W (hW : MapIs (keyInt .i64) W b L) => hW.lookup_ok (P := Try.prog) Try.underlying53 Try.underlying3 (HZ.out _) (k : Int)
      rw [HT.out] at hlk
      clear hy hsp
      cases ht : toldF xs (k : Int) with
      | none =>
        rw [ht] at hlk HSP
        have hlk' : ∀ o, (Instr.lookup 53 (.map (some b)) (.int .i64 k) true).run Try.prog (wr.alloc o) = .ok (.tuple #[.int .i64 0, .bool false]) (wr.alloc o) := fun o => hlk _ (hmr1 o)
        have hcs : (#[Value.int .i64 k, .int .i64 y, .int .i64 (-1), .int .i64 (-1)] : Array Value).toList = [Value.int .i64 (spTo xs 0 k).place, .int .i64 (spTo xs 0 k).sent, .int .i64 (spTo xs 0 k).ret, .int .i64 (spTo xs 0 k).told] := by rw [HSP.out]; rfl
        have HCS := hid hcs
        clear hlk ht hmr hmr1 hcs
        go_wp2_with (at_builtin; refine wpl_app1 (r := repSp) (base := w2.heap.size) (x := spTo xs 0 k) (cs := #[.int .i64 k, .int .i64 y, .int .i64 (-1), .int .i64 (-1)]) _ _ rfl rfl Try.underlying32 info_sp (by decide) (hown.ext (ext_alloc _ _)) rfl rfl (by simp) HCS.out (by rw [hsl.out]; omega) (by rw [hsl.out]; simp only [maxLen]; omega) (by have := hext.size; simp; omega) ?_; intro v' w3 hown3 hg3)
        go_roundw
        case rel => exact ⟨k + 1, by omega, by go_num, by rw [spansTo_succ]; exact hown3, Below.grown (hext.trans (ext_alloc _ _)) hg3 (by have := hext.size; simp; omega) (fun j hj => (hown.lt j hj).1)⟩
        case measure => simp [intOf]; omega
      | some z =>
        rw [ht] at hlk HSP
        have hlk' : ∀ o, (Instr.lookup 53 (.map (some b)) (.int .i64 k) true).run Try.prog (wr.alloc o) = .ok (.tuple #[.int .i64 z, .bool true]) (wr.alloc o) := fun o => hlk _ (hmr1 o)
        have hcs : (#[Value.int .i64 k, .int .i64 y, .int .i64 (-1), .int .i64 z] : Array Value).toList = [Value.int .i64 (spTo xs 0 k).place, .int .i64 (spTo xs 0 k).sent, .int .i64 (spTo xs 0 k).ret, .int .i64 (spTo xs 0 k).told] := by rw [HSP.out]; rfl
        have HCS := hid hcs
        clear hlk ht hmr hmr1 hcs
        go_wp2_with (at_builtin; refine wpl_app1 (r := repSp) (base := w2.heap.size) (x := spTo xs 0 k) (cs := #[.int .i64 k, .int .i64 y, .int .i64 (-1), .int .i64 z]) _ _ rfl rfl Try.underlying32 info_sp (by decide) (hown.ext (ext_alloc _ _)) rfl rfl (by simp) HCS.out (by rw [hsl.out]; omega) (by rw [hsl.out]; simp only [maxLen]; omega) (by have := hext.size; simp; omega) ?_; intro v' w3 hown3 hg3)
        go_roundw
        case rel => exact ⟨k + 1, by omega, by go_num, by rw [spansTo_succ]; exact hown3, Below.grown (hext.trans (ext_alloc _ _)) hg3 (by have := hext.size; simp; omega) (fun j hj => (hown.lt j hj).1)⟩
        case measure => simp [intOf]; omega
    · obtain rfl : k = m := by omega
      have hxr := Ext.trans hx02 hext
      obtain ⟨U, hU⟩ : ∃ U, U = u4 := ⟨_, rfl⟩
      rw [← hU] at hown
      have HXX := hid (fun w1 (hx : Ext w w1) => hv.ext hx)
      clear hrs hm2
      go_wp2_with fail
      refine (steps_any _ xs 2 _ (hv.ext hxr) (by omega)).mono ?_
      rintro r w3 ⟨u3, rfl, hu3, hx3⟩
      have hxr3 := Ext.trans hxr hx3
      go_wp2_with fail
      refine (of_any _ xs 2 _ (hv.ext hxr3) (by omega) HD.out).mono ?_
      rintro r w4 ⟨o4, rfl, ho4, hx4⟩
      have hxr4 := Ext.trans hxr3 hx4
      go_wp2_with fail
      refine (of_any _ xs 0 _ (hv.ext hxr4) (by omega) HD.out).mono ?_
      rintro r w5 ⟨o5, rfl, ho5, hx5⟩
      have hxr5 := Ext.trans hxr4 hx5
      go_wp2_with fail
      refine (places_any _ _ _ _ _ (ho4.any.ext hx5) ho5.any (by rw [texts_len]; omega) (by rw [texts_len, HMN.out]; omega)).mono ?_
      rintro r w6 ⟨o6, rfl, ho6, hx6⟩
      have hxr6 := Ext.trans hxr5 hx6
      have ho6 : IsSlice (repInt .i64) w6 (fresh w5 w6) o6 (plOf xs) := ho6
      generalize (placesOf (texts xs 2) (texts xs 0)).isSome = okk at *
      have hown6 := (((hown.ext hx3).ext hx4).ext hx5).ext hx6
      have hback := (((hu3.later hx4).later hx5).later hx6)
      have hwr2 : w2.heap.size ≤ wr.heap.size := hext.size
      have hwr5 : wr.heap.size ≤ w5.heap.size := (Ext.trans hx3 (Ext.trans hx4 hx5)).size
      have hw2 := hx02.size
      obtain ⟨P, np, cp, rfl, hnp1, hnp2, hrp⟩ := ho6
      obtain ⟨D, nd, cd, rfl, hnd1, hnd2, hrd⟩ := hback
      have hnp := hrp.1
      have hnd := hrd.1
      have hnp100 : np ≤ 9223372036854775807 := by unfold maxLen at hnp2; omega
      have HNP := hid hnp
      have HND := hid hnd
      clear hu3 ho4 ho5 hnd
      by_cases hnp0 : np = 0
      · subst hnp0
        have hfin : spansOf xs = spansTo xs 0 k := by unfold spansOf; rw [hnp, HMN.out]
        have HFIN := hid hfin
        clear hnp hfin
        go_wp2
        go_loopw [54] (fun i wr' => i = .int .i64 0 ∧ wr' = w6) (fun i _ => 0)
        case atStart => exact ⟨rfl, rfl⟩
        case round =>
          obtain ⟨rfl, rfl⟩ := hrel
          go_wp2
          go_ret
          exact ⟨_, rfl, by rw [HFIN.out, ← hU]; exact hown6.own.keep fun b hb => ⟨⟨by have := hb.1; omega, hb.2⟩, fun _ => rfl⟩, hxr6⟩
      · obtain ⟨a0, _, _, ha0, _⟩ := pl_at (l := xs) (k := 0) (by omega)
        have hk1 : 1 ≤ k := by have := HMN.out; omega
        obtain ⟨g, cg, hUe, hgb, hkc, hcg, cur, hcur, hcurs⟩ := hown6.spBlock (by rw [spansTo_len]; omega)
        rw [spansTo_len] at hUe hkc
        have hgr : g < wr.heap.size := (hown.lt g (by rw [hUe]; rfl)).2
        have hglt : g < w5.heap.size := by omega
        have hg6 : w5.heap.size ≤ w6.heap.size := hx6.size
        subst hUe
        subst hU
        have HPA := hid (fun j (hj : j < np) => pl_at (l := xs) (k := j) (by rw [HNP.out]; exact hj))
        have hcgm : cg ≤ 9223372036854775807 := by unfold maxLen at hcg; omega
        clear hnp ha0 hown
        go_wp2
        go_loopw [54] (fun i wr' => ∃ q : Nat, q ≤ np ∧ i = .int .i64 q ∧ Own repSp 35 w2.heap.size wr' (.slice (some ⟨g, 0, none⟩) k cg) (spansTo xs q k) ∧ Only g w6 wr') (fun i _ => np - (intOf i).toNat)
        case atStart => exact ⟨0, Nat.zero_le _, rfl, hown6, Only.refl _ _⟩
        case round =>
          obtain ⟨q, hq, rfl, hownq, honly⟩ := hrel
          by_cases hqt : q < np
          · obtain ⟨a, d, hpa, hak, hq2, hd, hzip⟩ := HPA.out q hqt
            rw [HMN.out] at hak
            obtain ⟨bp, offp, y, rfl, hyb, hy, hc, _⟩ := RowAt.int hrp hqt
            obtain ⟨bd, offd, z, rfl, hzb, hz, hcz, _⟩ := RowAt.int hrd (show q < nd by have := HND.out; have := steps_len xs 2; omega)
            rw [hpa] at hy
            rw [hd] at hz
            injection hy with hy
            injection hz with hz
            subst hy hz
            have hc' := (honly.cell hyb.2 (by have := hyb.1; omega) (offp + q)).trans hc
            have hcz' := (honly.cell hzb.2 (by have := hzb.1; omega) (offd + q)).trans hcz
            obtain ⟨hcr, hfr⟩ := hownq.retCell (i := a) (spansTo_get hak)
            have hset := hid (hownq.setRet (i := a) (spansTo_get hak) d)
            have HSET := hid (spansTo_set (l := xs) (n := k) hzip hak)
            have hqd : q < nd := by have := HND.out; have := steps_len xs 2; omega
            have hgB : w2.heap.size ≤ g := hgb
            clear hpa hd hzip hc hcz hyb hzb hq2
            go_wp2
            go_roundw
            case rel => exact ⟨q + 1, by omega, by go_num, by rw [← HSET.out]; exact hset.out, Only.set_ honly _ _⟩
            case measure => simp [intOf]; omega
          · obtain rfl : q = np := by omega
            have hfin : spansOf xs = spansTo xs q k := by unfold spansOf; rw [HNP.out, HMN.out]
            have HFIN := hid hfin
            clear hfin
            go_wp2
            go_ret
            have hgB : w.heap.size ≤ g := by omega
            exact ⟨_, rfl, by rw [HFIN.out]; exact hownq.own.keep fun b hb => ⟨⟨by have := hb.1; omega, hb.2⟩, fun _ => rfl⟩, Only.ext_new honly hxr6 hgB⟩
end
end Go.Proofs.Ytmllkniloalgoaa
