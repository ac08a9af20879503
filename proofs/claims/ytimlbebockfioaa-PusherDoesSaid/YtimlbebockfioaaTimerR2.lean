/- The reference's timers: Clear, Tick. -/
import Derived.Test.YtimlbebockfioaaTimerR
import Derived.Test.YtimlbebockfioaaOut
namespace Go.Proofs.Ytimlbebockfioaa
open Go.RowKit

theorem Own.frozenAt {α : Type} {r : Rep α} {w : World} {e : TypeId} {base g n c : Nat} {xs : List α} (h : Own r e base w (.slice (some ⟨g, 0, none⟩) n c) xs) (hx : 0 < xs.length) (p : Nat) : w.frozen? ⟨g, p, none⟩ = false := by
  obtain ⟨g', c', hv, _, _, _, _, cur, hb, _⟩ := h.blockOf hx
  injection hv with e1 _ _
  injection e1 with e1
  injection e1 with e1 _ _
  subst e1
  exact hb.frozen _
/-- A tick under way. -/
structure RtRun (w wr : World) (gr g n c : Nat) (most : Int) (dv : Value) (T : List Tm) (due : List Int) : Prop where
  blk : Blk wr gr 89 #[.int .i64 most, .slice (some ⟨g, 0, none⟩) n c]
  own : Own repTm 91 (gr + 1) wr (.slice (some ⟨g, 0, none⟩) n c) T
  due : Own (repInt .i64) 3 w.heap.size wr dv due
  only : Only g w wr
  sz : w.heap.size ≤ wr.heap.size
  lo : gr < g
  hi : g < w.heap.size
section
variable {w wr w' : World} {gr g n c : Nat} {most : Int} {dv dv' : Value} {T : List Tm} {due due' : List Int}
theorem RtRun.ext (h : RtRun w wr gr g n c most dv T due) (he : Ext wr w') : RtRun w w' gr g n c most dv T due :=
  ⟨h.blk.ext he, h.own.ext he, h.due.ext he, h.only.then he, Nat.le_trans h.sz he.size, h.lo, h.hi⟩
theorem RtRun.set (h : RtRun w wr gr g n c most dv T due) {i : Nat} {x : Tm} (x' : Tm) (hx : T[i]? = some x) {q p : Nat} (hq : q < 3) (u : Value) (hp : p = i * 3 + q)
    (hx' : ([.int .i64 x.key, .int .i64 x.left, .int .i64 x.span] : List Value).set q u = [.int .i64 x'.key, .int .i64 x'.left, .int .i64 x'.span]) : RtRun w (wr.setCell ⟨g, p, none⟩ u) gr g n c most dv (T.set i x') due := by
  have ho : Only g wr (wr.setCell ⟨g, p, none⟩ u) := (Only.refl _ _).set_ _ _
  have := h.sz; have h1 := h.lo; have h2 := h.hi
  refine ⟨h.blk.grown ho (fun e => by injection e with e; omega), h.own.setAt flat_tm hx hq u hp (fun cs hc => by subst hc; exact hx'), h.due.out (X := fun b => b = g) (Out.of_only ho rfl) (fun b hb => by omega), h.only.trans ho, Nat.le_trans h.sz ho.size, h.lo, h.hi⟩
theorem RtRun.app (h : RtRun w wr gr g n c most dv T due) (hg : wr.grownBy w' dv.ownBlock) (ho : Own (repInt .i64) 3 w.heap.size w' dv' due') : RtRun w w' gr g n c most dv' T due' := by
  have := h.sz; have h1 := h.lo; have h2 := h.hi
  have hd := h.due.lt
  have h3 := h.only
  refine ⟨h.blk.grown hg (fun e => by have := hd _ e.symm; omega), h.own.keepFlat' flat_tm hg (.inr (fun e => by have := hd g (by rw [← e]; rfl); omega)), ho, ⟨hg.os.trans h3.os, hg.tape.trans h3.tape, hg.output.trans h3.output, Nat.le_trans h3.size hg.size, fun k hk hne => (hg.block k (Nat.lt_of_lt_of_le hk h3.size) (fun e => by have := hd k e.symm; omega)).trans (h3.block k hk hne)⟩, Nat.le_trans h.sz hg.size, h.lo, h.hi⟩
theorem RtRun.cells (h : RtRun w wr gr g n c most dv T due) {i : Nat} {t : Tm} (ht : T[i]? = some t) :
    wr.cell? ⟨g, i * 3, none⟩ = some (.int .i64 t.key) ∧ wr.cell? ⟨g, i * 3 + 1, none⟩ = some (.int .i64 t.left) ∧ wr.cell? ⟨g, i * 3 + 2, none⟩ = some (.int .i64 t.span) ∧ wr.frozen? ⟨g, i * 3 + 1, none⟩ = false ∧ wr.frozen? ⟨g, i * 3 + 2, none⟩ = false ∧ wr.cell? ⟨gr, 0, none⟩ = some (.int .i64 most) ∧ wr.cell? ⟨gr, 1, none⟩ = some (.slice (some ⟨g, 0, none⟩) n c) := by
  obtain ⟨c0, c1, c2⟩ := h.own.tmCells ht
  have hz : 0 < T.length := by have := lt_of_get ht; omega
  exact ⟨c0, c1, c2, h.own.frozenAt hz _, h.own.frozenAt hz _, h.blk.cell 0, h.blk.cell 1⟩
end
/-- Behind j timers of a tick. -/
def tickJ (most : Int) (T : List Tm) (j : Nat) : List Tm := (T.take j).map (tick1 most) ++ T.drop j
theorem tickJ_get {most : Int} {T : List Tm} {j : Nat} {t : Tm} (h : T[j]? = some t) : (tickJ most T j)[j]? = some t := by
  have hj := lt_of_get h
  unfold tickJ
  have hl : ((T.take j).map (tick1 most)).length = j := by simp; omega
  rw [List.getElem?_append_right (by omega), hl, Nat.sub_self, List.getElem?_drop, Nat.add_zero, h]
theorem tickJ_set {most : Int} {T : List Tm} {j : Nat} {t : Tm} (h : T[j]? = some t) : (tickJ most T j).set j (tick1 most t) = tickJ most T (j + 1) := by
  have hj := lt_of_get h
  unfold tickJ
  have hl : ((T.take j).map (tick1 most)).length = j := by simp; omega
  rw [List.set_append_right _ _ (by omega), hl, Nat.sub_self, take_succ_of h, List.map_append, List.append_assoc]
  congr 1
  rw [List.drop_eq_getElem_cons hj]
  rfl
theorem tickJ_all (most : Int) (T : List Tm) : tickJ most T T.length = tickT most T := by unfold tickJ tickT; simp
set_option maxRecDepth 100000
section
set_option maxHeartbeats 1000000 in
theorem rtClear_any (w : World) (gr : Nat) (most : Int) (T : List Tm) (h : RtAt w gr most T) (hT : T.length ≤ 100000) (k : Int) :
    Calls Try.prog 64 #[.pointer (some ⟨gr, 0, none⟩), .int .i64 k] w fun e w' => e = .returned (.bool (tfound T k)) ∧ RtAt w' gr most (tdel T k) ∧ Below gr w w' ∧ RtFr w w' gr := by
  have HAT := hid (rtAt_any w gr most T h k)
  have HIS := hid (tdel_is T k)
  have hpl := tplace_le T k
  have h0 := h
  have HFO : Wall (tfound T k = true → tplace T k < T.length) := hid (fun hf => by
    unfold tfound at hf
    cases hx : T[tplace T k]? with
    | none => rw [hx] at hf; cases hf
    | some t => exact lt_of_get hx)
  obtain ⟨v, hb, hown⟩ := h
  have hblt := hb.lt
  have e1 : w.cell? ⟨gr, 1, none⟩ = some v := hb.cell 1
  have HB := hid hb
  obtain ⟨A, c, hv, hc1, hc2, hrow⟩ := hown.form
  cases hf : tfound T k with
  | false =>
    rw [hf] at HAT
    have HF := hid hf
    have H0 := hid h0
    clear hb hown hf h0 hv hrow HFO e1
    go_enter Try.func64, Try.ntmps64
    go_wp2_with (go_at_call 65; refine HAT.out.mono ?_; rintro e w1 ⟨rfl, d, hw1⟩; have hx1 : Ext w w1 := (by rw [hw1]; exact ext_drewN _ _); clear hw1)
    go_ret
    refine ⟨rfl, ?_, hx1.mono (by omega), RtFr.of_ext HB.out hx1⟩
    rw [HIS.out, if_neg (by rw [HF.out]; decide)]
    exact H0.out.ext hx1
  | true =>
    have hlt := HFO.out hf
    rw [hf] at HAT
    have HF := hid hf
    subst hv
    obtain ⟨n, hn⟩ : ∃ n, n = T.length := ⟨_, rfl⟩
    rw [← hn] at e1 hrow hc1 hpl hT hlt
    have HOW := hid hown
    obtain ⟨pl, hp⟩ : ∃ pl, pl = tplace T k := ⟨_, rfl⟩
    rw [← hp] at HAT HIS hpl hlt
    have hst := hown.slice
    rw [← hn] at hst
    obtain ⟨A1, hr1, hs1⟩ := cut_to (P := Try.prog) Try.underlying87 elem_tm hst (k := pl) hpl
    obtain ⟨A2, hr2, hs2⟩ := cut_from (P := Try.prog) Try.underlying87 elem_tm hst (k := pl + 1) hlt
    have hr2' : ∀ w, (Instr.sliceAt 87 (.slice A n c) (some (.int .i64 ((pl : Int) + 1))) none none).run Try.prog w = .ok (.slice A2 (n - (pl + 1)) (c - (pl + 1))) w := fun w => by have := hr2 w; rwa [Int.natCast_add] at this
    have HN := hid hn
    have hl1 : (T.take pl).length = pl := by rw [List.length_take, ← hn]; omega
    have hl2 : (T.drop (pl + 1)).length = n - (pl + 1) := by rw [List.length_drop, ← hn]
    have HL1 := hid hl1
    have HL2 := hid hl2
    clear hb hown hf hn hp hrow HFO hst hl1 hl2 h0 hr2
    go_enter Try.func64, Try.ntmps64
    go_upto_region 3 with (go_at_call 65; refine HAT.out.mono ?_; rintro e w2 ⟨rfl, d, hw1⟩; have hxa : Ext w w2 := (by rw [hw1]; exact ext_drewN _ _); have f2 := (hxa.cell hblt 1).trans e1; clear hw1)
    have hgx : gr < w2.heap.size := by have := hxa.size; omega
    go_upto_region 4 with (at_builtin; refine wpl_app (r := repTm) (base := w2.heap.size) (v := .slice (some ⟨w2.heap.size, 0, none⟩) 0 0) (xs := []) (news := T.take pl) _ _ rfl rfl Try.underlying87 elem_tm (by decide) (own_lit (xs := []) (Nat.le_refl _) (by simp [maxLen]) (by simp) (by simp)) ((hs1.off (Ext.trans hxa (ext_alloc w2 _)) (by simp [Value.ownBlock]; exact hxa.size)).flat flat_tm) rfl rfl (by have := HL1.out; simp; omega) (by have := HL1.out; simp [maxLen]; omega) (by simp) ?_; intro v3 w3 hown3 hg3 _)
    have hx3 : Ext w2 w3 := Below.grown (ext_alloc w2 _) hg3 (by simp) (by simp [Value.ownBlock])
    have hown4 : Own repTm 91 w2.heap.size w3 v3 (T.take pl) := by simpa using hown3
    have f4 := (hx3.cell hgx 1).trans f2
    have hxw4 := Ext.trans hxa hx3
    clear hown3 hg3 f2
    go_wp2_with (at_builtin; refine wpl_app (r := repTm) (base := w2.heap.size) (xs := T.take pl) (news := T.drop (pl + 1)) _ _ rfl rfl Try.underlying87 elem_tm (by decide) hown4 ((hs2.off hxw4 (fun b hb => Nat.le_trans hxa.size (hown4.lt b hb).1)).flat flat_tm) rfl rfl (by rw [HL1.out, HL2.out]; omega) (by rw [HL1.out, HL2.out]; simp only [maxLen]; omega) (by have := hx3.size; omega) ?_; intro v5 w5 hown5 hg5 _; obtain ⟨NL, hNL⟩ : ∃ NL, NL = T.take pl ++ T.drop (pl + 1) := ⟨_, rfl⟩; rw [← hNL] at hown5; have HNL := hid hNL; clear hNL; obtain ⟨A5, c5, rfl, _⟩ := hown5.form; have hx5 : Ext w w5 := Below.grown hxw4 hg5 hxw4.size (fun b hb => Nat.le_trans hxa.size (hown4.lt b hb).1); have hb5 := HB.out.ext hx5; have f5 := hb5.cell 1; have f6 := hb5.frozen 1)
    go_ret
    have hs := hb5.set_ 1 (.slice A5 NL.length c5)
    have ho : Only gr w5 (w5.setCell ⟨gr, 1, none⟩ (.slice A5 NL.length c5)) := (Only.refl _ _).set_ _ _
    refine ⟨rfl, ⟨_, hs, ?_⟩, ?_, (Out.of_ext hx5).trans (Out.of_only ho (.inl rfl)), fun q hq => ?_⟩
    rotate_right
    · rcases (rtOwn_is hs _).1 hq with e | e
      · exact .inl (.inl e)
      · exact .inr (by have := (hown5.lt q e).1; have := hxa.size; omega)
    · rw [HIS.out, if_pos HF.out]
      have h6 := (hown5.out (X := fun b => b = gr) (Out.of_only ho rfl) (fun b hb => by omega)).lowT (base' := gr + 1) (by omega)
      rw [HNL.out] at h6 ⊢
      simpa using h6
    · exact Below.grown (hx5.mono (by omega)) ho (by have := hx5.size; omega) (fun b hb => by injection hb with hb; omega)
set_option maxHeartbeats 2000000 in
theorem rtTick_any (w : World) (gr : Nat) (most : Int) (T : List Tm) (h : RtAt w gr most T) (hT : T.length ≤ 100000) (hm : most ≤ 64) (ht : TmOk most T) (B : Nat) (hB : ∀ v, Blk w gr 89 #[.int .i64 most, v] → ∀ k, v.ownBlock = some k → k < B) :
    Calls Try.prog 61 #[.pointer (some ⟨gr, 0, none⟩)] w fun e w' => ∃ u, e = .returned u ∧ IsSlice (repInt .i64) w' (fresh w w') u (dueT T) ∧ RtAt w' gr most (tickT most T) ∧ Out (fun k => gr < k ∧ k < B) w w' ∧ RtFr w w' gr := by
  obtain ⟨v, hb, hown⟩ := h
  have hblt := hb.lt
  by_cases h0 : T.length = 0
  · have hT0 : T = [] := List.length_eq_zero_iff.1 h0
    subst hT0
    obtain ⟨A, c, rfl, _, _, _⟩ := hown.form
    have e1 : w.cell? ⟨gr, 1, none⟩ = some (.slice A 0 c) := hb.cell 1
    have HB := hid hb
    have HO := hid hown
    clear hb hown h0 ht hT hB
    go_enter Try.func61, Try.ntmps61
    go_wp2
    go_loop [3, 4] (fun d i => d = .slice none 0 0 ∧ i = .int .i64 0) (fun _ _ => 0)
    case atStart => exact ⟨rfl, rfl⟩
    case round =>
      obtain ⟨rfl, rfl⟩ := hrel
      go_wp2
      go_ret
      exact ⟨.slice none 0 0, rfl, isSlice_nil (repInt .i64) _ _, ⟨_, HB.out, HO.out⟩, Out.refl _ _, RtFr.of_ext HB.out (Below.refl _ _)⟩
  · obtain ⟨g, c, rfl, hg1, hg2, hc1, hc2, _⟩ := hown.blockOf (by omega)
    have hrun0 : RtRun w w gr g T.length c most (.slice none 0 0) (tickJ most T 0) (dueT (T.take 0)) := ⟨hb, by simpa [tickJ] using hown, own_nil _ _ _ _, Only.refl _ _, Nat.le_refl _, by omega, hg2⟩
    obtain ⟨n, hn⟩ : ∃ n, n = T.length := ⟨_, rfl⟩
    rw [← hn] at hrun0 hT
    have HN := hid hn
    have HT := hid ht
    have H0 := hid hrun0
    unfold maxLen at hc2
    have hgg : gr < g := by omega
    have hgB : g < B := hB _ hb g rfl
    have i1 : w.cell? ⟨gr, 1, none⟩ = some (.slice (some ⟨g, 0, none⟩) n c) := hrun0.blk.cell 1
    clear hb hown h0 ht hc1 hn hrun0 hg1 hB
    go_enter Try.func61, Try.ntmps61
    go_wp2
    go_loopw [3, 4] (fun dv i wr => ∃ j : Nat, j ≤ n ∧ i = .int .i64 j ∧ RtRun w wr gr g n c most dv (tickJ most T j) (dueT (T.take j))) (fun _ i _ => n - (intOf i).toNat)
    case atStart => exact ⟨0, Nat.zero_le _, rfl, H0.out⟩
    case round =>
      obtain ⟨j, hj, rfl, hr⟩ := hrel
      by_cases hlt : j < n
      · have hjT : j < T.length := by have := HN.out; omega
        have hx : T[j]? = some T[j] := List.getElem?_eq_getElem hjT
        obtain ⟨t, hte⟩ : ∃ t, t = T[j] := ⟨_, rfl⟩
        rw [← hte] at hx
        obtain ⟨_, b1, b2, b3⟩ := HT.out.ok t (List.mem_of_getElem? hx)
        have hgx := tickJ_get (most := most) hx
        have hsx := tickJ_set (most := most) hx
        have hdx := dueT_step hx
        obtain ⟨c0, c1, c2, z1, z2, d0, d1⟩ := hr.cells hgx
        have hzr := hr.sz
        have hlr := hr.hi
        by_cases hl : 0 < t.left - 1
        · have ht1 : tick1 most t = ⟨t.key, t.left - 1, t.span⟩ := by unfold tick1; rw [if_pos hl]
          have hdu : isDue t = false := decide_eq_false (by omega)
          rw [ht1] at hsx
          rw [hdu] at hdx
          have hB : decide (0 < t.left - 1) = true := decide_eq_true hl
          have HR := hid (hr.set ⟨t.key, t.left - 1, t.span⟩ hgx (q := 1) (by decide) (.int .i64 (t.left - 1)) (p := j * 3 + 1) rfl rfl)
          rw [hsx] at HR
          have HD := hid hdx
          obtain ⟨tl, htl⟩ : ∃ tl, tl = t.left := ⟨_, rfl⟩
          rw [← htl] at c1 hB HR hl b1 b2
          clear hx hgx hsx hdx hdu ht1 hte htl hr
          go_wp2
          go_roundw
          case rel =>
            refine ⟨j + 1, by omega, by go_num, ?_⟩
            rw [HD.out]
            simpa using HR.out
          case measure => simp [intOf]; omega
        · have htl1 : t.left = 1 := by omega
          have hdu : isDue t = true := decide_eq_true (by omega)
          have hwf := (HT.out.ok t (List.mem_of_getElem? hx)).1
          rw [hdu, if_pos rfl] at hdx
          have hB : decide (0 < t.left - 1) = false := decide_eq_false hl
          have hr1 := hr.set ⟨t.key, 0, t.span⟩ hgx (q := 1) (by decide) (.int .i64 0) (p := j * 3 + 1) rfl rfl
          have hg1 : ((tickJ most T j).set j ⟨t.key, 0, t.span⟩)[j]? = some ⟨t.key, 0, t.span⟩ := by rw [List.getElem?_set_self (lt_of_get hgx)]
          obtain ⟨sp, hsp⟩ : ∃ sp, sp = min (2 * t.span) most := ⟨_, rfl⟩
          have ht1 : tick1 most t = ⟨t.key, sp, sp⟩ := by unfold tick1; rw [if_neg hl, hsp]
          rw [ht1] at hsx
          obtain ⟨k, hk⟩ : ∃ k, k = t.key := ⟨_, rfl⟩
          obtain ⟨s0, hs0⟩ : ∃ s0, s0 = t.span := ⟨_, rfl⟩
          rw [← hk, ← hs0] at hr1 hg1
          rw [htl1] at c1
          rw [← hk] at c0 hsx hdx hwf
          rw [← hs0] at c2 hsp b2 b3
          have HSX := hid hsx
          have HDX := hid hdx
          have HR1 := hid hr1
          have HG1 := hid hg1
          have HWF := hid hwf
          have HSP := hid hsp
          have hb1 : 1 ≤ s0 := by omega
          clear hx hgx hsx hdx hdu ht1 hte hr1 hg1 hB hwf hk hs0 hr hsp b1 b2 htl1 hl
          obtain ⟨e0, e1, e2, y1, y2, f0, f1⟩ := HR1.out.cells HG1.out
          go_upto_region 8 with (fail)
          have hz1 := HR1.out.sz
          generalize wr.setCell ⟨g, j * 3 + 1, none⟩ (.int .i64 0) = w1 at *
          have hDl := dueT_len (T.take j)
          rw [List.length_take] at hDl
          obtain ⟨D, hD⟩ : ∃ D, D = dueT (T.take j) := ⟨_, rfl⟩
          rw [← hD] at HR1 HDX hDl
          clear hD c0 c1 c2 z1 z2 d0 d1 y1 y2
          go_upto_region 9 with (at_builtin; refine wpl_app1 (r := repInt .i64) (base := w.heap.size) (x := k) (cs := #[.int .i64 k]) _ _ rfl rfl Try.underlying44 info_intT (by decide) HR1.out.due rfl rfl rfl ⟨rfl, HWF.out⟩ (by omega) (by simp only [maxLen]; omega) hz1 ?_; intro v2 w2 hown2 hg2)
          have hr2 := HR1.out.app hg2 hown2
          have hj3 : j < ((tickJ most T j).set j ⟨k, 0, s0⟩).length := lt_of_get HG1.out
          have HR2 := hid hr2
          have HR3 := hid (hr2.set ⟨k, 0, 2 * s0⟩ HG1.out (q := 2) (by decide) (.int .i64 (2 * s0)) (p := j * 3 + 2) rfl rfl)
          have hg3 : (((tickJ most T j).set j ⟨k, 0, s0⟩).set j ⟨k, 0, 2 * s0⟩)[j]? = some ⟨k, 0, 2 * s0⟩ := by rw [List.getElem?_set_self hj3]
          have HG3 := hid hg3
          obtain ⟨c0, c1, c2, z1, z2, d0, d1⟩ := hr2.cells HG1.out
          clear hr2 hg3 hg2 hown2 hj3 e0 e1 e2 f0 f1
          go_upto_region 10 with (fail)
          obtain ⟨e0, e1, e2, y1, y2, f0, f1⟩ := HR3.out.cells HG3.out
          have HX0 := hid (fun q => (HR3.out).ext (ext_drewN _ q))
          generalize w2.setCell ⟨g, j * 3 + 2, none⟩ (.int .i64 (2 * s0)) = w3 at *
          clear HR1 HR2 HR3 c0 c1 c2 z1 z2 d0 d1
          have hset : ∀ a b : Tm, ((((tickJ most T j).set j ⟨k, 0, s0⟩).set j ⟨k, 0, 2 * s0⟩).set j a).set j b = (tickJ most T j).set j b := fun a b => by simp only [List.set_set]
          have hset1 : ∀ b : Tm, (((tickJ most T j).set j ⟨k, 0, s0⟩).set j ⟨k, 0, 2 * s0⟩).set j b = (tickJ most T j).set j b := fun b => by simp only [List.set_set]
          have HS := hid hset
          have HS1 := hid hset1
          clear hset hset1
          by_cases hc : most < 2 * s0
          · have hcB : decide (most < 2 * s0) = true := decide_eq_true hc
            have hsp : sp = most := by have := HSP.out; omega
            subst hsp
            clear HSP hc
            go_quiet (fail)
            go_upto_region 11 with (fail)
            have HX3 := hid (HX0.out nq)
            obtain ⟨c0, c1, c2, z1, z2, d0, d1⟩ := HX3.out.cells HG3.out
            clear HX0
            generalize w3.drewN nq = w4 at *
            clear e0 e1 e2 y1 y2 f0 f1 hcB
            have HR5 := hid (HX3.out.set ⟨k, 0, sp⟩ HG3.out (q := 2) (by decide) (.int .i64 sp) (p := j * 3 + 2) rfl rfl)
            have hg5 : ((((tickJ sp T j).set j ⟨k, 0, s0⟩).set j ⟨k, 0, 2 * s0⟩).set j ⟨k, 0, sp⟩)[j]? = some ⟨k, 0, sp⟩ := by rw [List.getElem?_set_self (lt_of_get HG3.out)]
            have HG5 := hid hg5
            clear hg5
            have HR6 := hid (HR5.out.set ⟨k, sp, sp⟩ HG5.out (q := 1) (by decide) (.int .i64 sp) (p := j * 3 + 1) rfl rfl)
            go_wp2
            go_roundw
            case rel =>
              refine ⟨j + 1, by omega, by go_num, ?_⟩
              have h6 := HR6.out
              rw [HS.out, HSX.out, ← HDX.out] at h6
              exact h6
            case measure => simp [intOf]; omega
          · have hcB : decide (most < 2 * s0) = false := decide_eq_false hc
            have hsp : sp = 2 * s0 := by have := HSP.out; omega
            subst hsp
            clear HSP
            go_quiet (fail)
            go_upto_region 12 with (fail)
            have HX3 := hid (HX0.out nq)
            obtain ⟨c0, c1, c2, z1, z2, d0, d1⟩ := HX3.out.cells HG3.out
            clear HX0
            generalize w3.drewN nq = w4 at *
            clear e0 e1 e2 y1 y2 f0 f1 hcB
            have HR6 := hid (HX3.out.set ⟨k, 2 * s0, 2 * s0⟩ HG3.out (q := 1) (by decide) (.int .i64 (2 * s0)) (p := j * 3 + 1) rfl rfl)
            go_wp2
            go_roundw
            case rel =>
              refine ⟨j + 1, by omega, by go_num, ?_⟩
              have h6 := HR6.out
              rw [HS1.out, HSX.out, ← HDX.out] at h6
              exact h6
            case measure => simp [intOf]; omega
      · obtain rfl : j = n := by omega
        have d1 := hr.blk.cell 1
        have HR := hid hr
        clear hr
        go_wp2
        go_ret
        have hr := HR.out
        have e2 := HN.out
        subst e2
        rw [tickJ_all, List.take_length] at hr
        obtain ⟨_, _⟩ := (⟨hr.sz, hr.lo⟩ : _ ∧ _)
        exact ⟨_, rfl, hr.due.fresh, ⟨_, hr.blk, hr.own⟩, Out.of_only hr.only ⟨hgg, hgB⟩, Out.of_only hr.only ((rtOwn_is H0.out.blk _).2 (.inr rfl)), fun q hq => .inl ((rtOwn_is H0.out.blk _).2 ((rtOwn_is hr.blk _).1 hq))⟩
end
end Go.Proofs.Ytimlbebockfioaa
