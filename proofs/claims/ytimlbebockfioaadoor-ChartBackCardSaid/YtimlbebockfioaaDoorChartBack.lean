/- The law ChartBack: its walk. -/
import Derived.Test.YtimlbebockfioaaDoorChartLi
import Derived.Test.YtimlbebockfioaaDoorChartReads
namespace Go.Proofs.YtimlbebockfioaaDoor
open Go.RowKit

section
variable {P : Program} {α : Type} {r : Rep α} {w : World} {ops : Array Oper} {rest : List Oper} {o : Oper} {a : Act} {Q : Exit → Act → World → Prop}
/-- As wpl_app1; and whose block the row lies in. -/
theorem wpl_app1o {base g : Nat} {t e : TypeId} {bytes : Nat} {v : Value} {xs : List α} {x : α} {cs : Array Value} (s y : Operand) (hgd : o.guard = none)
    (ho : o.op = .call { callee := .builtin .append, args := #[s, y], argTypes := #[t, t] }) (ht : P.underlying t = some (.slice e)) (hi : ElemInfo P e r.size bytes) (hsz : 0 < r.size)
    (hown : Own r e base w v xs) (hs : a.eval s = v) (hx : a.eval y = .slice (some ⟨g, 0, none⟩) 1 1) (hg : g = w.heap.size) (hu : r.holds w (el base w v) cs.toList x)
    (hbytes : (xs.length + 1) * bytes ≤ 140737488355328) (h63 : xs.length + 1 ≤ maxLen) (hbase : base ≤ w.heap.size)
    (h : ∀ v' w', Own r e base w' v' (xs ++ [x]) → w.grownBy w' v.ownBlock → (∀ q, v'.ownBlock = some q → v.ownBlock = some q ∨ w.heap.size ≤ q) → wpList P ops Q rest (a.put o.dst v') w') : wpList P ops Q (o :: rest) a (w.alloc (.cells cs e)) := by
  subst hg
  refine wpl_app s y hgd ho ht hi hsz (hown.ext (ext_alloc w _)) (isSlice_one hu fun k hk => (hown.lt k hk).2) hs hx hbytes h63 (by simp; omega) fun v' w' h1 h2 h3 => h v' w' h1 ?_ fun q hq => ?_
  · exact ⟨h2.os, h2.tape, h2.output, Nat.le_trans (by simp) h2.size, fun k hk hne => (h2.block k (by simp; omega) hne).trans (Below.heap_alloc w _ k hk)⟩
  · rcases h3 with h3 | h3
    · exact .inl (h3 ▸ hq)
    · rw [hq] at h3
      injection h3 with h3
      simp at h3
      exact .inr (by omega)
end
theorem lines_ok (l : List Ev) : AllOk (linesL l) (l.filter showable) := by
  unfold AllOk linesL
  rw [List.map_map]
  apply List.map_congr_left
  intro e he
  have hs := (List.mem_filter.1 he).2
  exact parse_show hs
theorem lines_size {l : List Ev} (hd : ∀ x ∈ l, x.data.length ≤ 200) {x : ByteArray} (hx : x ∈ linesL l) : x.size ≤ 1000 := by
  unfold linesL at hx
  obtain ⟨e, he, rfl⟩ := List.mem_map.1 hx
  have := showG_len (hd e (List.mem_filter.1 he).1)
  rw [bstr_size]
  omega
set_option maxRecDepth 100000
section
set_option maxHeartbeats 4000000 in
theorem chartBack_any (v : Value) (l : List Ev) (w : World) (HL : Laid w) (h : IsSlice repEv w (all w) v l) :
    Calls Tryd.prog 5 #[v] w fun e w' => e = .returned (.bool true) ∧ Ext w w' := by
  have HV := hid h
  have HHG := hid (hugeE_any v l w h)
  obtain ⟨A, n, c, rfl, hnc, hcm, hrow⟩ := h
  have hn := hrow.1
  have HN := hid hn
  have HLL := hid HL
  have HLV := hid fun W (he : Ext w W) => live35_any W (HL.ext he)
  clear hn HL
  obtain ⟨hg, hhg⟩ : ∃ hg, hg = hugeE l := ⟨_, rfl⟩
  rw [← hhg] at HHG
  cases hg with
  | true =>
    clear hhg
    go_enter Tryd.func5, Tryd.ntmps5
    go_wp2_with (first
      | (go_at_call 15; refine HHG.out.mono ?_; rintro e w2 ⟨rfl, rfl⟩)
      | (go_at_call 7; refine (HLV.out _ (Below.refl _ _)).mono ?_; rintro e w8 ⟨rfl, hx8⟩))
    go_ret
    exact ⟨rfl, hx8⟩
  | false =>
    obtain ⟨hl1, hd1⟩ := hugeE_no hhg.symm
    have HD := hid hd1
    have hn1 : n ≤ 100 := by have := HN.out; omega
    clear hhg hl1 hd1
    go_enter Tryd.func5, Tryd.ntmps5
    go_wp2_with (go_at_call 15; refine HHG.out.mono ?_; rintro e w2 ⟨rfl, rfl⟩)
    go_loopw [3, 4] (fun u i wr => ∃ j : Nat, j ≤ n ∧ i = .int .i64 (j : Int) ∧ Wall (Own repEv 24 0 wr u ((l.take j).filter showable) ∧ (∀ q, u.ownBlock = some q → w.heap.size ≤ q) ∧ Ext w wr)) (fun _ i _ => n - (intOf i).toNat)
    case atStart => exact ⟨0, Nat.zero_le _, rfl, hid ⟨own_nil _ _ _ _, fun q hq => (by cases hq), Below.refl _ _⟩⟩
    case round =>
      obtain ⟨j, hj, rfl, HP⟩ := hrel
      by_cases hjl : j < n
      · obtain ⟨b, off, x, A1, m1, c1, hA, hbW, hx, hm1c, hm1m, hr1, r0, r1, r2, r3⟩ := hrow.ev hjl
        subst hA
        have hs : IsSlice repByte w (all w) (.slice A1 m1 c1) x.data := ⟨_, _, _, rfl, hm1c, hm1m, hr1⟩
        have hm := hr1.1
        have p0 := (HP.out.2.2.cell hbW _).trans r0
        have p1 := (HP.out.2.2.cell hbW _).trans r1
        have p2 := (HP.out.2.2.cell hbW _).trans r2
        have p3 := (HP.out.2.2.cell hbW _).trans r3
        have hxd := HD.out x (List.mem_of_getElem? hx)
        have hct : (l.take (j + 1)).filter showable = (l.take j).filter showable ++ (if showable x = true then [x] else []) := by
          rw [take_succ_of hx, List.filter_append]
          congr 1
          by_cases h : showable x = true
          · simp [h]
          · have h2 : showable x = false := by simpa using h
            simp [h2]
        have hll : ((l.take j).filter showable).length ≤ 100 := by
          have := List.length_filter_le showable (l.take j)
          rw [List.length_take] at this
          omega
        have HE := hid fun w1 (he : Ext wr w1) => (⟨(he.cell (lt_of_cell' p0) _).trans p0, (he.cell (lt_of_cell' p0) _).trans p1, (he.cell (lt_of_cell' p0) _).trans p2, (he.cell (lt_of_cell' p0) _).trans p3⟩ : w1.cell? ⟨b, off + j * 4, none⟩ = some (.int .i64 x.step) ∧ w1.cell? ⟨b, off + j * 4 + 1, none⟩ = some (.int .i64 x.kind) ∧ w1.cell? ⟨b, off + j * 4 + 2, none⟩ = some (.int .i64 x.place) ∧ w1.cell? ⟨b, off + j * 4 + 3, none⟩ = some (.slice A1 m1 c1))
        have HS := hid hs
        obtain ⟨xs, xk, xp, xd⟩ := x
        simp only at p0 p1 p2 p3 hct hxd hm HE HS
        have HSH := hid (show_any xs xk xp _ xd wr (HLL.out.ext HP.out.2.2) (hs.ext HP.out.2.2) (by omega))
        obtain ⟨T, hT⟩ : ∃ T, T = bstr (showG ⟨xs, xk, xp, xd⟩) := ⟨_, rfl⟩
        rw [← hT] at HSH
        have hTl : T.toList = showG ⟨xs, xk, xp, xd⟩ := by rw [hT, bstr_list]
        obtain ⟨L, hL⟩ : ∃ L, L = (l.take j).filter showable := ⟨_, rfl⟩
        rw [← hL] at HP hll hct
        clear hx hxd hT hL hs hm hm1c hm1m hr1 r0 r1 r2 r3
        by_cases hsb : showable ⟨xs, xk, xp, xd⟩ = true
        · have e0 : T.toList ≠ [] := by rw [hTl]; exact show_ne hsb
          have e1 : T.toList.isEmpty = false := by simpa using e0
          rw [if_pos hsb] at hct
          have HCT := hid hct
          clear hsb hTl hct
          go_upto_region 8 with (go_at_call 10; refine HSH.out.mono ?_; rintro e w5 ⟨rfl, hx5⟩)
          clear p0 p1 p2 p3
          obtain ⟨p0, p1, p2, p3⟩ := HE.out w5 hx5
          have hold : repEv.holds w5 (el 0 w5 u3) [.int .i64 xs, .int .i64 xk, .int .i64 xp, .slice A1 m1 c1] ⟨xs, xk, xp, xd⟩ := ⟨_, rfl, HS.out.keep fun k hk => ⟨⟨Nat.zero_le _, Nat.lt_of_lt_of_le hk (Ext.trans HP.out.2.2 hx5).size, fun e => by have := HP.out.2.1 k e; have hk2 : k < w.heap.size := hk; omega⟩, fun o => (Ext.trans HP.out.2.2 hx5).cell hk o⟩⟩
          have HB := hid (⟨HP.out.1.ext hx5, hold, Ext.trans HP.out.2.2 hx5⟩ : Own repEv 24 0 w5 u3 L ∧ repEv.holds w5 (el 0 w5 u3) [.int .i64 xs, .int .i64 xk, .int .i64 xp, .slice A1 m1 c1] ⟨xs, xk, xp, xd⟩ ∧ Ext w w5)
          clear hx5 hold
          go_wp2_with (at_builtin; refine wpl_app1o (r := repEv) (base := 0) (x := ⟨xs, xk, xp, xd⟩) (cs := #[.int .i64 xs, .int .i64 xk, .int .i64 xp, .slice A1 m1 c1]) _ _ rfl rfl Tryd.underlying34 info_ev (by decide) HB.out.1 rfl rfl rfl HB.out.2.1 (by omega) (by simp only [maxLen]; omega) (Nat.zero_le _) ?_; intro v' w9 hown9 hg9 hq9)
          go_roundw
          case rel => exact ⟨j + 1, by omega, by go_num, hid ⟨by rw [HCT.out]; exact hown9, fun q hq => (hq9 q hq).elim (fun h => HP.out.2.1 q h) fun h => Nat.le_trans HB.out.2.2.size h, Below.grown HB.out.2.2 hg9 HB.out.2.2.size (fun k hk => HP.out.2.1 k hk)⟩⟩
          case measure => simp [intOf]; omega
        · have e0 : T.toList = [] := by rw [hTl]; exact showG_neg (by simpa using hsb)
          have e1 : T.toList.isEmpty = true := by rw [e0]; rfl
          rw [if_neg hsb, List.append_nil] at hct
          have HCT := hid hct
          clear hsb hTl hct
          go_wp2_with (go_at_call 10; refine HSH.out.mono ?_; rintro e w5 ⟨rfl, hx5⟩)
          go_roundw
          case rel => exact ⟨j + 1, by omega, by go_num, hid ⟨by rw [HCT.out]; exact HP.out.1.ext hx5, HP.out.2.1, Ext.trans HP.out.2.2 hx5⟩⟩
          case measure => simp [intOf]; omega
      · obtain rfl : j = n := by omega
        rw [List.take_of_length_le (by rw [HN.out]; exact Nat.le_refl _)] at HP
        have hus := HP.out.1.slice
        have HX := hid HP.out.2.2
        have HLI := hid (lines_any _ l wr (HLL.out.ext HP.out.2.2) (HV.out.ext HP.out.2.2) (by have := HN.out; omega) HD.out)
        obtain ⟨A3, c3, rfl⟩ := hus.shape
        have HUS := hid hus
        have hq : (linesL l).length = (l.filter showable).length := by unfold linesL; rw [List.length_map]
        have HQ := hid hq
        clear hus HP hq
        go_upto_region 10 with (first
          | (go_at_call 16; refine HLI.out.mono ?_; rintro e w5 ⟨u5, rfl, hu5, hx5⟩; have HRD := hid (read_any u5 (linesL l) w5 (HLL.out.ext (Ext.trans HX.out hx5)) hu5.any (by have := linesL_len l; have := HN.out; omega) (fun k y es hy _ => lines_size HD.out (List.mem_of_getElem? hy))))
          | (go_at_call 14; refine HRD.out.mono ?_; rintro e w6 ⟨u9, n9, f9, evs9, rfl, ho9, hs9, hx9⟩))
        obtain ⟨q1, q2, q3⟩ := ReadOut.unique (.inl ⟨rfl, rfl, lines_ok l⟩) ho9
        subst q1 q3
        rw [HQ.out] at q2
        subst q2
        have hx56 := Ext.trans hx5 hx9
        have HS9 := hid (sameEv_any _ _ _ w6 hs9.any (HUS.out.ext hx56))
        have HX9 := hid hx56
        clear ho9 hs9 hx9 hx5 hx56 HRD hu5
        generalize (l.filter showable).length = q at *
        go_wp2_with (first
          | (go_at_call 12; refine (cnum_any _ _).mono ?_; rintro e w12 ⟨rfl, rfl⟩)
          | (go_at_call 13; refine HS9.out.mono ?_; rintro e w13 ⟨rfl, hx13⟩)
          | (go_at_call 7; refine (HLV.out _ (Ext.trans HX.out (Ext.trans HX9.out hx13))).mono ?_; rintro e w14 ⟨rfl, hx14⟩))
        go_ret
        exact ⟨rfl, Ext.trans (Ext.trans HX.out (Ext.trans HX9.out hx13)) hx14⟩
end
end Go.Proofs.YtimlbebockfioaaDoor
