/- The walk of the program's reading of a line. -/
import Derived.Test.YtimlbebockfioaaDoorChartN
import Derived.Test.YtimlbebockfioaaDoorRowOps
namespace Go.Proofs.YtimlbebockfioaaDoor
open Go.RowKit

/-- How a line's reading ends. -/
def ParseRes (l : List UInt8) (w : World) : Ending → World → Prop := fun e w' => ∃ (ev : Ev) (v : Value) (n : Int), e = .returned (.tuple #[.agg #[.int .i64 ev.step, .int .i64 ev.kind, .int .i64 ev.place, v], .int .i64 n]) ∧
  ((n = 0 ∧ parseG l = some ev) ∨ (n = 320 ∧ parseG l = none ∧ ev = ⟨0, 0, 0, []⟩)) ∧ IsSlice repByte w' (fresh w w') v ev.data ∧ Ext w w'
theorem parseG_len {l : List UInt8} (h : (wordsL l).length ≠ 4) : parseG l = none := by
  unfold parseG
  split
  · rename_i hw; rw [hw] at h; exact absurd rfl h
  · rfl
theorem four {α : Type} {l : List α} (h : l.length = 4) : ∃ a b c d, l = [a, b, c, d] := by
  match l, h with
  | [a, b, c, d], _ => exact ⟨a, b, c, d, rfl⟩
theorem results_row_tmpD {P : Program} {fn : Func} {p q : Tmp} {t1 : TypeId} (h : fn.results = #[.cell p t1, .tmp q]) (tmps : Array Value) (w : World) (g : Nat) (t : TypeId) (cs : Array Value) (v : Value) (d : TypeDesc)
    (hp : tmps.getD p undef = .pointer (some ⟨g, 0, none⟩)) (hg : Blk w g t cs)
    (hu : P.underlying t1 = some d) (hd : (match d with | .struct _ | .array _ _ => true | _ => false) = true) (hi : (P.info? t1).map (·.size) = some cs.size)
    (hq : tmps.getD q undef = v) :
    (results fn tmps).run P w = .ok (.tuple #[.agg cs, v]) w := by
  have hp' : tmps[p]?.getD undef = .pointer (some ⟨g, 0, none⟩) := by simpa using hp
  have hq' : tmps[q]?.getD undef = v := by simpa using hq
  have e1 : (loadVar t1 ⟨g, 0, none⟩).run P w = .ok (.agg cs) w := by first | exact run_loadVar_row w g t t1 cs (0, 0) d hg hu hd hi | exact run_loadVar_row w g t1 t cs (0, 0) d hg hu hd hi
  simp only [results, h, asAddr, Sem.run_bind, Sem.run_pure]
  simp [hp', hq', e1]
/-- Where a reading stands: the result's block, what is well so far, the event so far, the words. -/
structure PS (w : World) (g2 g5 g7 bs off : Nat) (a b c d : List UInt8) (al : Bool) (E : Array Value) (W : World) : Prop where
  b2 : Blk W g2 24 #[.int .i64 0, .int .i64 0, .int .i64 0, .slice none 0 0]
  b5 : Blk W g5 4 #[.bool al]
  b7 : Blk W g7 24 E
  n2 : g2 ≠ g5 ∧ g2 ≠ g7 ∧ g5 ≠ g7 ∧ bs ≠ g5 ∧ bs ≠ g7 ∧ bs ≠ g2
  r0 : W.cell? ⟨bs, off, none⟩ = some (.string (bstr a))
  r1 : W.cell? ⟨bs, off + 1, none⟩ = some (.string (bstr b))
  r2 : W.cell? ⟨bs, off + 2, none⟩ = some (.string (bstr c))
  r3 : W.cell? ⟨bs, off + 3, none⟩ = some (.string (bstr d))
  x : Ext w W
  ge : w.heap.size ≤ g2 ∧ w.heap.size ≤ g5 ∧ w.heap.size ≤ g7
section
variable {w W W' : World} {g2 g5 g7 bs off : Nat} {a b c d : List UInt8} {al : Bool} {E : Array Value}
theorem PS.ext (h : PS w g2 g5 g7 bs off a b c d al E W) (he : Ext W W') : PS w g2 g5 g7 bs off a b c d al E W' :=
  have hb := lt_of_cell' h.r0
  ⟨h.b2.ext he, h.b5.ext he, h.b7.ext he, h.n2, (he.cell hb _).trans h.r0, (he.cell hb _).trans h.r1, (he.cell hb _).trans h.r2, (he.cell hb _).trans h.r3, Ext.trans h.x he, h.ge⟩
theorem PS.only7 (h : PS w g2 g5 g7 bs off a b c d al E W) {E' : Array Value} (ho : Only g7 W W') (hb7 : Blk W' g7 24 E') : PS w g2 g5 g7 bs off a b c d al E' W' :=
  have hb := lt_of_cell' h.r0
  have hn := h.n2
  ⟨h.b2.grown ho (fun e => hn.2.1 (by injection e)), h.b5.grown ho (fun e => hn.2.2.1 (by injection e)), hb7, hn, (ho.cell hb hn.2.2.2.2.1 _).trans h.r0, (ho.cell hb hn.2.2.2.2.1 _).trans h.r1, (ho.cell hb hn.2.2.2.2.1 _).trans h.r2, (ho.cell hb hn.2.2.2.2.1 _).trans h.r3, ho.ext_new h.x h.ge.2.2, h.ge⟩
theorem PS.set7 (h : PS w g2 g5 g7 bs off a b c d al E W) (i : Nat) (u : Value) : PS w g2 g5 g7 bs off a b c d al (E.setIfInBounds i u) (W.setCell ⟨g7, i, none⟩ u) :=
  h.only7 ((Only.refl g7 W).set_ i u) (h.b7.set_ i u)
theorem PS.only5 (h : PS w g2 g5 g7 bs off a b c d al E W) {al' : Bool} (ho : Only g5 W W') (hb5 : Blk W' g5 4 #[.bool al']) : PS w g2 g5 g7 bs off a b c d al' E W' :=
  have hb := lt_of_cell' h.r0
  have hn := h.n2
  ⟨h.b2.grown ho (fun e => hn.1 (by injection e)), hb5, h.b7.grown ho (fun e => hn.2.2.1 (by injection e.symm)), hn, (ho.cell hb hn.2.2.2.1 _).trans h.r0, (ho.cell hb hn.2.2.2.1 _).trans h.r1, (ho.cell hb hn.2.2.2.1 _).trans h.r2, (ho.cell hb hn.2.2.2.1 _).trans h.r3, ho.ext_new h.x h.ge.2.1, h.ge⟩
end
set_option maxRecDepth 100000
section
theorem take_any (a b : Bool) (g : Nat) (w : World) (hb : Blk w g 4 #[.bool a]) : Calls Tryd.prog 24 #[.bool b, .pointer (some ⟨g, 0, none⟩)] w fun e w' => e = .returned (.tuple #[]) ∧ Blk w' g 4 #[.bool (a && b)] ∧ Only g w w' := by
  have c0 := hb.cell 0
  have f0 := hb.frozen 0
  have hs := hb.set_ 0 (.bool (a && b))
  have ho := (Only.refl g w).set_ 0 (.bool (a && b))
  cases a
  all_goals
    go_enter Tryd.func24, Tryd.ntmps24
    go_wp2
    go_end0
    exact ⟨rfl, hs, ho⟩
set_option maxHeartbeats 4000000 in
theorem parse_any (l : List UInt8) (w : World) (HL : Laid w) (hl : l.length ≤ 1000) : Calls Tryd.prog 8 #[.string (bstr l)] w (ParseRes l w) := by
  have HSP := hid HL.split
  have HLL := hid HL
  have hx0 := ext_alloc w (.cells #[.int .i64 0, .int .i64 0, .int .i64 0, .slice none 0 0] 24)
  have hb2 := Blk.new w 24 #[.int .i64 0, .int .i64 0, .int .i64 0, .slice none 0 0]
  clear HL
  go_enter Tryd.func8, Tryd.ntmps8
  obtain ⟨g2, hg2⟩ : ∃ g2, g2 = w.heap.size := ⟨_, rfl⟩
  go_upto_region 2 with (go_at_call 23; refine (HSP.out _ hx0 l hl).mono ?_; rintro e w1 ⟨u, rfl, hu, hx1⟩)
  rw [← hg2] at hb2 ⊢
  have hb2' := hb2.ext hx1
  have hxw1 := Ext.trans hx0 hx1
  clear hx0 hb2
  by_cases h4 : (wordsL l).length = 4
  · obtain ⟨a, b, c, d, hw4⟩ := four h4
    have hm : ∀ z, z ∈ wordsL l → z.length ≤ 1000 := fun z hz => Nat.le_trans (wordsL_mem hz) hl
    rw [hw4] at hu hm
    obtain ⟨ha, hb, hc, hd⟩ : a.length ≤ 1000 ∧ b.length ≤ 1000 ∧ c.length ≤ 1000 ∧ d.length ≤ 1000 := ⟨hm a (by simp), hm b (by simp), hm c (by simp), hm d (by simp)⟩
    have HPG : Wall (parseG l = evOf (numC a) (kindG b) (numC c) (msgG d)) := hid (by unfold parseG; rw [hw4])
    obtain ⟨A, n, cc, rfl, hnc, hcm, hrow⟩ := hu
    obtain rfl : n = 4 := hrow.1.symm
    obtain ⟨bs, off, hA, hbs, hj⟩ := hrow.2 (by decide)
    subst hA
    have r0 : w1.cell? ⟨bs, off, none⟩ = some (.string (bstr a)) := by
      obtain ⟨ds, hds, hcl⟩ := hj 0 (by simp)
      have hds' : ds = [.string (bstr a)] := hds
      subst hds'
      exact hcl 0 (by simp)
    have r1 : w1.cell? ⟨bs, off + 1, none⟩ = some (.string (bstr b)) := by
      obtain ⟨ds, hds, hcl⟩ := hj 1 (by simp)
      have hds' : ds = [.string (bstr b)] := hds
      subst hds'
      exact hcl 0 (by simp)
    have r2 : w1.cell? ⟨bs, off + 2, none⟩ = some (.string (bstr c)) := by
      obtain ⟨ds, hds, hcl⟩ := hj 2 (by simp)
      have hds' : ds = [.string (bstr c)] := hds
      subst hds'
      exact hcl 0 (by simp)
    have r3 : w1.cell? ⟨bs, off + 3, none⟩ = some (.string (bstr d)) := by
      obtain ⟨ds, hds, hcl⟩ := hj 3 (by simp)
      have hds' : ds = [.string (bstr d)] := hds
      subst hds'
      exact hcl 0 (by simp)
    have hbs1 : g2 < bs := by have := hbs.1; simp at this; omega
    have hbs2 : bs < w1.heap.size := hbs.2
    clear hw4 hm h4 hj hrow hcm hbs
    go_upto_region 8 with (fail)
    have hsz1 := hxw1.size
    have hb2l := hb2'.lt
    obtain ⟨W8, hW8⟩ : ∃ W8, W8 = (w1.alloc (.cells #[.bool true] 4)).alloc (.cells #[.int .i64 0, .int .i64 0, .int .i64 0, .slice none 0 0] 24) := ⟨_, rfl⟩
    have hx8 : Ext w1 W8 := by rw [hW8]; exact Ext.trans (ext_alloc _ _) (ext_alloc _ _)
    have h58 : Blk W8 w1.heap.size 4 #[.bool true] := by rw [hW8]; exact (Blk.new w1 4 #[.bool true]).alloc _
    have h78 : Blk W8 (w1.heap.size + 1) 24 #[.int .i64 0, .int .i64 0, .int .i64 0, .slice none 0 0] := by
      rw [hW8]
      have := Blk.new (w1.alloc (.cells #[.bool true] 4)) 24 #[.int .i64 0, .int .i64 0, .int .i64 0, .slice none 0 0]
      simpa using this
    obtain ⟨g5, hg5⟩ : ∃ g5, g5 = w1.heap.size := ⟨_, rfl⟩
    rw [← hW8, ← hg5]
    rw [← hg5] at h58 h78
    obtain ⟨g7, hg7⟩ : ∃ g7, g7 = g5 + 1 := ⟨_, rfl⟩
    rw [← hg7] at h78 ⊢
    have hbl := lt_of_cell' r0
    have HPS := hid (⟨hb2'.ext hx8, h58, h78, ⟨by omega, by omega, by omega, by omega, by omega, by omega⟩, (hx8.cell hbl _).trans r0, (hx8.cell hbl _).trans r1, (hx8.cell hbl _).trans r2, (hx8.cell hbl _).trans r3, Ext.trans hxw1 hx8, ⟨by omega, by omega, by omega⟩⟩ : PS w g2 g5 g7 bs off a b c d true #[.int .i64 0, .int .i64 0, .int .i64 0, .slice none 0 0] W8)
    clear r0 r1 r2 r3 hb2' hxw1 hx8 h58 h78 hW8 hbl hb2l hsz1 hg7 hg5 hg2 hnc hbs1 hbs2
    have HC0 := hid (number_any a W8 (HLL.out.ext HPS.out.x) ha)
    have q0 := HPS.out.r0
    go_upto_region 9 with (go_at_call 25; refine HC0.out.mono ?_; rintro e wc ⟨n0, o0, rfl, ho0, hxc⟩; have q7 := ((HPS.out.ext hxc).b7).cell 0; have f7 := ((HPS.out.ext hxc).b7).frozen 0)
    have HA0 := hid ((HPS.out.ext hxc).set7 0 (.int .i64 n0))
    have HO0 := hid ho0
    clear q7 f7 hxc ho0 q0 HC0 HPS
    obtain ⟨V0, hV0⟩ : ∃ V, V = wc.setCell ⟨g7, 0, none⟩ (.int .i64 n0) := ⟨_, rfl⟩
    rw [← hV0] at HA0 ⊢
    clear hV0
    go_upto_region 10 with (go_at_call 24; refine (take_any true o0 g5 V0 HA0.out.b5).mono ?_; rintro e W10 ⟨rfl, hb5, ho5⟩)
    have HP0 := hid (HA0.out.only5 ho5 hb5)
    clear hb5 ho5 HA0
    have HC1 := hid (kindOf_any b W10)
    have q1 := HP0.out.r1
    go_upto_region 11 with (go_at_call 26; refine HC1.out.mono ?_; rintro e wc ⟨n1, o1, rfl, ho1, hxc⟩; have q7 := ((HP0.out.ext hxc).b7).cell 1; have f7 := ((HP0.out.ext hxc).b7).frozen 1)
    have HA1 := hid ((HP0.out.ext hxc).set7 1 (.int .i64 n1))
    have HO1 := hid ho1
    clear q7 f7 hxc ho1 q1 HC1 HP0
    obtain ⟨V1, hV1⟩ : ∃ V, V = wc.setCell ⟨g7, 1, none⟩ (.int .i64 n1) := ⟨_, rfl⟩
    rw [← hV1] at HA1 ⊢
    clear hV1
    go_upto_region 12 with (go_at_call 24; refine (take_any (true && o0) o1 g5 V1 HA1.out.b5).mono ?_; rintro e W12 ⟨rfl, hb5, ho5⟩)
    have HP1 := hid (HA1.out.only5 ho5 hb5)
    clear hb5 ho5 HA1
    have HC2 := hid (number_any c W12 (HLL.out.ext HP1.out.x) hc)
    have q2 := HP1.out.r2
    go_upto_region 13 with (go_at_call 25; refine HC2.out.mono ?_; rintro e wc ⟨n2, o2, rfl, ho2, hxc⟩; have q7 := ((HP1.out.ext hxc).b7).cell 2; have f7 := ((HP1.out.ext hxc).b7).frozen 2)
    have HA2 := hid ((HP1.out.ext hxc).set7 2 (.int .i64 n2))
    have HO2 := hid ho2
    clear q7 f7 hxc ho2 q2 HC2 HP1
    obtain ⟨V2, hV2⟩ : ∃ V, V = wc.setCell ⟨g7, 2, none⟩ (.int .i64 n2) := ⟨_, rfl⟩
    rw [← hV2] at HA2 ⊢
    clear hV2
    go_upto_region 14 with (go_at_call 24; refine (take_any ((true && o0) && o1) o2 g5 V2 HA2.out.b5).mono ?_; rintro e W14 ⟨rfl, hb5, ho5⟩)
    have HP2 := hid (HA2.out.only5 ho5 hb5)
    clear hb5 ho5 HA2
    have HC3 := hid (message_any d W14 hd)
    have q3 := HP2.out.r3
    go_upto_region 15 with (go_at_call 27; refine HC3.out.mono ?_; rintro e wc ⟨u3, o3, bs3, rfl, ho3, hsl, hxc⟩; obtain ⟨Au, cu, rfl⟩ := hsl.shape; have q7 := ((HP2.out.ext hxc).b7).cell 3; have f7 := ((HP2.out.ext hxc).b7).frozen 3)
    have HSL := hid hsl
    have HXC := hid hxc
    have HLT := hid (⟨HP2.out.b5.lt, HP2.out.b7.lt, HP2.out.x.size, HP2.out.b2.lt⟩ : g5 < W14.heap.size ∧ g7 < W14.heap.size ∧ w.heap.size ≤ W14.heap.size ∧ g2 < W14.heap.size)
    have HA3 := hid ((HP2.out.ext hxc).set7 3 (.slice Au bs3.length cu))
    have HO3 := hid ho3
    clear q7 f7 hxc ho3 q3 HC3 HP2 hsl
    obtain ⟨V3, hV3⟩ : ∃ V, V = wc.setCell ⟨g7, 3, none⟩ (.slice Au bs3.length cu) := ⟨_, rfl⟩
    rw [← hV3] at HA3 ⊢
    have HV3 := hid hV3
    clear hV3
    go_upto_region 16 with (go_at_call 24; refine (take_any (((true && o0) && o1) && o2) o3 g5 V3 HA3.out.b5).mono ?_; rintro e W16 ⟨rfl, hb5, ho5⟩)
    have HP3 := hid (HA3.out.only5 ho5 hb5)
    have HO5 := hid ho5
    clear hb5 ho5 HA3
    have ho7 : Only g7 wc V3 := by rw [HV3.out]; exact (Only.refl g7 wc).set_ 3 _
    have hfin : IsSlice repByte W16 (fun k => W14.heap.size ≤ k ∧ k < wc.heap.size) (.slice Au bs3.length cu) bs3 := HSL.out.keep fun k hk => ⟨hk, fun o => by
      have h1 := HLT.out
      have h2 : V3.cell? ⟨k, o, none⟩ = wc.cell? ⟨k, o, none⟩ := ho7.cell hk.2 (fun e => by have := hk.1; omega) o
      have h3 : W16.cell? ⟨k, o, none⟩ = V3.cell? ⟨k, o, none⟩ := HO5.out.cell (Nat.lt_of_lt_of_le hk.2 ho7.size) (fun e => by have := hk.1; omega) o
      exact h3.trans h2⟩
    have hwc16 : wc.heap.size ≤ W16.heap.size := Nat.le_trans ho7.size HO5.out.size
    have HFIN := hid (⟨hfin, hwc16⟩ : IsSlice repByte W16 (fun k => W14.heap.size ≤ k ∧ k < wc.heap.size) (.slice Au bs3.length cu) bs3 ∧ wc.heap.size ≤ W16.heap.size)
    clear hfin hwc16 ho7
    obtain ⟨E, hE⟩ : ∃ E : Array Value, E = #[.int .i64 n0, .int .i64 n1, .int .i64 n2, .slice Au bs3.length cu] := ⟨_, rfl⟩
    have hps : PS w g2 g5 g7 bs off a b c d ((((true && o0) && o1) && o2) && o3) E W16 := by rw [hE]; exact HP3.out
    obtain ⟨AL, hAL⟩ : ∃ AL, AL = ((((true && o0) && o1) && o2) && o3) := ⟨_, rfl⟩
    rw [← hAL] at hps
    have HPS := hid hps
    have HE := hid hE
    have q5 := hps.b5.cell 0
    have hes : (Tryd.prog.info? 24).map (·.size) = some E.size := by rw [hE]; kernel_rfl
    have hone : E.all (·.oneCell') = true := by rw [hE]; simp [Value.oneCell']
    have he4 : E.size = 4 := by rw [hE]; rfl
    clear hps HP3 hE
    cases AL with
    | true =>
      have hoo : o0 = true ∧ o1 = true ∧ o2 = true ∧ o3 = true := by
        cases o0 <;> cases o1 <;> cases o2 <;> cases o3 <;> first | exact ⟨rfl, rfl, rfl, rfl⟩ | cases hAL
      have hres : parseG l = some ⟨n0, n1, n2, bs3⟩ := by
        rw [HPG.out]
        rcases HO0.out with ⟨_, h0⟩ | ⟨h0, _⟩
        · rcases HO1.out with ⟨_, h1⟩ | ⟨h1, _⟩
          · rcases HO2.out with ⟨_, h2⟩ | ⟨h2, _⟩
            · rcases HO3.out with ⟨_, h3⟩ | ⟨h3, _⟩
              · rw [h0, h1, h2, h3]; rfl
              · rw [hoo.2.2.2] at h3; cases h3
            · rw [hoo.2.2.1] at h2; cases h2
          · rw [hoo.2.1] at h1; cases h1
        · rw [hoo.1] at h0; cases h0
      have HRES := hid hres
      clear hres hoo hAL HO0 HO1 HO2 HO3
      go_wp2_with (first
        | (refine wpl_loadRow (t := 24) (g := g7) (cs := E) _ rfl rfl rfl HPS.out.b7 Tryd.underlying24 rfl hes ?_)
        | (refine wpl_row (t := 24) (g := g2) (cs := E) _ _ rfl rfl rfl rfl HPS.out.b2 hes (by rw [he4]; rfl) hone ?_; intro w9 hb9 ho9))
      refine bodyPost_ret (results_row_tmpD rfl _ _ g2 _ _ _ _ rfl hb9 Tryd.underlying24 rfl hes rfl) rfl ?_
      refine ⟨⟨n0, n1, n2, bs3⟩, _, 0, by rw [HE.out]; rfl, .inl ⟨rfl, HRES.out⟩, HFIN.out.1.keep fun k hk => ⟨⟨Nat.le_trans HLT.out.2.2.1 hk.1, by have := HFIN.out.2; have := ho9.size; omega⟩, fun o => ho9.cell (by have := HFIN.out.2; omega) ?_ o⟩, ho9.ext_new HPS.out.x HPS.out.ge.1⟩
      exact fun e => by have := hk.1; have := HLT.out.2.2.2; omega
    | false =>
      have hres : parseG l = none := by
        rw [HPG.out]
        rcases HO0.out with ⟨h0, _⟩ | ⟨_, h0⟩
        · rcases HO1.out with ⟨h1, _⟩ | ⟨_, h1⟩
          · rcases HO2.out with ⟨h2, _⟩ | ⟨_, h2⟩
            · rcases HO3.out with ⟨h3, _⟩ | ⟨_, h3⟩
              · rw [h0, h1, h2, h3] at hAL; cases hAL
              · rw [h3]; cases numC a <;> cases kindG b <;> cases numC c <;> rfl
            · rw [h2]; cases numC a <;> cases kindG b <;> rfl
          · rw [h1]; cases numC a <;> rfl
        · rw [h0]; rfl
      have HRES := hid hres
      clear hres hAL HO0 HO1 HO2 HO3
      go_wp2_with (first
        | (refine wpl_row (t := 24) (g := g2) (cs := #[.int .i64 0, .int .i64 0, .int .i64 0, .slice none 0 0]) _ _ rfl rfl rfl rfl HPS.out.b2 (by kernel_rfl) rfl (by simp [Value.oneCell']) ?_; intro w9 hb9 ho9))
      refine bodyPost_ret (results_row_tmpD rfl _ _ g2 _ _ _ _ rfl hb9 Tryd.underlying24 rfl (by kernel_rfl) rfl) rfl ?_
      exact ⟨⟨0, 0, 0, []⟩, _, 320, rfl, .inr ⟨rfl, HRES.out, rfl⟩, isSlice_nil _ _ _, ho9.ext_new HPS.out.x HPS.out.ge.1⟩
  · have HP := hid (parseG_len h4)
    obtain ⟨A, cc, rfl⟩ := hu.shape
    rw [List.length_map]
    have t1 : (((wordsL l).length : Int) != 4) = true := by rw [bne_iff_ne]; omega
    have t2 : ((wordsL l).length != 4) = true := by rw [bne_iff_ne]; exact h4
    have HB2 := hid hb2'
    have HXW := hid hxw1
    have HG := hid (show w.heap.size ≤ g2 from by omega)
    generalize (wordsL l).length = q at *
    clear h4 hu hb2' hxw1 hg2
    go_wp2_with (first
      | (refine wpl_row (t := 24) (g := g2) (cs := #[.int .i64 0, .int .i64 0, .int .i64 0, .slice none 0 0]) _ _ rfl rfl rfl rfl HB2.out (by kernel_rfl) rfl (by simp [Value.oneCell']) ?_; intro w9 hb9 ho9))
    refine bodyPost_ret (results_row_tmpD rfl _ _ g2 _ _ _ _ rfl hb9 Tryd.underlying24 rfl (by kernel_rfl) rfl) rfl ?_
    exact ⟨⟨0, 0, 0, []⟩, _, 320, rfl, .inr ⟨rfl, HP.out, rfl⟩, isSlice_nil _ _ _, ho9.ext_new HXW.out HG.out⟩
end
end Go.Proofs.YtimlbebockfioaaDoor
