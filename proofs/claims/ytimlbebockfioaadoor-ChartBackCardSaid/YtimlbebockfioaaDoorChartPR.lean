/- The walk of the document's reading of a line. -/
import Derived.Test.YtimlbebockfioaaDoorChartO
import Derived.Deep.DeepCutAuto
namespace Go.Proofs.YtimlbebockfioaaDoor
open Go.RowKit

def kindTo (b : List UInt8) : Nat → Int
  | 0 => -1
  | j + 1 => if wordK (j : Int) = b then (j : Int) else kindTo b j
theorem kindTo_none {b : List UInt8} (h : kindG b = none) : ∀ j, j ≤ 8 → kindTo b j = -1
  | 0, _ => rfl
  | j + 1, hj => by
    unfold kindTo
    rw [if_neg, kindTo_none h j (by omega)]
    intro e
    have := kindG_word _ (knownN (show j < 8 by omega))
    rw [e, h] at this
    cases this
theorem kindTo_some {b : List UInt8} {k : Int} (h : kindG b = some k) : ∀ j : Nat, j ≤ 8 → kindTo b j = if k < (j : Int) then k else -1
  | 0, _ => by
    have := (word_kindG h).1
    unfold knownI at this
    rw [Bool.and_eq_true, decide_eq_true_iff, decide_eq_true_iff] at this
    rw [if_neg (by omega)]
    rfl
  | j + 1, hj => by
    unfold kindTo
    by_cases e : wordK (j : Int) = b
    · have h2 := kindG_word _ (knownN (show j < 8 by omega))
      rw [e, h] at h2
      injection h2 with h2
      rw [if_pos e, if_pos (by omega), h2]
    · rw [if_neg e, kindTo_some h j (by omega)]
      by_cases hk : k < (j : Int)
      · rw [if_pos hk, if_pos (by omega)]
      · rw [if_neg hk, if_neg]
        intro h3
        have : k = (j : Int) := by omega
        exact e (this ▸ (word_kindG h).2)
theorem kindTo_all (b : List UInt8) : kindTo b 8 = (kindG b).getD (-1) := by
  cases h : kindG b with
  | none => exact kindTo_none h 8 (Nat.le_refl _)
  | some k =>
    rw [kindTo_some h 8 (Nat.le_refl _)]
    have := (word_kindG h).1
    unfold knownI at this
    rw [Bool.and_eq_true, decide_eq_true_iff, decide_eq_true_iff] at this
    rw [if_pos (by omega)]
    rfl
theorem parseR_len {l : List UInt8} (h : (wordsL l).length ≠ 4) : parseG l = none := parseG_len h
/-- Where the document's reading stands. -/
structure PT (w : World) (g2 g5 bs off : Nat) (a b c d : List UInt8) (E : Array Value) (W : World) : Prop where
  b2 : Blk W g2 24 #[.int .i64 0, .int .i64 0, .int .i64 0, .slice none 0 0]
  b5 : Blk W g5 24 E
  n2 : g2 ≠ g5 ∧ bs ≠ g5 ∧ bs ≠ g2
  r0 : W.cell? ⟨bs, off, none⟩ = some (.string (bstr a))
  r1 : W.cell? ⟨bs, off + 1, none⟩ = some (.string (bstr b))
  r2 : W.cell? ⟨bs, off + 2, none⟩ = some (.string (bstr c))
  r3 : W.cell? ⟨bs, off + 3, none⟩ = some (.string (bstr d))
  x : Ext w W
  ge : w.heap.size ≤ g2 ∧ w.heap.size ≤ g5
section
variable {w W W' : World} {g2 g5 bs off : Nat} {a b c d : List UInt8} {E : Array Value}
theorem PT.ext (h : PT w g2 g5 bs off a b c d E W) (he : Ext W W') : PT w g2 g5 bs off a b c d E W' :=
  have hb := lt_of_cell' h.r0
  ⟨h.b2.ext he, h.b5.ext he, h.n2, (he.cell hb _).trans h.r0, (he.cell hb _).trans h.r1, (he.cell hb _).trans h.r2, (he.cell hb _).trans h.r3, Ext.trans h.x he, h.ge⟩
theorem PT.only5 (h : PT w g2 g5 bs off a b c d E W) {E' : Array Value} (ho : Only g5 W W') (hb5 : Blk W' g5 24 E') : PT w g2 g5 bs off a b c d E' W' :=
  have hb := lt_of_cell' h.r0
  have hn := h.n2
  ⟨h.b2.grown ho (fun e => hn.1 (by injection e)), hb5, hn, (ho.cell hb hn.2.1 _).trans h.r0, (ho.cell hb hn.2.1 _).trans h.r1, (ho.cell hb hn.2.1 _).trans h.r2, (ho.cell hb hn.2.1 _).trans h.r3, ho.ext_new h.x h.ge.2, h.ge⟩
theorem PT.set5 (h : PT w g2 g5 bs off a b c d E W) (i : Nat) (u : Value) : PT w g2 g5 bs off a b c d (E.setIfInBounds i u) (W.setCell ⟨g5, i, none⟩ u) :=
  h.only5 ((Only.refl g5 W).set_ i u) (h.b5.set_ i u)
end
set_option maxRecDepth 100000
section
set_option maxHeartbeats 4000000 in
theorem parseR_any (l : List UInt8) (w : World) (hl : l.length ≤ 1000) : Calls Tryd.prog 9 #[.string (bstr l)] w (ParseRes l w) := by
  have hx0 := ext_alloc w (.cells #[.int .i64 0, .int .i64 0, .int .i64 0, .slice none 0 0] 24)
  have hb2 := Blk.new w 24 #[.int .i64 0, .int .i64 0, .int .i64 0, .slice none 0 0]
  have HSP := hid (wordsR_any l (w.alloc (.cells #[.int .i64 0, .int .i64 0, .int .i64 0, .slice none 0 0] 24)) hl)
  obtain ⟨S, hS⟩ : ∃ S, S = bstr l := ⟨_, rfl⟩
  have hSl : S.toList = l := by rw [hS, bstr_list]
  rw [← hS] at HSP ⊢
  have HSL := hid hSl
  clear hS hSl
  go_enter Tryd.func9, Tryd.ntmps9
  obtain ⟨g2, hg2⟩ : ∃ g2, g2 = w.heap.size := ⟨_, rfl⟩
  go_upto_region 2 with (go_at_call 28; refine HSP.out.mono ?_; rintro e w1 ⟨u, rfl, hu, hx1⟩)
  rw [← hg2] at hb2 ⊢
  have hb2' := hb2.ext hx1
  have hxw1 := Ext.trans hx0 hx1
  clear hx0 hb2 HSP
  by_cases h4 : (wordsL l).length = 4
  · obtain ⟨a, b, c, d, hw4⟩ := four h4
    have hm : ∀ z, z ∈ wordsL l → z.length ≤ 1000 := fun z hz => Nat.le_trans (wordsL_mem hz) hl
    rw [hw4] at hu hm
    obtain ⟨ha, hb, hc, hd⟩ : a.length ≤ 1000 ∧ b.length ≤ 1000 ∧ c.length ≤ 1000 ∧ d.length ≤ 1000 := ⟨hm a (by simp), hm b (by simp), hm c (by simp), hm d (by simp)⟩
    have HPG : Wall (parseG l = if showG (refE a b c d) = l ∧ l ≠ [] then some (refE a b c d) else none) := hid (by rw [← parse_same]; unfold parseR; rw [hw4])
    obtain ⟨A, n, cc, rfl, hnc, hcm, hrow⟩ := hu
    obtain rfl : n = 4 := hrow.1.symm
    obtain ⟨bs, off, hA, hbs, hj⟩ := hrow.2 (by decide)
    subst hA
    have r0 : w1.cell? ⟨bs, off, none⟩ = some (.string (bstr a)) := by
      obtain ⟨ds, hds, hcl⟩ := hj 0 (by simp)
      have hds' : ds = [.string (bstr a)] := hds
      subst hds'
      exact hcl 0 (by simp)
    have r1 : w1.cell? ⟨bs, off + 1, none⟩ = some (.string (bstr b)) := by
      obtain ⟨ds, hds, hcl⟩ := hj 1 (by simp)
      have hds' : ds = [.string (bstr b)] := hds
      subst hds'
      exact hcl 0 (by simp)
    have r2 : w1.cell? ⟨bs, off + 2, none⟩ = some (.string (bstr c)) := by
      obtain ⟨ds, hds, hcl⟩ := hj 2 (by simp)
      have hds' : ds = [.string (bstr c)] := hds
      subst hds'
      exact hcl 0 (by simp)
    have r3 : w1.cell? ⟨bs, off + 3, none⟩ = some (.string (bstr d)) := by
      obtain ⟨ds, hds, hcl⟩ := hj 3 (by simp)
      have hds' : ds = [.string (bstr d)] := hds
      subst hds'
      exact hcl 0 (by simp)
    have hbs1 : g2 < bs := by have := hbs.1; simp at this; omega
    have hbs2 : bs < w1.heap.size := hbs.2
    have HB2 := hid (⟨hb2', hxw1, hb2'.lt, hxw1.size, r0, r1, r2, r3⟩ : Blk w1 g2 24 #[.int .i64 0, .int .i64 0, .int .i64 0, .slice none 0 0] ∧ Ext w w1 ∧ g2 < w1.heap.size ∧ w.heap.size ≤ w1.heap.size ∧ w1.cell? ⟨bs, off, none⟩ = some (.string (bstr a)) ∧ w1.cell? ⟨bs, off + 1, none⟩ = some (.string (bstr b)) ∧ w1.cell? ⟨bs, off + 2, none⟩ = some (.string (bstr c)) ∧ w1.cell? ⟨bs, off + 3, none⟩ = some (.string (bstr d)))
    have hge : w.heap.size ≤ g2 := by omega
    clear hw4 hm h4 hj hrow hcm hbs hb2' hxw1 hg2
    go_upto_region 4 with (fail)
    go_cut [5] (fun s5 wx => ∃ g5, s5 = .pointer (some ⟨g5, 0, none⟩) ∧ Wall (PT w g2 g5 bs off a b c d #[.int .i64 (numR a), .int .i64 (-1), .int .i64 (numR c), .slice none 0 0] wx))
    case first =>
      go_region_with (go_at_call 29; refine (numR_any _ _ (by assumption)).mono ?_; rintro e w2 ⟨rfl, rfl⟩)
      all_goals
        go_wp2_with fail
        go_meet
        refine ⟨w1.heap.size, rfl, hid ?_⟩
        obtain ⟨hb2', hxw1, h1, h2, k0, k1, k2, k3⟩ := HB2.out
        have hxa := Ext.trans (ext_alloc w1 (.cells #[.int .i64 (numR a), .int .i64 (-1), .int .i64 (numR c), .slice none 0 0] 24)) (ext_drewN _ 1)
        exact ⟨hb2'.ext hxa, (Blk.new w1 24 #[.int .i64 (numR a), .int .i64 (-1), .int .i64 (numR c), .slice none 0 0]).drew, ⟨by omega, by omega, by omega⟩, (hxa.cell hbs2 _).trans k0, (hxa.cell hbs2 _).trans k1, (hxa.cell hbs2 _).trans k2, (hxa.cell hbs2 _).trans k3, Ext.trans hxw1 hxa, ⟨hge, h2⟩⟩
    case rest =>
      obtain ⟨g5, rfl, HPT⟩ := hcut
      clear r0 r1 r2 r3 HB2 hge hbs1 hbs2
      generalize wc = wz at *
      go_wp2
      go_loopw [6] (fun i wr => ∃ j : Nat, j ≤ 8 ∧ i = .int .i64 (j : Int) ∧ Wall (PT w g2 g5 bs off a b c d #[.int .i64 (numR a), .int .i64 (kindTo b j), .int .i64 (numR c), .slice none 0 0] wr)) (fun i _ => 8 - (intOf i).toNat)
      case atStart => exact ⟨0, by omega, rfl, HPT⟩
      case round =>
        clear HPT
        obtain ⟨j, hj, rfl, HPT⟩ := hrel
        by_cases hjl : j < 8
        · have HW := hid (fun W => word_any (j : Int) W)
          obtain ⟨WK, hWK⟩ : ∃ WK, WK = bstr (wordK (j : Int)) := ⟨_, rfl⟩
          rw [← hWK] at HW
          have hwe : (WK.toList == (bstr b).toList) = decide (wordK (j : Int) = b) := by rw [hWK]; exact bstr_eq _ _
          obtain ⟨KE, hKE⟩ : ∃ KE, KE = decide (wordK (j : Int) = b) := ⟨_, rfl⟩
          rw [← hKE] at hwe
          have HKE := hid hKE
          clear hKE hWK
          have q1 := HPT.out.r1
          go_upto_region 8 with (fail)
          go_cut [31] (fun s31 wx => s31 = .bool KE ∧ Wall (Ext wr wx))
          case first =>
            go_region_with (go_at_call 22; refine (HW.out _).mono ?_; rintro e w2 ⟨rfl, hx2⟩; have hx2 := Ext.trans (ext_drewN wr 1) hx2; have q1 := (HPT.out.ext hx2).r1)
            all_goals
              have HX2 := hid hx2
              clear hx2 q1
              go_wp2_with fail
              go_meet
              exact ⟨rfl, HX2⟩
          case rest =>
            obtain ⟨rfl, HX2⟩ := hcut
            clear q1 hwe
            have HPT2 := hid (HPT.out.ext HX2.out)
            generalize wc = wy at *
            clear HPT HX2
            cases KE with
            | true =>
              have hk1 : wordK (j : Int) = b := of_decide_eq_true HKE.out.symm
              have hkt : kindTo b (j + 1) = (j : Int) := by unfold kindTo; rw [if_pos hk1]
              have q5 := HPT2.out.b5.cell 1
              have f5 := HPT2.out.b5.frozen 1
              have HN := hid (HPT2.out.set5 1 (.int .i64 (j : Int)))
              have HKT := hid hkt
              clear hk1 hkt HKE HPT2
              go_wp2
              go_roundw
              case rel => exact ⟨j + 1, by omega, by go_num, hid (by rw [HKT.out]; exact HN.out)⟩
              case measure => simp [intOf]; omega
            | false =>
              have hk1 : ¬ wordK (j : Int) = b := of_decide_eq_false HKE.out.symm
              have hkt : kindTo b (j + 1) = kindTo b j := by conv => lhs; unfold kindTo; rw [if_neg hk1]
              have HKT := hid hkt
              clear hk1 hkt HKE
              go_wp2
              go_roundw
              case rel => exact ⟨j + 1, by omega, by go_num, hid (by rw [HKT.out]; exact HPT2.out)⟩
              case measure => simp [intOf]; omega
        · obtain rfl : j = 8 := by omega
          rw [kindTo_all] at HPT
          obtain ⟨data, hdata⟩ : ∃ data, data = (if d = [45] then [] else (unhexL d).getD []) := ⟨_, rfl⟩
          have href : refE a b c d = ⟨numR a, (kindG b).getD (-1), numR c, data⟩ := by unfold refE; rw [hdata]
          obtain ⟨n0, hn0⟩ : ∃ n0, n0 = numR a := ⟨_, rfl⟩
          obtain ⟨n1, hn1⟩ : ∃ n1, n1 = (kindG b).getD (-1) := ⟨_, rfl⟩
          obtain ⟨n2, hn2⟩ : ∃ n2, n2 = numR c := ⟨_, rfl⟩
          rw [← hn0, ← hn1, ← hn2] at HPT href
          rw [href] at HPG
          clear hn0 hn1 hn2 href
          have q3 := HPT.out.r3
          have z5 := HPT.out.b5.cell 3
          have y5 := HPT.out.b5.frozen 3
          have hdl : data.length ≤ 1000 := by
            rw [hdata]
            split
            · simp
            · cases hu : unhexL d with
              | none => simp
              | some bs' =>
                have h1 := congrArg List.length (hex_unhex d bs' hu)
                rw [hexL_len] at h1
                show bs'.length ≤ 1000
                omega
          go_upto_if 37 with (fail)
          go_cut [] (fun wx => ∃ v, Wall (PT w g2 g5 bs off a b c d #[.int .i64 n0, .int .i64 n1, .int .i64 n2, v] wx ∧ IsSlice repByte wx (fun k => fresh w wx k ∧ k ≠ g5 ∧ k ≠ g2) v data))
          case first =>
            by_cases h45 : d = [45]
            · have e0 : (bstr d).toList = [45] := by rw [bstr_list]; exact h45
              have e1 : ((bstr d).toList == [45]) = true := by rw [e0]; rfl
              have e1b : (!((bstr d).toList == [45])) = false := by rw [e1]; rfl
              have hd0 : data = [] := by rw [hdata, if_pos h45]
              have HD := hid hd0
              clear hdata h45 hd0
              rw [e1b]
              go_wp2_with fail
              go_meet
              exact ⟨_, hid ⟨HPT.out, HD.out ▸ isSlice_nil _ _ _⟩⟩
            · have e0 : (bstr d).toList ≠ [45] := by rw [bstr_list]; exact h45
              have e1 : ((bstr d).toList == [45]) = false := by rw [beq_eq_false_iff_ne]; exact e0
              have e1b : (!((bstr d).toList == [45])) = true := by rw [e1]; rfl
              have HU := hid (unhexR_any d wr hd)
              rw [if_neg h45] at hdata
              have HD := hid hdata
              clear hdata h45
              rw [e1b]
              go_wp2_with (go_at_call 30; refine HU.out.mono ?_; rintro e w2 ⟨u, ok, bs9, rfl, huo, hsl, hx2⟩; obtain ⟨Au, cu, rfl⟩ := hsl.shape; have q9 := ((HPT.out.ext hx2).b5).cell 3; have f9 := ((HPT.out.ext hx2).b5).frozen 3)
              go_meet
              have hd9 : data = bs9 := by
                rw [HD.out]
                rcases huo with ⟨_, h⟩ | ⟨_, h, h'⟩
                · rw [h]; rfl
                · rw [h, h']; rfl
              subst hd9
              have hlt5 := HPT.out.b5.lt
              have hlt2 := HPT.out.b2.lt
              have hxs := HPT.out.x.size
              refine ⟨_, hid ⟨(HPT.out.ext hx2).set5 3 _, hsl.keep fun k hk => ⟨⟨⟨Nat.le_trans hxs hk.1, Nat.lt_of_lt_of_le hk.2 ((Only.refl g5 w2).set_ 3 _).size⟩, by have := hk.1; omega, by have := hk.1; omega⟩, fun o => ((Only.refl g5 w2).set_ 3 _).cell hk.2 (by have := hk.1; omega) o⟩⟩⟩
          case rest =>
            obtain ⟨v, HP9⟩ := hcut
            clear q3 z5 y5 HPT hdata
            have hvs := HP9.out.2
            obtain ⟨Av, cv, rfl⟩ := hvs.shape
            have HSH := hid (showR_any n0 n1 n2 _ data wc (hvs.keep fun k hk => ⟨hk.1.2, fun _ => rfl⟩) hdl)
            obtain ⟨R, hR⟩ : ∃ R, R = bstr (showG ⟨n0, n1, n2, data⟩) := ⟨_, rfl⟩
            rw [← hR] at HSH
            have hRl : R.toList = showG ⟨n0, n1, n2, data⟩ := by rw [hR, bstr_list]
            obtain ⟨E, hE⟩ : ∃ E : Array Value, E = #[.int .i64 n0, .int .i64 n1, .int .i64 n2, .slice Av data.length cv] := ⟨_, rfl⟩
            have hbe : Blk wc g5 24 E := by rw [hE]; exact HP9.out.1.b5
            rw [← hE] at HSH
            have HBE := hid hbe
            have HE := hid hE
            have hes : (Tryd.prog.info? 24).map (·.size) = some E.size := by rw [hE]; kernel_rfl
            have hone : E.all (·.oneCell') = true := by rw [hE]; simp [Value.oneCell']
            have he4 : E.size = 4 := by rw [hE]; rfl
            clear hvs hR hE hbe hdl
            by_cases hP : showG ⟨n0, n1, n2, data⟩ = l
            · have e0 : R.toList = S.toList := by rw [hRl, hP, HSL.out]
              have e1 : (R.toList == S.toList) = true := by rw [e0]; simp
              have e1b : (!(R.toList == S.toList)) = false := by rw [e1]; rfl
              by_cases hn : l = []
              · have e2 : S.toList = [] := by rw [HSL.out, hn]
                have e4 : R.toList = [] := by rw [e0, e2]
                have e3 : S.toList.isEmpty = true := by rw [e2]; rfl
                have HRES : Wall (parseG l = none) := hid (by rw [HPG.out, if_neg (fun h => h.2 hn)])
                clear hP hn e0 hRl
                go_wp2_with (first
                  | (with_reducible refine wpl_loadRow (t := 24) (g := g5) (cs := E) _ rfl rfl rfl HBE.out Tryd.underlying24 rfl hes ?_)
                  | (go_at_call 11; refine HSH.out.mono ?_; rintro e w2 ⟨rfl, hx2⟩)
                  | (refine wpl_row (t := 24) (g := g2) (cs := #[.int .i64 0, .int .i64 0, .int .i64 0, .slice none 0 0]) _ _ rfl rfl rfl rfl (HP9.out.1.ext hx2).b2 (by kernel_rfl) rfl (by simp [Value.oneCell']) ?_; intro w9 hb9 ho9))
                refine bodyPost_ret (results_row_tmpD rfl _ _ g2 _ _ _ _ rfl hb9 Tryd.underlying24 rfl (by kernel_rfl) rfl) rfl ?_
                exact ⟨⟨0, 0, 0, []⟩, _, 320, rfl, .inr ⟨rfl, HRES.out, rfl⟩, isSlice_nil _ _ _, ho9.ext_new (Ext.trans HP9.out.1.x hx2) HP9.out.1.ge.1⟩
              · have e2 : S.toList ≠ [] := by rw [HSL.out]; exact hn
                have e3 : S.toList.isEmpty = false := by simpa using e2
                have HRES : Wall (parseG l = some ⟨n0, n1, n2, data⟩) := hid (by rw [HPG.out, if_pos ⟨hP, hn⟩])
                clear hP hn e0 hRl
                go_wp2_with (first
                  | (with_reducible refine wpl_loadRow (t := 24) (g := g5) (cs := E) _ rfl rfl rfl HBE.out Tryd.underlying24 rfl hes ?_)
                  | (go_at_call 11; refine HSH.out.mono ?_; rintro e w2 ⟨rfl, hx2⟩; have HBE2 := hid (HBE.out.ext hx2); clear HBE)
                  | (with_reducible refine wpl_loadRow (t := 24) (g := g5) (cs := E) _ rfl rfl rfl HBE2.out Tryd.underlying24 rfl hes ?_)
                  | (refine wpl_row (t := 24) (g := g2) (cs := E) _ _ rfl rfl rfl rfl (HP9.out.1.ext hx2).b2 hes (by rw [he4]; rfl) hone ?_; intro w9 hb9 ho9))
                refine bodyPost_ret (results_row_tmpD rfl _ _ g2 _ _ _ _ rfl hb9 Tryd.underlying24 rfl hes rfl) rfl ?_
                refine ⟨⟨n0, n1, n2, data⟩, _, 0, by rw [HE.out]; rfl, .inl ⟨rfl, HRES.out⟩, HP9.out.2.keep fun k hk => ⟨⟨hk.1.1, Nat.lt_of_lt_of_le hk.1.2 (Nat.le_trans hx2.size ho9.size)⟩, fun o => (ho9.cell (Nat.lt_of_lt_of_le hk.1.2 hx2.size) hk.2.2 o).trans (hx2.cell hk.1.2 o)⟩, ho9.ext_new (Ext.trans HP9.out.1.x hx2) HP9.out.1.ge.1⟩
            · have e0 : R.toList ≠ S.toList := by rw [hRl, HSL.out]; exact hP
              have e1 : (R.toList == S.toList) = false := by rw [beq_eq_false_iff_ne]; exact e0
              have e1b : (!(R.toList == S.toList)) = true := by rw [e1]; rfl
              have HRES : Wall (parseG l = none) := hid (by rw [HPG.out, if_neg (fun h => hP h.1)])
              clear hP e0 hRl
              go_wp2_with (first
                | (with_reducible refine wpl_loadRow (t := 24) (g := g5) (cs := E) _ rfl rfl rfl HBE.out Tryd.underlying24 rfl hes ?_)
                | (go_at_call 11; refine HSH.out.mono ?_; rintro e w2 ⟨rfl, hx2⟩)
                | (refine wpl_row (t := 24) (g := g2) (cs := #[.int .i64 0, .int .i64 0, .int .i64 0, .slice none 0 0]) _ _ rfl rfl rfl rfl (HP9.out.1.ext hx2).b2 (by kernel_rfl) rfl (by simp [Value.oneCell']) ?_; intro w9 hb9 ho9))
              refine bodyPost_ret (results_row_tmpD rfl _ _ g2 _ _ _ _ rfl hb9 Tryd.underlying24 rfl (by kernel_rfl) rfl) rfl ?_
              exact ⟨⟨0, 0, 0, []⟩, _, 320, rfl, .inr ⟨rfl, HRES.out, rfl⟩, isSlice_nil _ _ _, ho9.ext_new (Ext.trans HP9.out.1.x hx2) HP9.out.1.ge.1⟩
  · have HP := hid (parseG_len h4)
    obtain ⟨A, cc, rfl⟩ := hu.shape
    rw [List.length_map]
    have t1 : (((wordsL l).length : Int) != 4) = true := by rw [bne_iff_ne]; omega
    have t2 : ((wordsL l).length != 4) = true := by rw [bne_iff_ne]; exact h4
    have HB2 := hid hb2'
    have HXW := hid hxw1
    have HG := hid (show w.heap.size ≤ g2 from by omega)
    generalize (wordsL l).length = q at *
    clear h4 hu hb2' hxw1 hg2
    go_wp2_with (first
      | (refine wpl_row (t := 24) (g := g2) (cs := #[.int .i64 0, .int .i64 0, .int .i64 0, .slice none 0 0]) _ _ rfl rfl rfl rfl HB2.out (by kernel_rfl) rfl (by simp [Value.oneCell']) ?_; intro w9 hb9 ho9))
    refine bodyPost_ret (results_row_tmpD rfl _ _ g2 _ _ _ _ rfl hb9 Tryd.underlying24 rfl (by kernel_rfl) rfl) rfl ?_
    exact ⟨⟨0, 0, 0, []⟩, _, 320, rfl, .inr ⟨rfl, HP.out, rfl⟩, isSlice_nil _ _ _, ho9.ext_new HXW.out HG.out⟩
end
end Go.Proofs.YtimlbebockfioaaDoor
