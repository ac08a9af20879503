/- The puller's reference: keep, enter. -/
import Derived.Test.YtjchobncmogcpaaPullR
namespace Go.Proofs.Ytjchobncmogcpaa
open Go.RowKit

/-- What lies apart from some blocks besides. -/
def repOut {α : Type} (Z : Nat → Prop) (r : Rep α) : Rep α where
  size := r.size
  holds w S cs x := r.holds w (fun b => S b ∧ ¬ Z b) cs x
  len h := r.len h
  one h := r.one h
  keepP h hk := r.keepP h fun b hb => ⟨⟨(hk b hb.1).1, hb.2⟩, (hk b hb.1).2⟩
theorem IsSlice.toOut {α : Type} {r : Rep α} {Z : Nat → Prop} {w w1 : World} {S : Nat → Prop} {u v : Value} {xs : List α} {base : Nat} (h : IsSlice r w S u xs) (he : Ext w w1) (hS : ∀ b, S b → base ≤ b ∧ b < w.heap.size ∧ ¬ Z b) (hv : ∀ k, v.ownBlock = some k → w.heap.size ≤ k) :
    SliceIn (repOut Z r) w1 (nb w1 v) (el base w1 v) u xs := by
  obtain ⟨A, n, c, rfl, h1, h2, h3, h4⟩ := h
  refine ⟨A, n, c, rfl, h1, h2, h3, fun hn => ?_⟩
  obtain ⟨b, off, hA, hb, hj⟩ := h4 hn
  refine ⟨b, off, hA, ⟨Nat.lt_of_lt_of_le (hS b hb).2.1 he.size, fun e => by have := hv b e; have := (hS b hb).2.1; omega⟩, fun j hj' => ?_⟩
  obtain ⟨ds, hd, hc⟩ := hj j hj'
  refine ⟨ds, r.keep hd fun k hk => ⟨⟨⟨(hS k hk).1, Nat.lt_of_lt_of_le (hS k hk).2.1 he.size, fun e => by have := hv k e; have := (hS k hk).2.1; omega⟩, (hS k hk).2.2⟩, fun o => he.cell (hS k hk).2.1 o⟩, fun i hi => ?_⟩
  exact (he.cell (hS b hb).2.1 _).trans (hc i hi)
theorem Own.fromOut {α : Type} {r : Rep α} {Z : Nat → Prop} {e : TypeId} {w : World} {v : Value} {xs : List α} {base : Nat} (h : Own (repOut Z r) e base w v xs) (hz : ∀ b, v.ownBlock = some b → ¬ Z b) :
    IsSlice r w (fun b => base ≤ b ∧ b < w.heap.size ∧ ¬ Z b) v xs := by
  obtain ⟨A, c, rfl, h1, h2, h3, h4⟩ := h.form
  refine ⟨A, _, c, rfl, h1, h2, h3, fun hn => ?_⟩
  obtain ⟨b, off, rfl, hb, hj⟩ := h4 hn
  refine ⟨b, off, rfl, ⟨hb.1, hb.2, hz b rfl⟩, fun j hj' => ?_⟩
  obtain ⟨ds, hd, hc⟩ := hj j hj'
  exact ⟨ds, r.keep hd fun k hk => ⟨⟨hk.1.1, hk.1.2, hk.2⟩, fun _ => rfl⟩, hc⟩
section
variable {P : Program} {α : Type} {r : Rep α} {w : World} {ops : Array Oper} {rest : List Oper} {o : Oper} {a : Act} {Q : Exit → Act → World → Prop}
/-- 'append(out, x)': behind the new block; and where the row lies. -/
theorem wpl_app1b {base g : Nat} {t e : TypeId} {bytes : Nat} {v : Value} {xs : List α} {x : α} {cs : Array Value} (s y : Operand) (hgd : o.guard = none)
    (ho : o.op = .call { callee := .builtin .append, args := #[s, y], argTypes := #[t, t] }) (ht : P.underlying t = some (.slice e)) (hi : ElemInfo P e r.size bytes) (hsz : 0 < r.size)
    (hown : Own r e base w v xs) (hs : a.eval s = v) (hx : a.eval y = .slice (some ⟨g, 0, none⟩) 1 1) (hg : g = w.heap.size) (hu : r.holds w (el base w v) cs.toList x)
    (hbytes : (xs.length + 1) * bytes ≤ 140737488355328) (h63 : xs.length + 1 ≤ maxLen) (hbase : base ≤ w.heap.size)
    (h : ∀ v' w', Own r e base w' v' (xs ++ [x]) → w.grownBy w' v.ownBlock → (v'.ownBlock = v.ownBlock ∨ v'.ownBlock = some (w.heap.size + 1)) → wpList P ops Q rest (a.put o.dst v') w') : wpList P ops Q (o :: rest) a (w.alloc (.cells cs e)) := by
  subst hg
  refine wpl_app s y hgd ho ht hi hsz (hown.ext (ext_alloc w _)) (isSlice_one hu fun k hk => (hown.lt k hk).2) hs hx hbytes h63 (by simp; omega) fun v' w' h1 h2 h3 => h v' w' h1 ?_ (by simpa using h3)
  refine ⟨h2.os, h2.tape, h2.output, Nat.le_trans (by simp) h2.size, fun k hk hne => (h2.block k (by simp; omega) hne).trans (Below.heap_alloc w _ k hk)⟩
end
/-- A place is kept, if it is not. -/
def keepR (s : Pu) (place : Int) (data : List UInt8) : Pu := if hfound s.ah place = true then s else ⟨s.ent, s.ret, s.q, hins s.ah place data⟩
def UnderH (l : List (Int × List UInt8)) (k : Int) (j : Nat) : Prop := ∀ (i : Nat) (p : Int × List UInt8), i < j → l[i]? = some p → p.1 < k
set_option maxRecDepth 100000
section
set_option maxHeartbeats 2000000 in
theorem keepR_any (w : World) (gn gr : Nat) (c : Cfg) (s : Pu) (h : PrAt w gn gr c s) (hn0 : s.ah.length ≤ 100000) (place : Int) (v : Value) (data : List UInt8) (hv : IsSlice repByte w (all w) v data) (hd : data.length ≤ 16777216) :
    Calls Try.prog 81 #[.pointer (some ⟨gr, 0, none⟩), .int .i64 place, v] w fun e w' => e = .returned (.tuple #[]) ∧ PrAt w' gn gr c (keepR s place data) ∧ Below gn w w' := by
  have h0 := h
  have hKR : keepR s place data = if hfound s.ah place = true then s else ⟨s.ent, s.ret, s.q, hins s.ah place data⟩ := rfl
  have hIS := hins_is s.ah place data
  obtain ⟨hlt0, qv, lv, hb, hbn, hown, hl⟩ := h
  have hgr := hb.lt
  obtain ⟨A, n, cc, rfl, hnc, hcm, hrow⟩ := hl
  have hn := hrow.1
  have hls : IsSlice repLate w (LateIn gr w qv) (.slice A n cc) s.ah := ⟨A, n, cc, rfl, hnc, hcm, hrow⟩
  obtain ⟨_, _, _, c8, _, _, z8, _, _⟩ := prCellsAt hb
  have HKR := hid hKR
  have HIS := hid hIS
  have HN := hid hn
  have HB := hid hb
  have HBN := hid hbn
  have HOW := hid hown
  have HLS := hid hls
  have H0 := hid h0
  have HV := hid hv
  rw [hn] at hn0
  unfold maxLen at hcm
  obtain ⟨Av, cv, rfl⟩ := hv.shape
  clear hKR hIS hn hb hbn hown hls h0 hv
  go_enter Try.func81, Try.ntmps81
  go_wp2
  go_loop [6] (fun i => ∃ j : Nat, j ≤ n ∧ i = .int .i64 j ∧ UnderH s.ah place j) (fun i => n - (intOf i).toNat)
  case atStart => exact ⟨0, Nat.zero_le _, rfl, fun i p hi => by omega⟩
  case round =>
    obtain ⟨j, hj, rfl, hun⟩ := hrel
    have hcase : (∃ x : Int × List UInt8, j < n ∧ s.ah[j]? = some x ∧ x.1 < place) ∨ (∃ x : Int × List UInt8, hplace s.ah place = j ∧ j < n ∧ s.ah[j]? = some x ∧ place ≤ x.1) ∨ (hplace s.ah place = j ∧ j = n) := by
      by_cases hlt : j < n
      · have hjl : j < s.ah.length := by have := HN.out; omega
        have hx : s.ah[j]? = some s.ah[j] := List.getElem?_eq_getElem hjl
        by_cases hp : s.ah[j].1 < place
        · exact .inl ⟨_, hlt, hx, hp⟩
        · exact .inr (.inl ⟨_, hplace_is hun (fun p hp' => by rw [hx] at hp'; injection hp' with hp'; rw [← hp']; omega) (by omega), hlt, hx, by omega⟩)
      · exact .inr (.inr ⟨hplace_is hun (fun p hp' => by have := lt_of_get hp'; have := HN.out; omega) (by have := HN.out; omega), by omega⟩)
    have HUN := hid hun
    clear hun
    rcases hcase with ⟨x, hlt, hx, hxp⟩ | ⟨x, hpl, hlt, hx, hxp⟩ | ⟨hpl, hje⟩
    · obtain ⟨b, off, y, A', c', rfl, hbS, hy, _, m0, _⟩ := hrow.late hlt
      obtain rfl : x = y := by rw [hx] at hy; injection hy
      have HX := hid hx
      clear hx hy
      go_wp2
      go_round
      case rel =>
        refine ⟨j + 1, by omega, by go_num, fun i p hi hp => ?_⟩
        by_cases hij : i = j
        · rw [hij, HX.out] at hp
          injection hp with hp
          rw [← hp]; exact hxp
        · exact HUN.out i p (by omega) hp
      case measure => simp [intOf]; omega
    · obtain ⟨b, off, y, A', c', rfl, hbS, hy, _, m0, _⟩ := hrow.late hlt
      obtain rfl : x = y := by rw [hx] at hy; injection hy
      have hfd : hfound s.ah place = (x.1 == place) := by unfold hfound; rw [hpl, hx]; rfl
      have hnl : decide (x.1 < place) = false := decide_eq_false (by omega)
      by_cases he : x.1 = place
      · have hK := HKR.out
        rw [if_pos (by rw [hfd]; simpa using he)] at hK
        have HK := hid hK
        have hBq : (x.1 == place) = true := by simpa using he
        generalize x.1 = xp at *
        clear hx hy hfd hpl hK he
        go_wp2
        refine bodyPost_ret (results_none rfl _ _ _) rfl ?_
        exact ⟨rfl, by rw [HK.out]; exact H0.out, Below.refl _ _⟩
      · have hK := HKR.out
        rw [if_neg (by rw [hfd]; simpa using he), HIS.out, hpl] at hK
        have HK := hid hK
        have hBq : (x.1 == place) = false := by simpa using he
        generalize x.1 = xp at *
        clear hx hy hfd hpl hK he
        have HC := hid (fun (W : World) (he : Ext w W) => copyB_any _ _ W (HV.out.ext he) hd)
        obtain ⟨A1, hr1, hs1⟩ := cut_to (P := Try.prog) Try.underlying57 elem_late HLS.out (k := j) hj
        obtain ⟨A2, hr2, hs2⟩ := cut_from (P := Try.prog) Try.underlying57 elem_late HLS.out (k := j) hj
        have hl1 : (s.ah.take j).length = j := by rw [List.length_take, HN.out]; omega
        have hl2 : (s.ah.drop j).length = n - j := by rw [List.length_drop, HN.out]
        have HL1 := hid hl1
        have HL2 := hid hl2
        have hqlt : ∀ b, qv.ownBlock = some b → b < w.heap.size := fun b hb => (HOW.out.lt b hb).2
        have HQL := hid hqlt
        clear hl1 hl2 hqlt
        go_upto_region 5 with (at_builtin; refine wpl_app (r := repOut (fun b => qv.ownBlock = some b) repLate) (base := gr + 1) (v := .slice (some ⟨w.heap.size, 0, none⟩) 0 0) (xs := []) (news := s.ah.take j) _ _ rfl rfl Try.underlying57 elem_late (by show 0 < 2; decide) (own_lit (xs := []) hgr (by simp [maxLen]) (by simp) (by simp)) (hs1.toOut (ext_alloc w _) (fun b hb => hb) (by simp [Value.ownBlock])) rfl rfl (by have := HL1.out; simp; omega) (by have := HL1.out; simp [maxLen]; omega) (by simp; omega) ?_; intro v3 w3 hown3 hg3 hb33)
        have hx3 : Ext w w3 := Below.grown (ext_alloc w _) hg3 (by simp) (by simp [Value.ownBlock])
        have hown3' : Own (repOut (fun b => qv.ownBlock = some b) repLate) 63 (gr + 1) w3 v3 (s.ah.take j) := by simpa using hown3
        have hv3 : ∀ k, v3.ownBlock = some k → w.heap.size ≤ k := fun k hk => by
          rcases hb33 with h | h
          · rw [h] at hk; simp [Value.ownBlock] at hk; omega
          · rw [h] at hk; simp at hk; omega
        have HV3 := hid hv3
        have f3 := (hx3.cell hgr 8).trans c8
        have hsz3 : gr + 1 ≤ w3.heap.size := by have := hx3.size; omega
        clear hown3 hg3 hb33 hv3
        go_upto_region 6 with (first
          | (go_at_call 112; refine (HC.out _ hx3).mono ?_; rintro e w4 ⟨u4, rfl, hu4, hx4⟩; have hown4 := hown3'.ext hx4; have hu5 : IsSlice repByte w4 (fun b => el (gr + 1) w4 v3 b ∧ ¬ qv.ownBlock = some b) u4 data := hu4.keep (fun b hb => ⟨⟨⟨by have := hb.1; omega, hb.2, fun e => by have := (hown3'.lt b e).2; have := hb.1; omega⟩, fun e => by have := HQL.out b e; have := hb.1; have := hx3.size; omega⟩, fun _ => rfl⟩); obtain ⟨A4, c4, rfl⟩ := hu4.shape; have f4 := (hx4.cell (by have := hx3.size; omega) 8).trans f3; clear hu4)
          | (at_builtin; refine wpl_app1b (r := repOut (fun b => qv.ownBlock = some b) repLate) (base := gr + 1) (x := (place, data)) (cs := #[.int .i64 place, .slice A4 data.length c4]) _ _ rfl rfl Try.underlying57 elem_late (by show 0 < 2; decide) hown4 rfl rfl rfl ⟨_, rfl, hu5⟩ (by rw [HL1.out]; omega) (by rw [HL1.out]; simp only [maxLen]; omega) (Nat.le_trans hsz3 hx4.size) ?_; intro v5 w5 hown5 hg5 hb55))
        have hx45 : Ext w w5 := Below.grown (Ext.trans hx3 hx4) hg5 (Nat.le_trans hx3.size hx4.size) (fun b hb => HV3.out b hb)
        have hv5 : ∀ k, v5.ownBlock = some k → w.heap.size ≤ k := fun k hk => by
          rcases hb55 with h | h
          · exact HV3.out k (by rw [← h]; exact hk)
          · have e := h.symm.trans hk
            injection e with e
            have := hx3.size; have := hx4.size; omega
        have HV5 := hid hv5
        have f5 := (hx45.cell hgr 8).trans c8
        have hl4 : (s.ah.take j ++ [(place, data)]).length = j + 1 := by rw [List.length_append, HL1.out]; rfl
        have HL4 := hid hl4
        have hsz5 : gr + 1 ≤ w5.heap.size := by have := hx45.size; omega
        clear hl4 hg5 hb55 hv5 f3 f4 c8
        go_wp2_with (at_builtin; refine wpl_app (r := repOut (fun b => qv.ownBlock = some b) repLate) (base := gr + 1) (xs := s.ah.take j ++ [(place, data)]) (news := s.ah.drop j) _ _ rfl rfl Try.underlying57 elem_late (by show 0 < 2; decide) hown5 (hs2.toOut hx45 (fun b hb => hb) HV5.out) rfl rfl (by rw [HL4.out, HL2.out]; omega) (by rw [HL4.out, HL2.out]; simp only [maxLen]; omega) hsz5 ?_; intro v6 w6 hown6 hg6 hb66; obtain ⟨NL, hNL⟩ : ∃ NL, NL = s.ah.take j ++ [(place, data)] ++ s.ah.drop j := ⟨_, rfl⟩; rw [← hNL] at hown6; have HNL := hid hNL; clear hNL; obtain ⟨A7, c7, rfl, _⟩ := hown6.form; have hx6 : Ext w w6 := Below.grown hx45 hg6 hx45.size (fun b hb => HV5.out b hb); have hb6 := HB.out.ext hx6; have f6 := hb6.cell 8; have f7 := hb6.frozen 8)
        go_end0
        have hv6 : ∀ k, (Value.slice A7 NL.length c7).ownBlock = some k → w.heap.size ≤ k := fun k hk => by
          rcases hb66 with h | h
          · exact HV5.out k (by rw [← h]; exact hk)
          · have e := h.symm.trans hk
            injection e with e
            have := hx45.size; omega
        have hs := hb6.set_ 8 (.slice A7 NL.length c7)
        have ho : Only gr w6 (w6.setCell ⟨gr, 8, none⟩ (.slice A7 NL.length c7)) := (Only.refl _ _).set_ _ _
        have hl7 := hown6.fromOut (fun b hb e => by have := hv6 b hb; have := HQL.out b e; omega)
        refine ⟨rfl, ?_, Below.grown (hx6.mono (by omega)) ho (by have := hx6.size; omega) (fun b hb => by injection hb with hb; omega)⟩
        rw [HK.out]
        refine ⟨hlt0, qv, _, hs, (HBN.out.ext hx6).grown ho (fun e => by injection e with e; omega), (HOW.out.ext hx6).out (X := fun b => b = gr) (Out.of_only ho rfl) (fun b hb => by omega), ?_⟩
        have hNe : s.ah.take j ++ (place, data) :: s.ah.drop j = NL := by rw [HNL.out]; simp
        show IsSlice repLate _ _ _ (s.ah.take j ++ (place, data) :: s.ah.drop j)
        rw [hNe]
        exact hl7.keep (fun b hb => ⟨⟨hb.1, Nat.lt_of_lt_of_le hb.2.1 ho.size, hb.2.2⟩, fun o => ho.cell hb.2.1 (by have := hb.1; omega) o⟩)
    · have hfd : hfound s.ah place = false := by unfold hfound; rw [hpl, List.getElem?_eq_none (by have := HN.out; omega)]; rfl
      have hK := HKR.out
      rw [if_neg (by rw [hfd]; decide), HIS.out, hpl] at hK
      have HK := hid hK
      have hnl : decide (j < n) = false := decide_eq_false (by omega)
      have hje2 : ¬ j < n := by omega
      clear hfd hpl hK hje
      have HC := hid (fun (W : World) (he : Ext w W) => copyB_any _ _ W (HV.out.ext he) hd)
      obtain ⟨A1, hr1, hs1⟩ := cut_to (P := Try.prog) Try.underlying57 elem_late HLS.out (k := j) hj
      obtain ⟨A2, hr2, hs2⟩ := cut_from (P := Try.prog) Try.underlying57 elem_late HLS.out (k := j) hj
      have hl1 : (s.ah.take j).length = j := by rw [List.length_take, HN.out]; omega
      have hl2 : (s.ah.drop j).length = n - j := by rw [List.length_drop, HN.out]
      have HL1 := hid hl1
      have HL2 := hid hl2
      have hqlt : ∀ b, qv.ownBlock = some b → b < w.heap.size := fun b hb => (HOW.out.lt b hb).2
      have HQL := hid hqlt
      clear hl1 hl2 hqlt
      go_upto_region 5 with (at_builtin; refine wpl_app (r := repOut (fun b => qv.ownBlock = some b) repLate) (base := gr + 1) (v := .slice (some ⟨w.heap.size, 0, none⟩) 0 0) (xs := []) (news := s.ah.take j) _ _ rfl rfl Try.underlying57 elem_late (by show 0 < 2; decide) (own_lit (xs := []) hgr (by simp [maxLen]) (by simp) (by simp)) (hs1.toOut (ext_alloc w _) (fun b hb => hb) (by simp [Value.ownBlock])) rfl rfl (by have := HL1.out; simp; omega) (by have := HL1.out; simp [maxLen]; omega) (by simp; omega) ?_; intro v3 w3 hown3 hg3 hb33)
      have hx3 : Ext w w3 := Below.grown (ext_alloc w _) hg3 (by simp) (by simp [Value.ownBlock])
      have hown3' : Own (repOut (fun b => qv.ownBlock = some b) repLate) 63 (gr + 1) w3 v3 (s.ah.take j) := by simpa using hown3
      have hv3 : ∀ k, v3.ownBlock = some k → w.heap.size ≤ k := fun k hk => by
        rcases hb33 with h | h
        · rw [h] at hk; simp [Value.ownBlock] at hk; omega
        · rw [h] at hk; simp at hk; omega
      have HV3 := hid hv3
      have f3 := (hx3.cell hgr 8).trans c8
      have hsz3 : gr + 1 ≤ w3.heap.size := by have := hx3.size; omega
      clear hown3 hg3 hb33 hv3
      go_upto_region 6 with (first
        | (go_at_call 112; refine (HC.out _ hx3).mono ?_; rintro e w4 ⟨u4, rfl, hu4, hx4⟩; have hown4 := hown3'.ext hx4; have hu5 : IsSlice repByte w4 (fun b => el (gr + 1) w4 v3 b ∧ ¬ qv.ownBlock = some b) u4 data := hu4.keep (fun b hb => ⟨⟨⟨by have := hb.1; omega, hb.2, fun e => by have := (hown3'.lt b e).2; have := hb.1; omega⟩, fun e => by have := HQL.out b e; have := hb.1; have := hx3.size; omega⟩, fun _ => rfl⟩); obtain ⟨A4, c4, rfl⟩ := hu4.shape; have f4 := (hx4.cell (by have := hx3.size; omega) 8).trans f3; clear hu4)
        | (at_builtin; refine wpl_app1b (r := repOut (fun b => qv.ownBlock = some b) repLate) (base := gr + 1) (x := (place, data)) (cs := #[.int .i64 place, .slice A4 data.length c4]) _ _ rfl rfl Try.underlying57 elem_late (by show 0 < 2; decide) hown4 rfl rfl rfl ⟨_, rfl, hu5⟩ (by rw [HL1.out]; omega) (by rw [HL1.out]; simp only [maxLen]; omega) (Nat.le_trans hsz3 hx4.size) ?_; intro v5 w5 hown5 hg5 hb55))
      have hx45 : Ext w w5 := Below.grown (Ext.trans hx3 hx4) hg5 (Nat.le_trans hx3.size hx4.size) (fun b hb => HV3.out b hb)
      have hv5 : ∀ k, v5.ownBlock = some k → w.heap.size ≤ k := fun k hk => by
        rcases hb55 with h | h
        · exact HV3.out k (by rw [← h]; exact hk)
        · have e := h.symm.trans hk
          injection e with e
          have := hx3.size; have := hx4.size; omega
      have HV5 := hid hv5
      have f5 := (hx45.cell hgr 8).trans c8
      have hl4 : (s.ah.take j ++ [(place, data)]).length = j + 1 := by rw [List.length_append, HL1.out]; rfl
      have HL4 := hid hl4
      have hsz5 : gr + 1 ≤ w5.heap.size := by have := hx45.size; omega
      clear hl4 hg5 hb55 hv5 f3 f4 c8
      go_wp2_with (at_builtin; refine wpl_app (r := repOut (fun b => qv.ownBlock = some b) repLate) (base := gr + 1) (xs := s.ah.take j ++ [(place, data)]) (news := s.ah.drop j) _ _ rfl rfl Try.underlying57 elem_late (by show 0 < 2; decide) hown5 (hs2.toOut hx45 (fun b hb => hb) HV5.out) rfl rfl (by rw [HL4.out, HL2.out]; omega) (by rw [HL4.out, HL2.out]; simp only [maxLen]; omega) hsz5 ?_; intro v6 w6 hown6 hg6 hb66; obtain ⟨NL, hNL⟩ : ∃ NL, NL = s.ah.take j ++ [(place, data)] ++ s.ah.drop j := ⟨_, rfl⟩; rw [← hNL] at hown6; have HNL := hid hNL; clear hNL; obtain ⟨A7, c7, rfl, _⟩ := hown6.form; have hx6 : Ext w w6 := Below.grown hx45 hg6 hx45.size (fun b hb => HV5.out b hb); have hb6 := HB.out.ext hx6; have f6 := hb6.cell 8; have f7 := hb6.frozen 8)
      go_end0
      have hv6 : ∀ k, (Value.slice A7 NL.length c7).ownBlock = some k → w.heap.size ≤ k := fun k hk => by
        rcases hb66 with h | h
        · exact HV5.out k (by rw [← h]; exact hk)
        · have e := h.symm.trans hk
          injection e with e
          have := hx45.size; omega
      have hs := hb6.set_ 8 (.slice A7 NL.length c7)
      have ho : Only gr w6 (w6.setCell ⟨gr, 8, none⟩ (.slice A7 NL.length c7)) := (Only.refl _ _).set_ _ _
      have hl7 := hown6.fromOut (fun b hb e => by have := hv6 b hb; have := HQL.out b e; omega)
      refine ⟨rfl, ?_, Below.grown (hx6.mono (by omega)) ho (by have := hx6.size; omega) (fun b hb => by injection hb with hb; omega)⟩
      rw [HK.out]
      refine ⟨hlt0, qv, _, hs, (HBN.out.ext hx6).grown ho (fun e => by injection e with e; omega), (HOW.out.ext hx6).out (X := fun b => b = gr) (Out.of_only ho rfl) (fun b hb => by omega), ?_⟩
      have hNe : s.ah.take j ++ (place, data) :: s.ah.drop j = NL := by rw [HNL.out]; simp
      show IsSlice repLate _ _ _ (s.ah.take j ++ (place, data) :: s.ah.drop j)
      rw [hNe]
      exact hl7.keep (fun b hb => ⟨⟨hb.1, Nat.lt_of_lt_of_le hb.2.1 ho.size, hb.2.2⟩, fun o => ho.cell hb.2.1 (by have := hb.1; omega) o⟩)
end
end Go.Proofs.Ytjchobncmogcpaa
