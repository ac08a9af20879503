/- Timers: Tick. -/
import Derived.Test.YtimlbebockfioaaTimer
import Derived.Test.YtimlbebockfioaaTimerR
namespace Go.Proofs.Ytimlbebockfioaa
open Go.RowKit

/-- A tick under way. -/
structure TmRun (w3 wr : World) (gt b : Nat) (most : Int) (T : List Tm) (j : Nat) (D : List Int) (dv : Value) : Prop where
  blk : Blk wr gt 127 #[.int .i64 most, .map (some b)]
  map : ∃ l, MapSt (keyInt .i64) wr b l ∧ ∀ k, alook l k = (tlook T k).map (fun t => valT (fDone most ((T.take j).map (·.key)) t))
  due : Own (repInt .i64) 3 w3.heap.size wr dv D
  only : Only b w3 wr
section
variable {w3 wr w' : World} {gt b : Nat} {most : Int} {T : List Tm} {j : Nat} {D D' : List Int} {dv dv' : Value}
theorem TmRun.ext (h : TmRun w3 wr gt b most T j D dv) (he : Ext wr w') : TmRun w3 w' gt b most T j D dv := by
  obtain ⟨l, hm, hL⟩ := h.map
  exact ⟨h.blk.ext he, ⟨l, hm.ext he, hL⟩, h.due.ext he, h.only.then he⟩
theorem take_key_notin {j : Nat} {t : Tm} (ha : Asc T) (ht : T[j]? = some t) : t.key ∉ (T.take j).map (·.key) := by
  intro hm
  obtain ⟨x, hx, he⟩ := List.mem_map.1 hm
  have hj := lt_of_get ht
  obtain ⟨i, hi, hxi⟩ := List.mem_iff_getElem.1 hx
  rw [List.getElem_take] at hxi
  have hlt : i < j := by rw [List.length_take] at hi; omega
  have h1 := List.pairwise_iff_getElem.1 ha i j (by omega) hj hlt
  have h2 : T[j] = t := (List.getElem?_eq_some_iff.1 ht).2
  rw [hxi, h2] at h1
  omega
theorem TmRun.look (h : TmRun w3 wr gt b most T j D dv) (ha : Asc T) {t : Tm} (ht : T[j]? = some t) {P : Program} {tm ti te : TypeId} (h1 : P.underlying tm = some (.map ti te)) (h2 : P.underlying ti = some (.int .i64)) {z : Value} (hz : (zeroValue te).run P wr = .ok z wr) :
    (Instr.lookup tm (.map (some b)) (.int .i64 t.key) false).run P wr = .ok (valT t) wr := by
  obtain ⟨l, hm, hL⟩ := h.map
  have hl := hm.is.lookup (P := P) h1 h2 hz t.key
  rw [hL t.key, tlook_some ha (List.mem_of_getElem? ht)] at hl
  have : fDone most ((T.take j).map (·.key)) t = t := if_neg (take_key_notin ha ht)
  rw [Option.map_some, this] at hl
  exact hl
theorem look_step (ha : Asc T) {t : Tm} (ht : T[j]? = some t) {l : List (Int × Value)} (hL : ∀ k, alook l k = (tlook T k).map (fun t => valT (fDone most ((T.take j).map (·.key)) t))) :
    ∀ k, alook (aput l t.key (valT (tick1 most t))) k = (tlook T k).map (fun t => valT (fDone most ((T.take (j + 1)).map (·.key)) t)) := by
  intro k
  rw [alook_put2, hL k, take_succ_of ht, List.map_append]
  by_cases hk : t.key = k
  · subst hk
    rw [if_pos rfl, tlook_some ha (List.mem_of_getElem? ht), Option.map_some]
    have : fDone most ((T.take j).map (·.key) ++ [t].map (·.key)) t = tick1 most t := if_pos (by simp)
    rw [this]
  · rw [if_neg hk]
    cases hx : tlook T k with
    | none => rfl
    | some x =>
      have hxk := (tlook_mem hx).2
      rw [Option.map_some, Option.map_some]
      congr 2
      unfold fDone
      have : x.key ∈ (T.take j).map (·.key) ++ [t].map (·.key) ↔ x.key ∈ (T.take j).map (·.key) := by
        rw [List.mem_append]
        constructor
        · rintro (h | h)
          · exact h
          · simp at h; exact absurd (h.symm.trans hxk) hk
        · exact .inl
      by_cases hd : x.key ∈ (T.take j).map (·.key)
      · rw [if_pos hd, if_pos (this.2 hd)]
      · rw [if_neg hd, if_neg (fun e => hd (this.1 e))]
theorem TmRun.next (h : TmRun w3 wr gt b most T j D dv) (ha : Asc T) {t : Tm} (ht : T[j]? = some t) {l l' : List (Int × Value)} (hm : MapSt (keyInt .i64) w' b (aput l t.key (valT (tick1 most t)))) (hL : ∀ k, alook l k = (tlook T k).map (fun t => valT (fDone most ((T.take j).map (·.key)) t)))
    (hg : wr.grownBy w' (some b)) (hne : gt ≠ b) (hb : b < w3.heap.size) : TmRun w3 w' gt b most T (j + 1) D dv :=
  ⟨h.blk.grown hg (fun e => hne (by injection e)), ⟨_, hm, look_step ha ht hL⟩, h.due.out (X := fun k => k = b) (Out.of_only hg rfl) (fun k hk => by omega), h.only.trans hg⟩
theorem TmRun.app (h : TmRun w3 wr gt b most T j D dv) (hg : wr.grownBy w' dv.ownBlock) (ho : Own (repInt .i64) 3 w3.heap.size w' dv' D') (h1 : gt < w3.heap.size) (h2 : b < w3.heap.size) : TmRun w3 w' gt b most T j D' dv' := by
  have hd := h.due.lt
  obtain ⟨l, hm, hL⟩ := h.map
  refine ⟨h.blk.grown hg (fun e => by have := hd _ e.symm; omega), ⟨l, hm.kept hg (fun e => by have := hd _ e.symm; omega), hL⟩, ho, ?_⟩
  have h3 := h.only
  exact ⟨hg.os.trans h3.os, hg.tape.trans h3.tape, hg.output.trans h3.output, Nat.le_trans h3.size hg.size, fun k hk hne => (hg.block k (Nat.lt_of_lt_of_le hk h3.size) (fun e => by have := hd k e.symm; omega)).trans (h3.block k hk hne)⟩
theorem look_all {l : List (Int × Value)} (hL : ∀ k, alook l k = (tlook T k).map (fun t => valT (fDone most ((T.take T.length).map (·.key)) t))) : ∀ k, alook l k = (tlook (tickT most T) k).map valT := by
  intro k
  rw [hL k, List.take_length]
  unfold tickT
  rw [tlook_map (tick1_key most), Option.map_map]
  cases hx : tlook T k with
  | none => rfl
  | some x =>
    rw [Option.map_some, Option.map_some, fDone_all most (tlook_mem hx).1]
    rfl
end
set_option maxRecDepth 100000
section
set_option maxHeartbeats 2000000 in
theorem tmTick_any (w : World) (gt b : Nat) (most : Int) (T : List Tm) (h : TmAt w gt b most T) (ht : TmOk most T) (hT : T.length ≤ 1000) (hm64 : most ≤ 64) :
    Calls Try.prog 44 #[.pointer (some ⟨gt, 0, none⟩)] w fun e w' => ∃ u, e = .returned u ∧ IsSlice (repInt .i64) w' (fresh w w') u (dueT T) ∧ TmAt w' gt b most (tickT most T) ∧ Only b w w' := by
  have HI := hid (tmIs_any w gt b most T h)
  obtain ⟨hb, hne, l, hm, hL⟩ := h
  have hgtl := hb.lt
  have hbl := hm.lt
  have c1 := hb.cell 1
  have hLl := lenT hm hL
  have hwf : ∀ p ∈ l, (Lit.int .i64 p.1).wf = true := fun p hp => by
    obtain ⟨t, ht', he⟩ := List.mem_map.1 ((keysT hL p.1).1 (List.mem_map.2 ⟨p, hp, rfl⟩))
    rw [← he]
    exact (ht.ok t ht').1
  have hkeys : sortI (l.map (·.1)) = T.map (·.key) := sortI_is hm.nodup ht.asc.keys (keysT hL)
  have HS := hid (slicesSorted_any w b l hm hwf (by omega))
  rw [hkeys] at HS
  obtain ⟨n, hn⟩ : ∃ n, n = T.length := ⟨_, rfl⟩
  have HN := hid hn
  obtain ⟨KS, hKS⟩ : ∃ KS, KS = T.map (·.key) := ⟨_, rfl⟩
  rw [← hKS] at HS
  have HKS := hid hKS
  have hKn : KS.length = n := by rw [hKS, hn]; simp
  have HKN := hid hKn
  have HT := hid ht
  have HB := hid hb
  have HM := hid hm
  have HL := hid hL
  rw [← hn] at hT
  have hbx : ∀ w3, Below (w.heap.size + 1) (w.alloc (.cells #[.map (some b)] 125)) w3 → Ext w w3 := fun w3 hx => Ext.trans (ext_alloc _ _) (hx.mono (by simp))
  have HBX := hid hbx
  clear hb hm hL ht hwf hkeys hn hKS hKn hbx hLl
  go_enter Try.func44, Try.ntmps44
  go_wp2_with (first
    | (go_at_call 67; refine HI.out.mono ?_; rintro e w2 ⟨rfl, rfl⟩)
    | (go_at_call 73; refine (mapsKeys_any (some b) _).mono ?_; rintro e w2 ⟨rfl, rfl⟩)
    | (go_at_call 72; refine HS.out.mono ?_; rintro e w3 ⟨vk, rfl, hok, hb3⟩; obtain ⟨Ak, ck, hvk, hck1, hck2, _⟩ := hok.form; have hx3 := HBX.out w3 hb3; rw [HKN.out] at hvk hck1; subst hvk; clear hb3))
  have hr0 : TmRun w3 w3 gt b most T 0 (dueT (T.take 0)) (.slice none 0 0) := ⟨HB.out.ext hx3, ⟨l, HM.out.ext hx3, fun k => by rw [HL.out k]; rfl⟩, own_nil _ _ _ _, Only.refl _ _⟩
  have HR0 := hid hr0
  have hw3 := hx3.size
  unfold maxLen at hck2
  clear hr0 c1
  go_loopw [3, 17] (fun dv i wr => ∃ j : Nat, j ≤ n ∧ i = .int .i64 j ∧ TmRun w3 wr gt b most T j (dueT (T.take j)) dv) (fun _ i _ => n - (intOf i).toNat)
  case atStart => exact ⟨0, Nat.zero_le _, rfl, HR0.out⟩
  case round =>
    obtain ⟨j, hj, rfl, hr⟩ := hrel
    have hzr := hr.only.size
    by_cases hlt : j < n
    · have hjT : j < T.length := by have := HN.out; omega
      have hx : T[j]? = some T[j] := List.getElem?_eq_getElem hjT
      obtain ⟨t, hte⟩ : ∃ t, t = T[j] := ⟨_, rfl⟩
      rw [← hte] at hx
      obtain ⟨hwf, b1, b2, b3⟩ := HT.out.ok t (List.mem_of_getElem? hx)
      obtain ⟨A6, c6, hv6, _, _, hr6⟩ := (hok.out (X := fun k => k = b) (Out.of_only hr.only rfl) (fun k hk => by omega)).form
      have hjq : j < KS.length := by have := HKN.out; omega
      injection hv6 with ea eb ec
      subst ea
      obtain ⟨bk, ok, y, rfl, _, hy, hcy, _⟩ := hr6.int hjq
      have hyk : y = t.key := by
        rw [HKS.out, List.getElem?_map, hx] at hy
        simpa using hy.symm
      subst hyk
      have hz : (zeroValue 135).run Try.prog wr = .ok (.agg #[.int .i64 0, .int .i64 0]) wr := by rfl
      have hlk : (Instr.lookup 125 (.map (some b)) (.int .i64 t.key) false).run Try.prog wr = .ok (.agg #[.int .i64 t.left, .int .i64 t.span]) wr := hr.look HT.out.asc hx (P := Try.prog) Try.underlying125 Try.underlying3 hz
      have e0 := hr.blk.cell 0
      have e1 := hr.blk.cell 1
      have hgr := hr.blk.lt
      have HX := hid hx
      have HWF := hid hwf
      have hdx := dueT_step hx
      have HD := hid hdx
      have HDU : Wall (isDue t = decide (t.left - 1 ≤ 0)) := hid rfl
      have HT1 : Wall (tick1 most t = if t.left - 1 > 0 then ⟨t.key, t.left - 1, t.span⟩ else ⟨t.key, min (2 * t.span) most, min (2 * t.span) most⟩) := hid rfl
      obtain ⟨k, hk⟩ : ∃ k, k = t.key := ⟨_, rfl⟩
      obtain ⟨L, hL⟩ : ∃ L, L = t.left := ⟨_, rfl⟩
      obtain ⟨s0, hs0⟩ : ∃ s0, s0 = t.span := ⟨_, rfl⟩
      rw [← hk, ← hL, ← hs0] at hlk HT1
      rw [← hk] at hcy HWF HD
      rw [← hL] at HDU b1 b2
      rw [← hs0] at b2 b3
      have HK := hid hk
      clear hx hwf hdx hte hjT hjq hy hr6 eb ec hk hL hs0
      go_upto_region 8 with (fail)
      have hxa : Ext wr (wr.alloc (.cells #[.int .i64 L, .int .i64 s0] 135)) := ext_alloc _ _
      have hbx := Blk.new wr 135 #[.int .i64 L, .int .i64 s0]
      have hgg : wr.heap.size < (wr.alloc (.cells #[.int .i64 L, .int .i64 s0] 135)).heap.size := by simp
      have hxo : ∀ w', Only wr.heap.size (wr.alloc (.cells #[.int .i64 L, .int .i64 s0] 135)) w' → Ext wr w' := fun w' ho => Only.ext_new ho hxa (Nat.le_refl _)
      have hgb : b < wr.heap.size := by omega
      have HXO := hid hxo
      have HR := hid hr
      clear hxo hr hxa
      generalize wr.alloc (.cells #[.int .i64 L, .int .i64 s0] 135) = wx at *
      generalize hgx : wr.heap.size = gx at *
      have g0 : wx.cell? ⟨gx, 0, none⟩ = some (.int .i64 L) := hbx.cell 0
      have z0 := hbx.frozen 0
      have HGX := hid hgx
      clear hgx
      by_cases hl : L - 1 ≤ 0
      · obtain rfl : L = 1 := by omega
        have hb1 := hbx.set_ 0 (.int .i64 0)
        have ho1 : Only gx wx (wx.setCell ⟨gx, 0, none⟩ (.int .i64 0)) := (Only.refl _ _).set_ _ _
        have hb1' : Blk (wx.setCell ⟨gx, 0, none⟩ (.int .i64 0)) gx 135 #[.int .i64 0, .int .i64 s0] := hb1
        have HO1 := hid ho1
        have HB1 := hid hb1'
        have k0 := hb1'.cell 0
        clear hb1 ho1 hb1' hbx
        have hdu := HDU.out
        rw [decide_eq_true hl] at hdu
        have hd := HD.out
        rw [hdu, if_pos rfl] at hd
        have ht1 := HT1.out
        rw [if_neg (by omega)] at ht1
        have hD64 : (dueT (T.take j)).length ≤ n := by
          have := dueT_len (T.take j)
          rw [List.length_take] at this
          omega
        obtain ⟨sp, hsp⟩ : ∃ sp, sp = min (2 * s0) most := ⟨_, rfl⟩
        rw [← hsp] at ht1
        have HT2 := hid ht1
        have HD2 := hid hd
        have HSP := hid hsp
        have hs1 : 1 ≤ s0 := by omega
        have HR1 := hid (HR.out.ext (HXO.out _ HO1.out))
        clear HT1 HDU HD hdu hd ht1 hsp b1
        go_upto_region 10 with (fail)
        generalize wx.setCell ⟨gx, 0, none⟩ (.int .i64 0) = wy at *
        refine still_tailT 9 (by kernel_rfl) (by kernel_rfl) ?_
        intro w4 hw4
        have hx4 : Ext wy w4 := by rw [hw4]; exact ext_drewN _ 1
        clear hw4
        have hr4 := HR1.out.ext hx4
        have hb4 := HB1.out.ext hx4
        have HX4 := hid hx4
        have d0 := hr4.blk.cell 0
        have m1 := hb4.cell 1
        have y1 := hb4.frozen 1
        have HR4 := hid hr4
        have HB4 := hid hb4
        clear hr4 hb4 hx4 HR1
        simp only [List.take_succ_cons, List.take_zero, List.drop_succ_cons, List.drop_zero]
        repeat still_step
        refine wpStill_nil ?_
        have hwr : IntKind.i64.wrap (2 * s0) = 2 * s0 := IntWalk.i64_in _ (by omega)
        rw [hwr, ← HSP.out]
        have hb5 : Blk (w4.setCell ⟨gx, 1, none⟩ (.int .i64 sp)) gx 135 #[.int .i64 0, .int .i64 sp] := HB4.out.set_ 1 (.int .i64 sp)
        have hb6 : Blk ((w4.setCell ⟨gx, 1, none⟩ (.int .i64 sp)).setCell ⟨gx, 0, none⟩ (.int .i64 sp)) gx 135 #[.int .i64 sp, .int .i64 sp] := hb5.set_ 0 (.int .i64 sp)
        have ho6 : Only gx w4 ((w4.setCell ⟨gx, 1, none⟩ (.int .i64 sp)).setCell ⟨gx, 0, none⟩ (.int .i64 sp)) := ((Only.refl _ _).set_ _ _).set_ _ _
        have hr6 := HR.out.ext (HXO.out _ ((HO1.out.then HX4.out).trans ho6))
        have n0 := hb5.cell 0
        have n1 := hb5.cell 1
        have v0 := hb5.frozen 0
        have HB6 := hid hb6
        have HR6 := hid hr6
        clear hwr hb5 hb6 ho6 hr6
        go_upto_region 12 with (fail)
        generalize (w4.setCell ⟨gx, 1, none⟩ (.int .i64 sp)).setCell ⟨gx, 0, none⟩ (.int .i64 sp) = w6 at *
        clear n0 n1 v0 d0 m1 y1
        have hz6 := HR6.out.only.size
        go_upto_region 13 with (at_builtin; refine wpl_app1 (r := repInt .i64) (base := w3.heap.size) (x := k) (cs := #[.int .i64 k]) _ _ rfl rfl Try.underlying44 info_intM (by decide) HR6.out.due rfl rfl rfl ⟨rfl, HWF.out⟩ (by omega) (by simp only [maxLen]; omega) hz6 ?_; intro v7 w7 hown7 hg7)
        have hr7 := HR6.out.app hg7 hown7 (by omega) (by omega)
        have hb7 := HB6.out.grown hg7 (fun e => by have := HR.out.due.lt _ e.symm; have := HGX.out; omega)
        rw [← HD2.out] at hr7
        have HR7 := hid hr7
        have HB7 := hid hb7
        clear hr7 hb7 hg7 hown7
        refine still_tailT 6 (by kernel_rfl) (by kernel_rfl) ?_
        intro w8 hw8
        have hx8 : Ext w7 w8 := by rw [hw8]; exact ext_drewN _ 1
        clear hw8
        have hr8 := HR7.out.ext hx8
        have hb8 := HB7.out.ext hx8
        obtain ⟨l4, hm4, hL4⟩ := hr8.map
        have d0 := hr8.blk.cell 1
        have m0 := hb8.cell 0
        have m1 := hb8.cell 1
        have HR8 := hid hr8
        have HL4 := hid hL4
        clear hr8 hL4 hb8
        simp only [List.take_succ_cons, List.take_zero, List.drop_succ_cons, List.drop_zero]
        repeat still_step
        refine wpStill_nil ?_
        refine wpl_putSt (K := keyInt .i64) (k := k) _ _ _ rfl rfl Try.underlying125 Try.underlying3 hm4 rfl rfl rfl rfl ?_
        intro w9 hm9 hg9
        go_wp2
        go_roundw
        case rel =>
          exact ⟨j + 1, by omega, by go_num, HR8.out.next HT.out.asc HX.out (l := l4) (l' := l4) (by rw [HT2.out, ← HK.out]; exact hm9) HL4.out hg9 hne (by omega)⟩
        case measure => simp [intOf]; omega
      · have hB : (L - 1 == 0) = false := by simp; omega
        have hb1 := hbx.set_ 0 (.int .i64 (L - 1))
        have ho1 : Only gx wx (wx.setCell ⟨gx, 0, none⟩ (.int .i64 (L - 1))) := (Only.refl _ _).set_ _ _
        have hb1' : Blk (wx.setCell ⟨gx, 0, none⟩ (.int .i64 (L - 1))) gx 135 #[.int .i64 (L - 1), .int .i64 s0] := hb1
        have HO1 := hid ho1
        have HB1 := hid hb1'
        have k0 := hb1'.cell 0
        clear hb1 ho1 hb1' hbx
        have hdu := HDU.out
        rw [decide_eq_false hl] at hdu
        have hd := HD.out
        rw [hdu] at hd
        have ht1 := HT1.out
        rw [if_pos (by omega)] at ht1
        have HT2 := hid ht1
        have HD2 := hid hd
        clear HT1 HDU HD hdu hd ht1
        go_upto_region 13 with (fail)
        generalize wx.setCell ⟨gx, 0, none⟩ (.int .i64 (L - 1)) = wy at *
        refine still_tailT 6 (by kernel_rfl) (by kernel_rfl) ?_
        intro w4 hw4
        have hx4 : Ext wy w4 := by rw [hw4]; exact ext_drewN _ 1
        clear hw4
        have hr4 := HR.out.ext (Ext.trans (HXO.out _ HO1.out) hx4)
        have hb4 := HB1.out.ext hx4
        obtain ⟨l4, hm4, hL4⟩ := hr4.map
        have d0 := hr4.blk.cell 1
        have m0 := hb4.cell 0
        have m1 := hb4.cell 1
        have HR4 := hid hr4
        have HL4 := hid hL4
        clear hr4 hL4 hb4
        simp only [List.take_succ_cons, List.take_zero, List.drop_succ_cons, List.drop_zero]
        repeat still_step
        refine wpStill_nil ?_
        refine wpl_putSt (K := keyInt .i64) (k := k) _ _ _ rfl rfl Try.underlying125 Try.underlying3 hm4 rfl rfl rfl rfl ?_
        intro w5 hm5 hg5
        go_wp2
        go_roundw
        case rel =>
          refine ⟨j + 1, by omega, by go_num, ?_⟩
          have h9 := HR4.out.next HT.out.asc HX.out (l := l4) (l' := l4) (by rw [HT2.out, ← HK.out]; exact hm5) HL4.out hg5 hne (by omega)
          rw [HD2.out]
          simpa using h9
        case measure => simp [intOf]; omega
    · obtain rfl : j = n := by omega
      have HR := hid hr
      clear hr
      go_wp2
      go_ret
      have hr := HR.out
      have e2 := HN.out
      subst e2
      obtain ⟨l', hm', hL'⟩ := hr.map
      have hd := hr.due
      rw [List.take_length] at hd
      exact ⟨_, rfl, hd.own.keep (fun k hk => ⟨⟨by omega, hk.2⟩, fun _ => rfl⟩), ⟨hr.blk, hne, l', hm', look_all hL'⟩, (Only.of_ext hx3).trans hr.only⟩
end
end Go.Proofs.Ytimlbebockfioaa
