/- The law TimerDue: its walk. -/
import Derived.Test.YtjchobncmogcpaaTimerLive
namespace Go.Proofs.Ytjchobncmogcpaa
open Go.RowKit

/-- The timer of a number waits no longer than it may. -/
structure DueAt (W w : World) (gt b : Nat) (most key : Int) (T : List Tm) (t : Tm) (wt : Int) (k : Nat) : Prop where
  tm : TmAt w gt b most T
  ok : TmOk most T
  look : tlook T key = some t
  le : t.left ≤ wt
  le2 : wt ≤ 64
  first : k = 0 → t.left = 1
  ext : Ext W w
theorem dueT_mem {T : List Tm} (ha : Asc T) {key : Int} {t : Tm} (hl : tlook T key = some t) : key ∈ dueT T ↔ isDue t = true := by
  obtain ⟨h1, h2⟩ := tlook_mem hl
  unfold dueT
  rw [List.mem_map]
  constructor
  · rintro ⟨x, hx, hk⟩
    obtain ⟨hxT, hd⟩ := List.mem_filter.1 hx
    have := tlook_some ha hxT
    rw [hk, hl] at this
    injection this with this
    rw [this]
    exact hd
  · intro hd
    exact ⟨t, List.mem_filter.2 ⟨h1, hd⟩, h2⟩
theorem mem_takeStep {D : List Int} {j : Nat} {y key : Int} (hy : D[j]? = some y) : decide (key ∈ D.take (j + 1)) = (decide (key ∈ D.take j) || (y == key)) := by
  rw [take_succ_of hy]
  apply Bool.eq_iff_iff.2
  rw [decide_eq_true_iff, List.mem_append, Bool.or_eq_true, decide_eq_true_iff]
  simp only [List.mem_singleton, beq_iff_eq]
  constructor
  · rintro (h | h)
    · exact .inl h
    · exact .inr h.symm
  · rintro (h | h)
    · exact .inl h
    · exact .inr h.symm
set_option maxRecDepth 100000
section
theorem due_tick {W w : World} {gt b : Nat} {most key : Int} {T : List Tm} {t : Tm} {wt : Int} {k : Nat} (h : DueAt W w gt b most key T t wt k) (h3 : W.heap.size ≤ b) (hT : T.length ≤ 1000) (hm1 : 1 ≤ most) (hm2 : most ≤ 64) :
    Calls Try.prog 45 #[.pointer (some ⟨gt, 0, none⟩)] w fun e w3 => ∃ A c, e = .returned (.slice A (dueT T).length c) ∧ IsSlice (repInt .i64) w3 (all w3) (.slice A (dueT T).length c) (dueT T) ∧
      Wall (DueAt W w3 gt b most key (tickT most T) (tick1 most t) (if isDue t = true then most else wt - 1) (k + 1)) := by
  refine (tmTick_any w gt b most T h.tm h.ok hT hm2).mono ?_
  rintro e w3 ⟨u, rfl, hu, ht3, ho3⟩
  obtain ⟨A, c, rfl⟩ := hu.shape
  have hlk : tlook (tickT most T) key = some (tick1 most t) := by
    unfold tickT
    rw [tlook_map (tick1_key most), h.look]
    rfl
  have h1 := (h.ok.ok t (tlook_mem h.look).1).2
  have hle := h.le
  have hle2 := h.le2
  refine ⟨A, c, rfl, hu.any, ⟨⟨ht3, tickT_ok hm1 h.ok, hlk, ?_, ?_, fun e => by omega, ho3.ext_new h.ext h3⟩⟩⟩
  · unfold isDue tick1
    by_cases hd : t.left - 1 ≤ 0
    · rw [if_pos (decide_eq_true hd), if_neg (by omega)]
      simp only
      omega
    · rw [if_neg (fun e => hd (of_decide_eq_true e)), if_pos (by omega)]
      simp only
      omega
  · split <;> omega
theorem due_set {W w : World} {gt b : Nat} {most key : Int} {T : List Tm} {t : Tm} {wt : Int} {k : Nat} (h : DueAt W w gt b most key T t wt k) (h3 : W.heap.size ≤ b) (hm1 : 1 ≤ most) (q : Int) (hq : (Lit.int .i64 q).wf = true) (hne : q ≠ key) :
    Calls Try.prog 47 #[.pointer (some ⟨gt, 0, none⟩), .int .i64 q] w fun e w3 => e = .returned (.tuple #[]) ∧ Wall (DueAt W w3 gt b most key (tset T ⟨q, 1, 1⟩) t wt (k + 1)) := by
  refine (tmSet_any w gt b most T h.tm h.ok.asc q).mono ?_
  rintro e w3 ⟨rfl, ht3, ho3⟩
  refine ⟨rfl, ⟨⟨ht3, tset_ok h.ok ⟨hq, Int.le_refl _, Int.le_refl _, hm1⟩, ?_, h.le, h.le2, fun e => by omega, ho3.ext_new h.ext h3⟩⟩⟩
  rw [tset_look _ _ _ h.ok.asc, if_neg hne, h.look]
theorem due_clear {W w : World} {gt b : Nat} {most key : Int} {T : List Tm} {t : Tm} {wt : Int} {k : Nat} (h : DueAt W w gt b most key T t wt k) (h3 : W.heap.size ≤ b) (q : Int) (hne : q ≠ key) :
    Calls Try.prog 49 #[.pointer (some ⟨gt, 0, none⟩), .int .i64 q] w fun e w3 => ∃ bb, e = .returned (.bool bb) ∧ Wall (DueAt W w3 gt b most key (tdel T q) t wt (k + 1)) := by
  refine (tmClear_any w gt b most T h.tm h.ok.asc q).mono ?_
  rintro e w3 ⟨rfl, ht3, ho3⟩
  refine ⟨_, rfl, ⟨⟨ht3, tdel_ok h.ok q, ?_, h.le, h.le2, fun e => by omega, ho3.ext_new h.ext h3⟩⟩⟩
  rw [tdel_look _ _ _ h.ok.asc, if_neg hne, h.look]
theorem DueAt.more {W w : World} {gt b : Nat} {most key : Int} {T : List Tm} {t : Tm} {wt : Int} {k : Nat} (h : DueAt W w gt b most key T t wt k) : DueAt W w gt b most key T t wt (k + 1) :=
  ⟨h.tm, h.ok, h.look, h.le, h.le2, fun e => by omega, h.ext⟩
set_option maxHeartbeats 4000000 in
theorem timerDue_any (a0 key : Int) (hkey : (Lit.int .i64 key).wf = true) (v : Value) (acts : List (Int × Int)) (W : World) (o1 : IsSlice repAct W (all W) v acts) :
    Calls Try.prog 10 #[.int .i64 a0, .int .i64 key, v] W fun e w' => e = .returned (.bool true) ∧ Ext W w' := by
  obtain ⟨A, n, c, rfl, hnc, hcm, hrow⟩ := o1
  have hn := hrow.1
  have hmax : n ≤ 9223372036854775807 := by unfold maxLen at hcm; omega
  have HN := hid hn
  have HLV := hid (fun (w1 : World) => tmLive_any w1)
  have HKW := hid hkey
  clear hn hkey
  by_cases hm : 1 ≤ a0 ∧ a0 ≤ 64
  · obtain ⟨hm1, hm2⟩ := hm
    have HNW := hid (tmNew_yes W a0 hm1 hm2)
    by_cases hbig : 200 < n
    · have hB : decide (200 < n) = true := decide_eq_true hbig
      go_enter Try.func10, Try.ntmps10
      go_wp2_with (first
        | (go_at_call 41; refine HNW.out.mono ?_; rintro e w1 ⟨gt, b, rfl, hgt, hbb, ht1, hx1⟩)
        | (go_at_call 43; refine (numT_any 0 _).mono ?_; rintro e w3 ⟨rfl, rfl⟩)
        | (go_at_call 40; refine (HLV.out _).mono ?_; rintro e w4 ⟨rfl, hx4⟩))
      go_ret
      exact ⟨rfl, Ext.trans hx1 hx4⟩
    · have hB : decide (200 < n) = false := decide_eq_false hbig
      go_enter Try.func10, Try.ntmps10
      go_wp2_with (first
        | (go_at_call 41; refine HNW.out.mono ?_; rintro e w1 ⟨gt, b, rfl, hgt, hbb, ht1, hx1⟩)
        | (go_at_call 43; refine (numT_any 0 _).mono ?_; rintro e w3 ⟨rfl, rfl⟩)
        | (go_at_call 47; refine (tmSet_any w1 gt b a0 [] ht1 (by simp [Asc]) key).mono ?_; rintro e w2 ⟨rfl, ht2, ho2⟩))
      have hD0 : DueAt W w2 gt b a0 key [⟨key, 1, 1⟩] ⟨key, 1, 1⟩ 1 0 := ⟨ht2, ⟨by simp [Asc], fun t ht => by simp at ht; subst ht; exact ⟨HKW.out, Int.le_refl _, Int.le_refl _, hm1⟩⟩, by simp [tlook], Int.le_refl _, by decide, fun _ => rfl, ho2.ext_new hx1 hbb⟩
      have HD0 := hid hD0
      clear hD0 ht1 ht2 ho2 hx1
      go_loopw [9, 10] (fun wv i wr => ∃ (k : Nat) (T : List Tm) (t : Tm) (wt : Int), k ≤ n ∧ wv = .int .i64 wt ∧ i = .int .i64 k ∧ T.length ≤ k + 1 ∧ Wall (DueAt W wr gt b a0 key T t wt k)) (fun _ i _ => n - (intOf i).toNat)
      case atStart => exact ⟨0, _, _, 1, Nat.zero_le _, rfl, rfl, Nat.le_refl _, HD0⟩
      case round =>
        obtain ⟨k, T, t, wt, hk, rfl, rfl, hTk, hb⟩ := hrel
        by_cases hlt : k < n
        · obtain ⟨b1, off, x, rfl, hbW, hx, hwf, e0, e1⟩ := hrow.act hlt
          obtain ⟨kind, q⟩ := x
          have HWF := hid hwf
          have f0 := (Ext.cell hb.out.ext hbW _).trans e0
          have f1 := (Ext.cell hb.out.ext hbW _).trans e1
          simp only at f0 f1 HWF
          clear hx hwf e0 e1
          by_cases k0 : kind = 0
          · subst k0
            have HTK := hid (due_tick hb.out hbb (by omega) hm1 hm2)
            have hmem := dueT_mem hb.out.ok.asc hb.out.look
            have hfst := hb.out.first
            have hle := hb.out.le
            have hw64 := hb.out.le2
            have h1l := (hb.out.ok.ok t (tlook_mem hb.out.look).1).2.1
            obtain ⟨isd, hisd⟩ : ∃ isd, isd = isDue t := ⟨_, rfl⟩
            have hk00 : isd = false → k ≠ 0 := fun hf e => by
              have := hfst e
              rw [hisd] at hf
              unfold isDue at hf
              rw [decide_eq_false_iff_not] at hf
              omega
            rw [← hisd] at HTK hmem
            obtain ⟨D, hD⟩ : ∃ D, D = dueT T := ⟨_, rfl⟩
            rw [← hD] at HTK hmem
            have hmD : decide (key ∈ D) = isd := by
              apply Bool.eq_iff_iff.2
              rw [decide_eq_true_iff]
              exact hmem
            have HMD := hid hmD
            have HK0 := hid hk00
            have hTl : (tickT a0 T).length ≤ k + 1 := by unfold tickT; rw [List.length_map]; exact hTk
            obtain ⟨T2, hT2⟩ : ∃ T2, T2 = tickT a0 T := ⟨_, rfl⟩
            obtain ⟨t2, ht2⟩ : ∃ t2, t2 = tick1 a0 t := ⟨_, rfl⟩
            rw [← hT2, ← ht2] at HTK
            rw [← hT2] at hTl
            obtain ⟨dl, hdl⟩ : ∃ dl, dl = D.length := ⟨_, rfl⟩
            rw [← hdl] at HTK
            have HDL := hid hdl
            have hw1 : 1 ≤ wt := by omega
            have hw2 : decide (wt - 1 < 0) = false := decide_eq_false (by omega)
            have hw3 : decide (wt < 1) = false := decide_eq_false (by omega)
            have hw4 : ¬ wt < 1 := by omega
            clear hmem hfst hisd hk00 hD hmD hT2 ht2 hdl hb hle h1l
            go_upto_region 16 with (go_at_call 45; refine HTK.out.mono ?_; rintro e w3 ⟨Au, cu, rfl, hu, hb3⟩)
            obtain ⟨A9, n9, c9, hv9, _, hcm9, hru⟩ := hu
            injection hv9 with g1 g2 g3
            subst g1 g2 g3
            unfold maxLen at hcm9
            go_wp2
            go_loop [12, 13] (fun is i => ∃ j : Nat, j ≤ dl ∧ is = .bool (decide (key ∈ D.take j)) ∧ i = .int .i64 j) (fun _ i => dl - (intOf i).toNat)
            case atStart => exact ⟨0, Nat.zero_le _, by simp, rfl⟩
            case round =>
              obtain ⟨j, hj, rfl, rfl⟩ := hrel
              by_cases hjl : j < dl
              · obtain ⟨b2, o2, y, rfl, _, hy, my, _⟩ := hru.int hjl
                have hms := mem_takeStep (key := key) hy
                obtain ⟨bd, hbd⟩ : ∃ bd, bd = decide (key ∈ D.take j) := ⟨_, rfl⟩
                rw [← hbd] at hms ⊢
                have HMS := hid hms
                clear hms hbd hy
                cases bd with
                | true =>
                  go_wp2
                  go_round
                  case rel => exact ⟨j + 1, by omega, by rw [HMS.out]; rfl, by go_num⟩
                  case measure => simp [intOf]; omega
                | false =>
                  go_wp2
                  go_round
                  case rel => exact ⟨j + 1, by omega, by rw [HMS.out, Bool.false_or], by go_num⟩
                  case measure => simp [intOf]; omega
              · have hje : D.take j = D := List.take_of_length_le (by have := HDL.out; omega)
                rw [hje, HMD.out]
                clear hje hru HDL
                have hjl' : j = dl := by omega
                subst hjl'
                cases isd with
                | true =>
                  have hbn : DueAt W w3 gt b a0 key T2 t2 a0 (k + 1) := hb3.out
                  have HBN := hid hbn
                  clear hbn hb3 HK0
                  by_cases hk0 : k = 0
                  · subst hk0
                    go_wp2
                    go_roundw
                    case rel => exact ⟨1, T2, t2, a0, by omega, rfl, rfl, by omega, HBN⟩
                    case measure => simp [intOf]; omega
                  · have hkb : ((k : Int) == 0) = false := by simp; omega
                    go_wp2
                    go_roundw
                    case rel => exact ⟨k + 1, T2, t2, a0, by omega, rfl, by go_num, by omega, HBN⟩
                    case measure => simp [intOf]; omega
                | false =>
                  have hbn : DueAt W w3 gt b a0 key T2 t2 (wt - 1) (k + 1) := hb3.out
                  have HBN := hid hbn
                  have hk0 := HK0.out rfl
                  have hkb : ((k : Int) == 0) = false := by simp; omega
                  clear hbn hb3 HK0 HTK HMD
                  go_wp2
                  go_roundw
                  case rel => exact ⟨k + 1, T2, t2, wt - 1, by omega, rfl, by go_num, by omega, HBN⟩
                  case measure => simp [intOf]; omega
          · have q0 : (kind == 0) = false := by simpa using k0
            have q0' : (kind != 0) = true := by simpa using k0
            by_cases hq : q = key
            · subst hq
              have hqq : (q != q) = false := by simp
              have hbm := hid hb.out.more
              clear hb k0
              by_cases k1 : kind = 1
              · subst k1
                go_wp2
                go_roundw
                case rel => exact ⟨k + 1, T, t, wt, by omega, rfl, by go_num, by omega, hbm⟩
                case measure => simp [intOf]; omega
              · have q1 : (kind == 1) = false := by simpa using k1
                clear k1
                by_cases k2 : kind = 2
                · subst k2
                  go_wp2
                  go_roundw
                  case rel => exact ⟨k + 1, T, t, wt, by omega, rfl, by go_num, by omega, hbm⟩
                  case measure => simp [intOf]; omega
                · have q2 : (kind == 2) = false := by simpa using k2
                  clear k2
                  go_wp2
                  go_roundw
                  case rel => exact ⟨k + 1, T, t, wt, by omega, rfl, by go_num, by omega, hbm⟩
                  case measure => simp [intOf]; omega
            · have hqq : (q != key) = true := by simpa using hq
              have HST := hid (due_set hb.out hbb hm1 q HWF.out hq)
              have HCL := hid (due_clear hb.out hbb q hq)
              have hbm := hid hb.out.more
              have hl1 := tset_len T ⟨q, 1, 1⟩
              have hl2 := tdel_len T q
              have hbx := fun o => Ext.cell hb.out.ext hbW o
              clear hbx k0 hq
              by_cases k1 : kind = 1
              · subst k1
                have HC2 := hid (fun (w3 : World) (he : Ext W w3) => (⟨(he.cell hbW _).trans ((hb.out.ext.cell hbW _).symm.trans f0), (he.cell hbW _).trans ((hb.out.ext.cell hbW _).symm.trans f1)⟩ : w3.cell? ⟨b1, off + k * 2, none⟩ = some (.int .i64 1) ∧ w3.cell? ⟨b1, off + k * 2 + 1, none⟩ = some (.int .i64 q)))
                clear hb
                go_wp2_with (first
                  | (go_at_call 47; refine HST.out.mono ?_; rintro e w3 ⟨rfl, hb3⟩; obtain ⟨g0, g1⟩ := HC2.out w3 hb3.out.ext))
                go_roundw
                case rel => exact ⟨k + 1, _, t, wt, by omega, rfl, by go_num, by omega, hb3⟩
                case measure => simp [intOf]; omega
              · have q1 : (kind == 1) = false := by simpa using k1
                clear k1
                by_cases k2 : kind = 2
                · subst k2
                  have HC2 := hid (fun (w3 : World) (he : Ext W w3) => (⟨(he.cell hbW _).trans ((hb.out.ext.cell hbW _).symm.trans f0), (he.cell hbW _).trans ((hb.out.ext.cell hbW _).symm.trans f1)⟩ : w3.cell? ⟨b1, off + k * 2, none⟩ = some (.int .i64 2) ∧ w3.cell? ⟨b1, off + k * 2 + 1, none⟩ = some (.int .i64 q)))
                  clear hb
                  go_wp2_with (first
                    | (go_at_call 49; refine HCL.out.mono ?_; rintro e w3 ⟨bb, rfl, hb3⟩; obtain ⟨g0, g1⟩ := HC2.out w3 hb3.out.ext))
                  go_roundw
                  case rel => exact ⟨k + 1, _, t, wt, by omega, rfl, by go_num, by omega, hb3⟩
                  case measure => simp [intOf]; omega
                · have q2 : (kind == 2) = false := by simpa using k2
                  clear k2 hb
                  go_wp2
                  go_roundw
                  case rel => exact ⟨k + 1, T, t, wt, by omega, rfl, by go_num, by omega, hbm⟩
                  case measure => simp [intOf]; omega
        · have hx := hb.out.ext
          clear hb
          go_wp2_with (first
            | (go_at_call 47; refine (tmSetNil_any _ _).mono ?_; rintro e w3 ⟨rfl, rfl⟩)
            | (go_at_call 52; refine (tmLeftNil_any _ _).mono ?_; rintro e w3 ⟨rfl, rfl⟩)
            | (go_at_call 45; refine (tmTickNil_any _).mono ?_; rintro e w3 ⟨rfl, rfl⟩)
            | (go_at_call 49; refine (tmClearNil_any _ _).mono ?_; rintro e w3 ⟨rfl, rfl⟩)
            | (go_at_call 51; refine (tmKeysNil_any _).mono ?_; rintro e w3 ⟨rfl, rfl⟩)
            | (go_at_call 40; refine (HLV.out _).mono ?_; rintro e w4 ⟨rfl, hx4⟩))
          go_ret
          exact ⟨rfl, Ext.trans hx hx4⟩
  · have HNW := hid (tmNew_no W a0 (by omega))
    clear hm
    go_enter Try.func10, Try.ntmps10
    go_wp2_with (first
      | (go_at_call 41; refine HNW.out.mono ?_; rintro e w1 ⟨rfl, rfl⟩)
      | (go_at_call 43; refine (numT_any 1 _).mono ?_; rintro e w3 ⟨rfl, rfl⟩)
      | (go_at_call 40; refine (HLV.out _).mono ?_; rintro e w4 ⟨rfl, hx4⟩))
    go_ret
    exact ⟨rfl, hx4⟩
end
end Go.Proofs.Ytjchobncmogcpaa
