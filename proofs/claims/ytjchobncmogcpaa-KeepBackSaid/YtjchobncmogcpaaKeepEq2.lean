/- The comparisons of choices and runs. -/
import Derived.Test.YtjchobncmogcpaaKeepEq
namespace Go.Proofs.Ytjchobncmogcpaa
open Go.RowKit

theorem chCells5 {W : World} {g : Nat} {t : TypeId} {a b c u1 u2 : Value} (h : Blk W g t #[a, b, c, u1, u2]) : W.cell? ⟨g, 0, none⟩ = some a ∧ W.cell? ⟨g, 1, none⟩ = some b ∧ W.cell? ⟨g, 2, none⟩ = some c ∧ W.cell? ⟨g, 3, none⟩ = some u1 ∧ W.cell? ⟨g, 4, none⟩ = some u2 :=
  ⟨(h.cell 0).trans (by simp), (h.cell 1).trans (by simp), (h.cell 2).trans (by simp), (h.cell 3).trans (by simp), (h.cell 4).trans (by simp)⟩
theorem ch_ext {x y : Ch} (h1 : (x.kind == y.kind) = true) (h2 : (x.who == y.who) = true) (h3 : (x.at_ == y.at_) = true) (h4 : eqB x.data y.data = true) (h5 : eqB x.edits y.edits = true) : x = y := by
  have h4 := eqB_of h4
  have h5 := eqB_of h5
  cases x; cases y
  simp only [beq_iff_eq, Ch.mk.injEq] at h1 h2 h3 h4 h5 ⊢
  exact ⟨h1, h2, h3, h4, h5⟩
theorem ch_ne {x y : Ch} (h : (x.kind == y.kind) = false ∨ (x.who == y.who) = false ∨ (x.at_ == y.at_) = false ∨ eqB x.data y.data = false ∨ eqB x.edits y.edits = false) : x ≠ y := fun e => by
  subst e
  rcases h with h | h | h | h | h
  · simp at h
  · simp at h
  · simp at h
  · exact eqB_ne h rfl
  · exact eqB_ne h rfl
set_option maxRecDepth 100000
section
set_option maxHeartbeats 2000000 in
theorem sameCh_any (x y : Ch) (u1 u2 z1 z2 : Value) (w : World) (h1 : IsSlice repByte w (all w) u1 x.data) (h2 : IsSlice repEd w (all w) u2 x.edits) (k1 : IsSlice repByte w (all w) z1 y.data) (k2 : IsSlice repEd w (all w) z2 y.edits) :
    Calls Try.prog 106 #[.agg #[.int .i64 x.kind, .int .i64 x.who, .int .i64 x.at_, u1, u2], .agg #[.int .i64 y.kind, .int .i64 y.who, .int .i64 y.at_, z1, z2]] w fun e w' => e = .returned (.bool (eqB x y)) ∧ Ext w w' := by
  obtain ⟨w1, hw1⟩ : ∃ w1, w.alloc (.cells #[.int .i64 x.kind, .int .i64 x.who, .int .i64 x.at_, u1, u2] 147) = w1 := ⟨_, rfl⟩
  obtain ⟨w2, hw2⟩ : ∃ w2, w1.alloc (.cells #[.int .i64 y.kind, .int .i64 y.who, .int .i64 y.at_, z1, z2] 147) = w2 := ⟨_, rfl⟩
  have hx1 : Ext w w1 := hw1 ▸ ext_alloc _ _
  have hx2 : Ext w1 w2 := hw2 ▸ ext_alloc _ _
  have hb1 : Blk w1 w.heap.size 147 #[.int .i64 x.kind, .int .i64 x.who, .int .i64 x.at_, u1, u2] := by rw [← hw1]; exact Blk.new _ _ _
  have hb2 : Blk w2 w1.heap.size 147 #[.int .i64 y.kind, .int .i64 y.who, .int .i64 y.at_, z1, z2] := by rw [← hw2]; exact Blk.new _ _ _
  obtain ⟨p0, p1, p2, p3, p4⟩ := chCells5 (hb1.ext hx2)
  have hsz1 : w1.heap.size = w.heap.size + 1 := by rw [← hw1]; simp
  rw [hsz1] at hb2
  obtain ⟨q0, q1, q2, q3, q4⟩ := chCells5 hb2
  have hx := Ext.trans hx1 hx2
  have HS := hid (same_any _ _ _ _ w2 (h1.ext hx) (k1.ext hx))
  have HE := hid (eqEd_any _ _ _ _ w2 (h2.ext hx) (k2.ext hx))
  rw [eqB_dec] at HS
  obtain ⟨R, hR⟩ : ∃ R, R = eqB x y := ⟨_, rfl⟩
  rw [← hR]
  have HR := hid hR
  obtain ⟨A1, c1, rfl⟩ := h1.shape
  obtain ⟨A2, c2, rfl⟩ := h2.shape
  obtain ⟨A3, c3, rfl⟩ := k1.shape
  obtain ⟨A4, c4, rfl⟩ := k2.shape
  generalize hD : eqB x.data y.data = D at *
  generalize hE : eqB x.edits y.edits = E at *
  have HD := hid hD
  have HEE := hid hE
  clear hR hD hE h1 h2 k1 k2 hb1 hb2
  generalize x.data.length = l1 at *
  generalize x.edits.length = l2 at *
  generalize y.data.length = l3 at *
  generalize y.edits.length = l4 at *
  rcases bool_cases (x.kind == y.kind) with e1 | e1
  · rcases bool_cases (x.who == y.who) with e2 | e2
    · rcases bool_cases (x.at_ == y.at_) with e3 | e3
      · rcases bool_cases (D) with e4 | e4
        · rcases bool_cases (E) with e5 | e5
          · have HG := hid (ch_ext e1 e2 e3 (HD.out.trans e4) (HEE.out.trans e5))
            subst e4 e5
            go_enter Try.func106, Try.ntmps106
            go_wp2_with (first
              | (go_at_call 135; refine HS.out.mono ?_; rintro e w3 ⟨rfl, rfl⟩)
              | (go_at_call 142; refine HE.out.mono ?_; rintro e w3 ⟨rfl, nd, rfl⟩))
            go_ret
            exact ⟨ret_bool (by rw [HR.out]; exact (eqB_t HG.out).symm), Ext.trans hx (ext_drewN _ _)⟩
          · have HG := hid (ch_ne (x := x) (y := y) (.inr (.inr (.inr (.inr ((HEE.out.trans e5)))))))
            subst e4 e5
            go_enter Try.func106, Try.ntmps106
            go_wp2_with (first
              | (go_at_call 135; refine HS.out.mono ?_; rintro e w3 ⟨rfl, rfl⟩)
              | (go_at_call 142; refine HE.out.mono ?_; rintro e w3 ⟨rfl, nd, rfl⟩))
            go_ret
            exact ⟨ret_bool (by rw [HR.out]; exact (eqB_f HG.out).symm), Ext.trans hx (ext_drewN _ _)⟩
        · have HG := hid (ch_ne (x := x) (y := y) (.inr (.inr (.inr (.inl (HD.out.trans e4))))))
          subst e4
          go_enter Try.func106, Try.ntmps106
          go_wp2_with (first
            | (go_at_call 135; refine HS.out.mono ?_; rintro e w3 ⟨rfl, rfl⟩)
            | (go_at_call 142; refine HE.out.mono ?_; rintro e w3 ⟨rfl, nd, rfl⟩))
          go_ret
          exact ⟨ret_bool (by rw [HR.out]; exact (eqB_f HG.out).symm), hx⟩
      · have HG := hid (ch_ne (x := x) (y := y) (.inr (.inr (.inl e3))))
        go_enter Try.func106, Try.ntmps106
        go_wp2_with (first
          | (go_at_call 135; refine HS.out.mono ?_; rintro e w3 ⟨rfl, rfl⟩)
          | (go_at_call 142; refine HE.out.mono ?_; rintro e w3 ⟨rfl, nd, rfl⟩))
        go_ret
        exact ⟨ret_bool (by rw [HR.out]; exact (eqB_f HG.out).symm), hx⟩
    · have HG := hid (ch_ne (x := x) (y := y) (.inr (.inl e2)))
      go_enter Try.func106, Try.ntmps106
      go_wp2_with (first
        | (go_at_call 135; refine HS.out.mono ?_; rintro e w3 ⟨rfl, rfl⟩)
        | (go_at_call 142; refine HE.out.mono ?_; rintro e w3 ⟨rfl, nd, rfl⟩))
      go_ret
      exact ⟨ret_bool (by rw [HR.out]; exact (eqB_f HG.out).symm), hx⟩
  · have HG := hid (ch_ne (x := x) (y := y) (.inl e1))
    go_enter Try.func106, Try.ntmps106
    go_wp2_with (first
      | (go_at_call 135; refine HS.out.mono ?_; rintro e w3 ⟨rfl, rfl⟩)
      | (go_at_call 142; refine HE.out.mono ?_; rintro e w3 ⟨rfl, nd, rfl⟩))
    go_ret
    exact ⟨ret_bool (by rw [HR.out]; exact (eqB_f HG.out).symm), hx⟩

theorem RowAt.chX {w w' : World} {A n} {xs : List Ch} (h : RowAt repCh w (all w) A n xs) (he : Ext w w') {k : Nat} (hk : k < n) :
    ∃ b off x u v, A = some ⟨b, off, none⟩ ∧ b < w.heap.size ∧ xs[k]? = some x ∧ IsSlice repByte w (all w) u x.data ∧ IsSlice repEd w (all w) v x.edits ∧
      w'.cell? ⟨b, off + k * 5, none⟩ = some (.int .i64 x.kind) ∧ w'.cell? ⟨b, off + k * 5 + 1, none⟩ = some (.int .i64 x.who) ∧ w'.cell? ⟨b, off + k * 5 + 2, none⟩ = some (.int .i64 x.at_) ∧
      w'.cell? ⟨b, off + k * 5 + 3, none⟩ = some u ∧ w'.cell? ⟨b, off + k * 5 + 4, none⟩ = some v ∧ (∃ A' m' c', u = .slice A' m' c') ∧ ∃ A' m' c', v = .slice A' m' c' := by
  obtain ⟨b, off, x, A', c, A'', c', hA, hb, hx, hu, hv, h0, h1, h2, h3, h4⟩ := h.ch hk
  exact ⟨b, off, x, _, _, hA, hb, hx, hu, hv, (he.cell hb _).trans h0, (he.cell hb _).trans h1, (he.cell hb _).trans h2, (he.cell hb _).trans h3, (he.cell hb _).trans h4, ⟨_, _, _, rfl⟩, ⟨_, _, _, rfl⟩⟩
set_option maxHeartbeats 1000000 in
theorem eqFunc_any (v u : Value) (xs ys : List Ch) (w : World) (h : IsSlice repCh w (all w) v xs) (h' : IsSlice repCh w (all w) u ys) :
    Calls Try.prog 105 #[v, u, .func (.func 106) #[] #[]] w fun e w' => e = .returned (.bool (eqB xs ys)) ∧ Ext w w' := by
  obtain ⟨A, n, c, rfl, hnc, hcm, hrow⟩ := h
  obtain ⟨A', n', c', rfl, hnc', hcm', hrow'⟩ := h'
  have hn := hrow.1
  have hn' := hrow'.1
  obtain ⟨R, hR⟩ : ∃ R, R = eqB xs ys := ⟨_, rfl⟩
  rw [← hR]
  have HR := hid hR
  clear hR
  by_cases hl : ((n : Int) != (n' : Int)) = true
  · have hf : eqB xs ys = false := eqB_f fun e => by subst e; simp [← hn, hn'] at hl
    have HF := hid hf
    clear hf hrow hrow' hn hn'
    go_enter Try.func105, Try.ntmps105
    go_wp2
    go_ret
    exact ⟨ret_bool (by rw [HR.out, HF.out]), Below.refl _ _⟩
  · obtain rfl : n = n' := by simp at hl; omega
    have HN := hid hn
    have HN' := hid hn'
    clear hn hn' hl
    have hmax : n ≤ 9223372036854775807 := by unfold maxLen at hcm; omega
    go_enter Try.func105, Try.ntmps105
    go_wp2
    go_loopw [17] (fun i wr => ∃ k : Nat, k ≤ n ∧ i = .int .i64 k ∧ Wall (UpTo' xs ys k) ∧ Ext w wr) (fun i _ => n - (intOf i).toNat)
    case atStart => exact ⟨0, Nat.zero_le _, rfl, hid fun j hj => absurd hj (by omega), Below.refl _ _⟩
    case round =>
      obtain ⟨k, hk, rfl, HUP, hxr⟩ := hrel
      by_cases hlt : k < n
      · obtain ⟨b, off, x, u1, u2, rfl, hbl, hx, hs1, hs2, x0, x1, x2, x3, x4, ⟨_, _, _, hu1⟩, ⟨_, _, _, hu2⟩⟩ := hrow.chX hxr hlt
        obtain ⟨wX, hwX⟩ : ∃ wX, wr.alloc (.cells #[.int .i64 x.kind, .int .i64 x.who, .int .i64 x.at_, u1, u2] 147) = wX := ⟨_, rfl⟩
        have hxX : Ext wr wX := hwX ▸ ext_alloc _ _
        obtain ⟨b2, off2, y, z1, z2, rfl, hbl2, hy, hs3, hs4, y0, y1, y2, y3, y4, ⟨_, _, _, hu3⟩, ⟨_, _, _, hu4⟩⟩ := hrow'.chX (Ext.trans hxr hxX) hlt
        obtain ⟨wY, hwY⟩ : ∃ wY, wX.alloc (.cells #[.int .i64 y.kind, .int .i64 y.who, .int .i64 y.at_, z1, z2] 147) = wY := ⟨_, rfl⟩
        have hxY : Ext wX wY := hwY ▸ ext_alloc _ _
        have hxe := Ext.trans (Ext.trans hxr hxX) hxY
        have hbX : Blk wX wr.heap.size 147 #[.int .i64 x.kind, .int .i64 x.who, .int .i64 x.at_, u1, u2] := by rw [← hwX]; exact Blk.new _ _ _
        have hbY : Blk wY wX.heap.size 147 #[.int .i64 y.kind, .int .i64 y.who, .int .i64 y.at_, z1, z2] := by rw [← hwY]; exact Blk.new _ _ _
        obtain ⟨p0, p1, p2, p3, p4⟩ := chCells5 (hbX.ext hxY)
        obtain ⟨q0, q1, q2, q3, q4⟩ := chCells5 hbY
        have HS := hid (sameCh_any x y u1 u2 z1 z2 wY (hs1.ext hxe) (hs2.ext hxe) (hs3.ext hxe) (hs4.ext hxe))
        have HX := hid hx
        have HY := hid hy
        clear hx hy hs1 hs2 hs3 hs4 hbX hbY
        subst hu1 hu2 hu3 hu4
        rcases bool_cases (eqB x y) with e | e
        · rw [e] at HS
          have HE := hid (eqB_of e)
          clear e
          go_wp2_with (first
            | (go_at_call 106; refine HS.out.mono ?_; rintro e w3 ⟨rfl, hx3⟩))
          go_roundw
          case rel => exact ⟨k + 1, by omega, by go_num, hid (upTo_succ HUP.out HX.out HY.out HE.out), Ext.trans hxe hx3⟩
          case measure => simp [intOf]; omega
        · rw [e] at HS
          have HE := hid (eqB_f (ne_at HX.out HY.out (eqB_ne e)))
          clear e
          go_wp2_with (first
            | (go_at_call 106; refine HS.out.mono ?_; rintro e w3 ⟨rfl, hx3⟩))
          go_ret
          exact ⟨ret_bool (by rw [HR.out, HE.out]), Ext.trans hxe hx3⟩
      · obtain rfl : k = n := by omega
        have HF := hid (eqB_t (upTo_eq HUP.out HN.out HN'.out))
        go_wp2
        go_ret
        exact ⟨ret_bool (by rw [HR.out, HF.out]), hxr⟩

theorem run_ext {x y : KRun} (h0 : (x.eng == y.eng) = true) (h1 : (x.w == y.w) = true) (h2 : (x.m == y.m) = true) (h3 : (x.l == y.l) = true) (h4 : (x.b == y.b) = true) (h5 : (x.room == y.room) = true) (h6 : (x.beg == y.beg) = true) (h7 : eqB x.draws y.draws = true) (h8 : eqB x.chs y.chs = true) : x = y := by
  have h7 := eqB_of h7
  have h8 := eqB_of h8
  cases x; cases y
  simp only [beq_iff_eq, KRun.mk.injEq] at h0 h1 h2 h3 h4 h5 h6 h7 h8 ⊢
  exact ⟨h0, h1, h2, h3, h4, h5, h6, h7, h8⟩
theorem run_ne {x y : KRun} (h : (x.eng == y.eng) = false ∨ (x.w == y.w) = false ∨ (x.m == y.m) = false ∨ (x.l == y.l) = false ∨ (x.b == y.b) = false ∨ (x.room == y.room) = false ∨ (x.beg == y.beg) = false ∨ eqB x.draws y.draws = false ∨ eqB x.chs y.chs = false) : x ≠ y := fun e => by
  subst e
  rcases h with h | h | h | h | h | h | h | h | h
  · simp at h
  · simp at h
  · simp at h
  · simp at h
  · simp at h
  · simp at h
  · simp at h
  · exact eqB_ne h rfl
  · exact eqB_ne h rfl

set_option maxHeartbeats 4000000 in
theorem sameRun_any (x y : KRun) (u1 u2 z1 z2 : Value) (w : World) (h1 : IsSlice (repInt .u64) w (all w) u1 x.draws) (h2 : IsSlice repCh w (all w) u2 x.chs) (k1 : IsSlice (repInt .u64) w (all w) z1 y.draws) (k2 : IsSlice repCh w (all w) z2 y.chs) :
    Calls Try.prog 39 #[.agg (kVals x u1 u2), .agg (kVals y z1 z2)] w fun e w' => e = .returned (.bool (eqB x y)) ∧ Ext w w' := by
  obtain ⟨w1, hw1⟩ : ∃ w1, w.alloc (.cells (kVals x u1 u2) 73) = w1 := ⟨_, rfl⟩
  obtain ⟨w2, hw2⟩ : ∃ w2, w1.alloc (.cells (kVals y z1 z2) 73) = w2 := ⟨_, rfl⟩
  have hx1 : Ext w w1 := hw1 ▸ ext_alloc _ _
  have hx2 : Ext w1 w2 := hw2 ▸ ext_alloc _ _
  have hb1 : Blk w1 w.heap.size 73 (kVals x u1 u2) := by rw [← hw1]; exact Blk.new _ _ _
  have hb2 : Blk w2 w1.heap.size 73 (kVals y z1 z2) := by rw [← hw2]; exact Blk.new _ _ _
  obtain ⟨p0, p1, p2, p3, p4, p5, p6, p7, p8⟩ := kCells (hb1.ext hx2)
  obtain ⟨q0, q1, q2, q3, q4, q5, q6, q7, q8⟩ := kCells hb2
  have hx := Ext.trans hx1 hx2
  have HS := hid (eqU64_any _ _ _ _ w2 (h1.ext hx) (k1.ext hx))
  have HE := hid (fun (W : World) (he : Ext w2 W) => eqFunc_any _ _ _ _ W (h2.ext (Ext.trans hx he)) (k2.ext (Ext.trans hx he)))
  obtain ⟨R, hR⟩ : ∃ R, R = eqB x y := ⟨_, rfl⟩
  rw [← hR]
  have HR := hid hR
  obtain ⟨A1, c1, rfl⟩ := h1.shape
  obtain ⟨A2, c2, rfl⟩ := h2.shape
  obtain ⟨A3, c3, rfl⟩ := k1.shape
  obtain ⟨A4, c4, rfl⟩ := k2.shape
  generalize hD : eqB x.draws y.draws = D at *
  generalize hE : eqB x.chs y.chs = E at *
  have HD := hid hD
  have HEE := hid hE
  clear hR hD hE h1 h2 k1 k2 hb1 hb2
  unfold kVals at *
  generalize x.draws.length = l1 at *
  generalize x.chs.length = l2 at *
  generalize y.draws.length = l3 at *
  generalize y.chs.length = l4 at *
  rcases bool_cases (x.eng == y.eng) with e0 | e0
  · rcases bool_cases (x.w == y.w) with e1 | e1
    · rcases bool_cases (x.m == y.m) with e2 | e2
      · rcases bool_cases (x.l == y.l) with e3 | e3
        · rcases bool_cases (x.b == y.b) with e4 | e4
          · rcases bool_cases (x.room == y.room) with e5 | e5
            · rcases bool_cases (x.beg == y.beg) with e6 | e6
              · rcases bool_cases (D) with e7 | e7
                · rcases bool_cases (E) with e8 | e8
                  · have HG := hid (run_ext e0 e1 e2 e3 e4 e5 e6 (HD.out.trans e7) (HEE.out.trans e8))
                    subst e7 e8
                    go_enter Try.func39, Try.ntmps39
                    go_wp2_with (first
                      | (go_at_call 104; refine HS.out.mono ?_; rintro e w3 ⟨rfl, nd, rfl⟩; have P8 : (w2.drewN nd).cell? ⟨w.heap.size, 8, none⟩ = some (.slice A2 l2 c2) := p8; have Q8 : (w2.drewN nd).cell? ⟨w1.heap.size, 8, none⟩ = some (.slice A4 l4 c4) := q8)
                      | (go_at_call 105; refine (HE.out _ (ext_drewN _ _)).mono ?_; rintro e w4 ⟨rfl, hx4⟩))
                    go_ret
                    exact ⟨ret_bool (by rw [HR.out]; exact (eqB_t HG.out).symm), Ext.trans (Ext.trans hx (ext_drewN _ _)) hx4⟩
                  · have HG := hid (run_ne (x := x) (y := y) (.inr (.inr (.inr (.inr (.inr (.inr (.inr (.inr ((HEE.out.trans e8)))))))))))
                    subst e7 e8
                    go_enter Try.func39, Try.ntmps39
                    go_wp2_with (first
                      | (go_at_call 104; refine HS.out.mono ?_; rintro e w3 ⟨rfl, nd, rfl⟩; have P8 : (w2.drewN nd).cell? ⟨w.heap.size, 8, none⟩ = some (.slice A2 l2 c2) := p8; have Q8 : (w2.drewN nd).cell? ⟨w1.heap.size, 8, none⟩ = some (.slice A4 l4 c4) := q8)
                      | (go_at_call 105; refine (HE.out _ (ext_drewN _ _)).mono ?_; rintro e w4 ⟨rfl, hx4⟩))
                    go_ret
                    exact ⟨ret_bool (by rw [HR.out]; exact (eqB_f HG.out).symm), Ext.trans (Ext.trans hx (ext_drewN _ _)) hx4⟩
                · have HG := hid (run_ne (x := x) (y := y) (.inr (.inr (.inr (.inr (.inr (.inr (.inr (.inl (HD.out.trans e7))))))))))
                  subst e7
                  go_enter Try.func39, Try.ntmps39
                  go_wp2_with (first
                    | (go_at_call 104; refine HS.out.mono ?_; rintro e w3 ⟨rfl, nd, rfl⟩; have P8 : (w2.drewN nd).cell? ⟨w.heap.size, 8, none⟩ = some (.slice A2 l2 c2) := p8; have Q8 : (w2.drewN nd).cell? ⟨w1.heap.size, 8, none⟩ = some (.slice A4 l4 c4) := q8)
                    | (go_at_call 105; refine (HE.out _ (ext_drewN _ _)).mono ?_; rintro e w4 ⟨rfl, hx4⟩))
                  go_ret
                  exact ⟨ret_bool (by rw [HR.out]; exact (eqB_f HG.out).symm), Ext.trans hx (ext_drewN _ _)⟩
              · have HG := hid (run_ne (x := x) (y := y) (.inr (.inr (.inr (.inr (.inr (.inr (.inl e6))))))))
                go_enter Try.func39, Try.ntmps39
                go_wp2_with (first
                  | (go_at_call 104; refine HS.out.mono ?_; rintro e w3 ⟨rfl, nd, rfl⟩; have P8 : (w2.drewN nd).cell? ⟨w.heap.size, 8, none⟩ = some (.slice A2 l2 c2) := p8; have Q8 : (w2.drewN nd).cell? ⟨w1.heap.size, 8, none⟩ = some (.slice A4 l4 c4) := q8)
                  | (go_at_call 105; refine (HE.out _ (ext_drewN _ _)).mono ?_; rintro e w4 ⟨rfl, hx4⟩))
                go_ret
                exact ⟨ret_bool (by rw [HR.out]; exact (eqB_f HG.out).symm), hx⟩
            · have HG := hid (run_ne (x := x) (y := y) (.inr (.inr (.inr (.inr (.inr (.inl e5)))))))
              go_enter Try.func39, Try.ntmps39
              go_wp2_with (first
                | (go_at_call 104; refine HS.out.mono ?_; rintro e w3 ⟨rfl, nd, rfl⟩; have P8 : (w2.drewN nd).cell? ⟨w.heap.size, 8, none⟩ = some (.slice A2 l2 c2) := p8; have Q8 : (w2.drewN nd).cell? ⟨w1.heap.size, 8, none⟩ = some (.slice A4 l4 c4) := q8)
                | (go_at_call 105; refine (HE.out _ (ext_drewN _ _)).mono ?_; rintro e w4 ⟨rfl, hx4⟩))
              go_ret
              exact ⟨ret_bool (by rw [HR.out]; exact (eqB_f HG.out).symm), hx⟩
          · have HG := hid (run_ne (x := x) (y := y) (.inr (.inr (.inr (.inr (.inl e4))))))
            go_enter Try.func39, Try.ntmps39
            go_wp2_with (first
              | (go_at_call 104; refine HS.out.mono ?_; rintro e w3 ⟨rfl, nd, rfl⟩; have P8 : (w2.drewN nd).cell? ⟨w.heap.size, 8, none⟩ = some (.slice A2 l2 c2) := p8; have Q8 : (w2.drewN nd).cell? ⟨w1.heap.size, 8, none⟩ = some (.slice A4 l4 c4) := q8)
              | (go_at_call 105; refine (HE.out _ (ext_drewN _ _)).mono ?_; rintro e w4 ⟨rfl, hx4⟩))
            go_ret
            exact ⟨ret_bool (by rw [HR.out]; exact (eqB_f HG.out).symm), hx⟩
        · have HG := hid (run_ne (x := x) (y := y) (.inr (.inr (.inr (.inl e3)))))
          go_enter Try.func39, Try.ntmps39
          go_wp2_with (first
            | (go_at_call 104; refine HS.out.mono ?_; rintro e w3 ⟨rfl, nd, rfl⟩; have P8 : (w2.drewN nd).cell? ⟨w.heap.size, 8, none⟩ = some (.slice A2 l2 c2) := p8; have Q8 : (w2.drewN nd).cell? ⟨w1.heap.size, 8, none⟩ = some (.slice A4 l4 c4) := q8)
            | (go_at_call 105; refine (HE.out _ (ext_drewN _ _)).mono ?_; rintro e w4 ⟨rfl, hx4⟩))
          go_ret
          exact ⟨ret_bool (by rw [HR.out]; exact (eqB_f HG.out).symm), hx⟩
      · have HG := hid (run_ne (x := x) (y := y) (.inr (.inr (.inl e2))))
        go_enter Try.func39, Try.ntmps39
        go_wp2_with (first
          | (go_at_call 104; refine HS.out.mono ?_; rintro e w3 ⟨rfl, nd, rfl⟩; have P8 : (w2.drewN nd).cell? ⟨w.heap.size, 8, none⟩ = some (.slice A2 l2 c2) := p8; have Q8 : (w2.drewN nd).cell? ⟨w1.heap.size, 8, none⟩ = some (.slice A4 l4 c4) := q8)
          | (go_at_call 105; refine (HE.out _ (ext_drewN _ _)).mono ?_; rintro e w4 ⟨rfl, hx4⟩))
        go_ret
        exact ⟨ret_bool (by rw [HR.out]; exact (eqB_f HG.out).symm), hx⟩
    · have HG := hid (run_ne (x := x) (y := y) (.inr (.inl e1)))
      go_enter Try.func39, Try.ntmps39
      go_wp2_with (first
        | (go_at_call 104; refine HS.out.mono ?_; rintro e w3 ⟨rfl, nd, rfl⟩; have P8 : (w2.drewN nd).cell? ⟨w.heap.size, 8, none⟩ = some (.slice A2 l2 c2) := p8; have Q8 : (w2.drewN nd).cell? ⟨w1.heap.size, 8, none⟩ = some (.slice A4 l4 c4) := q8)
        | (go_at_call 105; refine (HE.out _ (ext_drewN _ _)).mono ?_; rintro e w4 ⟨rfl, hx4⟩))
      go_ret
      exact ⟨ret_bool (by rw [HR.out]; exact (eqB_f HG.out).symm), hx⟩
  · have HG := hid (run_ne (x := x) (y := y) (.inl e0))
    go_enter Try.func39, Try.ntmps39
    go_wp2_with (first
      | (go_at_call 104; refine HS.out.mono ?_; rintro e w3 ⟨rfl, nd, rfl⟩; have P8 : (w2.drewN nd).cell? ⟨w.heap.size, 8, none⟩ = some (.slice A2 l2 c2) := p8; have Q8 : (w2.drewN nd).cell? ⟨w1.heap.size, 8, none⟩ = some (.slice A4 l4 c4) := q8)
      | (go_at_call 105; refine (HE.out _ (ext_drewN _ _)).mono ?_; rintro e w4 ⟨rfl, hx4⟩))
    go_ret
    exact ⟨ret_bool (by rw [HR.out]; exact (eqB_f HG.out).symm), hx⟩

end
end Go.Proofs.Ytjchobncmogcpaa
