/- KeepBack: the law's walk. -/
import Derived.Test.YtjchobncmogcpaaKeepGets
import Derived.Test.YtjchobncmogcpaaKeepOwn
import Derived.Test.YtjchobncmogcpaaBackFrame
namespace Go.Proofs.Ytjchobncmogcpaa
open Go.RowKit
theorem body_small2 {r : KRun} (h : hugeK r = false) (hc : r.chs.length ≤ 500) : (bodyB r).length ≤ 100000 := by
  have h1 : hugeN r ≤ 1500 := by unfold hugeK at h; simpa using h
  unfold hugeN at h1
  rw [List.take_of_length_le (by omega)] at h1
  have h2 := chsB_len r.chs
  simp only [bodyB, headB, magicB, List.length_append, nums8_len, List.length_cons, List.length_nil]
  omega
/-- The first k of four bytes from a on are turned. -/
def turnTo (a t : Nat) (xs ys : List UInt8) (k : Nat) : Prop := ys.length = xs.length ∧ ∀ j, ys[j]? = if a ≤ j ∧ j < a + k then (xs[j]?).map (fun c => c ^^^ UInt8.ofNat (t / 256 ^ (j - a) % 256)) else xs[j]?
theorem turnTo_zero (a t : Nat) (xs : List UInt8) : turnTo a t xs xs 0 := ⟨rfl, fun j => by rw [if_neg (by omega)]⟩
theorem turnTo_get {a t : Nat} {xs ys : List UInt8} {k : Nat} (h : turnTo a t xs ys k) (hk : k < 4) (hl : a + 4 ≤ xs.length) : ∃ c, xs[a + k]? = some c ∧ ys[a + k]? = some c := by
  refine ⟨xs[a + k]'(by omega), List.getElem?_eq_getElem _, ?_⟩
  rw [h.2, if_neg (by omega), List.getElem?_eq_getElem]
theorem turnTo_succ {a t : Nat} {xs ys : List UInt8} {k : Nat} {c : UInt8} (h : turnTo a t xs ys k) (hc : xs[a + k]? = some c) (hl : a + k < xs.length) : turnTo a t xs (ys.set (a + k) (c ^^^ UInt8.ofNat (t / 256 ^ k % 256))) (k + 1) := by
  refine ⟨by rw [List.length_set]; exact h.1, fun j => ?_⟩
  by_cases hj : j = a + k
  · subst hj
    rw [List.getElem?_set, if_pos rfl, if_pos (by have := h.1; omega), if_pos (by omega), hc, Option.map_some, Nat.add_sub_cancel_left]
  · rw [List.getElem?_set, if_neg (by omega), h.2]
    by_cases h1 : a ≤ j ∧ j < a + k
    · rw [if_pos h1, if_pos (by omega)]
    · rw [if_neg h1, if_neg (by omega)]
theorem turnTo_none {a t : Nat} {xs ys z : List UInt8} (h : turnTo a t xs ys 4) (hl : a + 4 ≤ xs.length) (ht : t < 4294967296) (h0 : t ≠ 0) (hv : crcCheck xs = some z) : crcCheck ys = none := by
  obtain ⟨c0, g0⟩ : ∃ c, xs[a]? = some c := ⟨_, List.getElem?_eq_getElem (by omega)⟩
  obtain ⟨c1, g1⟩ : ∃ c, xs[a + 1]? = some c := ⟨_, List.getElem?_eq_getElem (by omega)⟩
  obtain ⟨c2, g2⟩ : ∃ c, xs[a + 2]? = some c := ⟨_, List.getElem?_eq_getElem (by omega)⟩
  obtain ⟨c3, g3⟩ : ∃ c, xs[a + 3]? = some c := ⟨_, List.getElem?_eq_getElem (by omega)⟩
  have hx : xs = xs.take a ++ [c0, c1, c2, c3] ++ xs.drop (a + 4) := by
    apply List.ext_getElem?
    intro j
    rw [List.append_assoc, List.getElem?_append, List.getElem?_take, List.length_take, Nat.min_eq_left (by omega)]
    by_cases h1 : j < a
    · rw [if_pos h1, if_pos h1]
    · rw [if_neg h1]
      by_cases h2 : j < a + 4
      · have h3 : j = a ∨ j = a + 1 ∨ j = a + 2 ∨ j = a + 3 := by omega
        rcases h3 with rfl | rfl | rfl | rfl
        · rw [Nat.sub_self]; exact g0
        · rw [Nat.add_sub_cancel_left]; exact g1
        · rw [Nat.add_sub_cancel_left]; exact g2
        · rw [Nat.add_sub_cancel_left]; exact g3
      · rw [List.getElem?_append_right (by simp; omega), List.getElem?_drop]
        congr 1
        simp only [List.length_cons, List.length_nil]
        omega
  have hy : ys = xs.take a ++ [c0 ^^^ UInt8.ofNat (t % 256), c1 ^^^ UInt8.ofNat (t / 256 % 256), c2 ^^^ UInt8.ofNat (t / 256 / 256 % 256), c3 ^^^ UInt8.ofNat (t / 256 / 256 / 256 % 256)] ++ xs.drop (a + 4) := by
    apply List.ext_getElem?
    intro j
    rw [h.2, List.append_assoc, List.getElem?_append, List.getElem?_take, List.length_take, Nat.min_eq_left (by omega)]
    by_cases h1 : j < a
    · rw [if_neg (by omega), if_pos h1, if_pos h1]
    · rw [if_neg h1]
      by_cases h2 : j < a + 4
      · rw [if_pos (by omega)]
        have h3 : j = a ∨ j = a + 1 ∨ j = a + 2 ∨ j = a + 3 := by omega
        rcases h3 with rfl | rfl | rfl | rfl
        · rw [Nat.sub_self, g0]; simp
        · rw [Nat.add_sub_cancel_left, g1]; simp
        · rw [Nat.add_sub_cancel_left, g2]; simp [Nat.div_div_eq_div_mul]
        · rw [Nat.add_sub_cancel_left, g3]; simp [Nat.div_div_eq_div_mul]
      · rw [if_neg (by omega), List.getElem?_append_right (by simp; omega), List.getElem?_drop]
        congr 1
        simp only [List.length_cons, List.length_nil]
        omega
  rw [hy]
  exact turned_none _ _ _ _ _ _ t ht h0 ⟨z, by rw [← hx]; exact hv⟩
theorem gotR_back {r : KRun} (hw : RunWf r) (hr : rightB r = true) : gotR (crcCheck (crcPut (bodyB r))) = (r, 0) := by
  rw [crcCheck_of]
  have h := runS_body hw hr
  have e : gotR (some (bodyB r)) = ((runS (bodyB r)).1, 0) := if_pos ⟨_, rfl, by rw [h]⟩
  rw [e, h]
theorem gotR_none : gotR none = (run0, 40) := if_neg fun ⟨b, hb, _⟩ => by cases hb
/-- The block reads as these bytes at its head. -/
def Head (w : World) (g : Nat) (xs : List UInt8) : Prop := ∃ cur, Blk w g 5 cur ∧ ∀ (j : Nat) (c : UInt8), xs[j]? = some c → cur[j]? = some (.int .u8 (c.toNat : Int))
theorem Head.ext {w w' : World} {g : Nat} {xs : List UInt8} (h : Head w g xs) (he : Ext w w') : Head w' g xs := by obtain ⟨cur, hb, hc⟩ := h; exact ⟨cur, hb.ext he, hc⟩
theorem Head.cell {w : World} {g : Nat} {xs : List UInt8} (h : Head w g xs) {j : Nat} {c : UInt8} (hj : xs[j]? = some c) : w.cell? ⟨g, j, none⟩ = some (.int .u8 (c.toNat : Int)) ∧ w.frozen? ⟨g, j, none⟩ = false := by
  obtain ⟨cur, hb, hc⟩ := h
  exact ⟨(hb.cell j).trans (hc j c hj), hb.frozen j⟩
theorem Head.put {w : World} {g : Nat} {xs : List UInt8} (h : Head w g xs) (j : Nat) (c : UInt8) (hj : j < xs.length) : Head (w.setCell ⟨g, j, none⟩ (.int .u8 (c.toNat : Int))) g (xs.set j c) := by
  obtain ⟨cur, hb, hc⟩ := h
  refine ⟨_, hb.set_ j _, fun i c' hi => ?_⟩
  rw [List.getElem?_set] at hi
  by_cases hij : j = i
  · subst hij
    rw [if_pos rfl, if_pos hj] at hi
    injection hi with hi
    subst hi
    have h1 := hc j _ (List.getElem?_eq_getElem hj)
    have h2 : j < cur.size := (Array.getElem?_eq_some_iff.1 h1).1
    rw [Array.getElem?_setIfInBounds_self_of_lt h2]
  · rw [if_neg hij] at hi
    rw [Array.getElem?_setIfInBounds_ne hij]
    exact hc i c' hi
theorem Head.slice {w : World} {g n cap : Nat} {xs : List UInt8} (h : Head w g xs) (hn : xs.length = n) (hc : n ≤ cap) (hm : cap ≤ maxLen) : IsSlice repByte w (all w) (.slice (some ⟨g, 0, none⟩) n cap) xs := by
  have hg : g < w.heap.size := by obtain ⟨cur, hb, _⟩ := h; exact hb.lt
  refine ⟨_, n, cap, rfl, hc, hm, hn, fun _ => ⟨g, 0, rfl, hg, fun j hj => ⟨[.int .u8 ((xs[j]).toNat : Int)], rfl, fun i hi => ?_⟩⟩⟩
  have hi0 : i = 0 := by simpa using hi
  subst hi0
  have := (h.cell (List.getElem?_eq_getElem hj)).1
  show w.cell? ⟨g, 0 + j * 1 + 0, none⟩ = _
  rw [show 0 + j * 1 + 0 = j from by omega]
  simpa using this
set_option maxRecDepth 100000
section
set_option maxHeartbeats 8000000 in
theorem keepBack_any (r : KRun) (hw : RunWf r) (u1 u2 : Value) (W : World) (o1 : IsSlice (repInt .u64) W (all W) u1 r.draws) (o2 : IsSlice repCh W (all W) u2 r.chs) (at_ : Int) (hat : I64 at_) (t : Nat) (ht : t < 4294967296) :
    Calls Try.prog 8 #[.agg (kVals r u1 u2), .int .i64 at_, .int .u32 (t : Int)] W fun e w' => e = .returned (.bool true) ∧ Ext W w' := by
  have HLV := hid keepLive_any
  have HNum := hid num42_any
  have HHU := hid (fun (V : World) (h : Ext W V) => huge42_any V r _ _ (o1.ext h) (o2.ext h))
  have HPY := hid (fun (V : World) (h : Ext W V) (hr : rightB r = true) (hl : (bodyB r).length ≤ 1000000) => kputOwn_any V r _ _ (o1.ext h) (o2.ext h) hr hl)
  have HPN := hid (fun (V : World) (h : Ext W V) (hr : rightB r = false) => kputNo_any V r _ _ (o1.ext h) (o2.ext h) hr)
  have HSmall := hid (fun (b : Bool) (hb : rightB r = true → b = hugeK r) (hf : b = false) (hr : rightB r = true) => (show (bodyB r).length ≤ 100000 from body_small2 (by rw [← hb hr, hf]) (by unfold rightB at hr; simp only [Bool.and_eq_true, decide_eq_true_eq] at hr; omega)))
  have HGK := hid (fun (V : World) (v : Value) (xs : List UInt8) (h : IsSlice repByte V (all V) v xs) (hl : xs.length ≤ 1000000) => kGot_any v xs V h hl)
  have HBack := hid (fun (hr : rightB r = true) => gotR_back hw hr)
  have HS := hid (fun (V V2 : World) (z1 z2 : Value) (hV : Ext W V) (h1 : IsSlice (repInt .u64) V2 (all V2) z1 r.draws) (h2 : IsSlice repCh V2 (all V2) z2 r.chs) (he : Ext V2 V) => by have := sameRun_any r r _ _ _ _ V (h1.ext he) (h2.ext he) (o1.ext hV) (o2.ext hV); rw [eqB_t (rfl : r = r)] at this; exact this)
  have HSR := hid (fun (V V2 : World) (z1 z2 : Value) (hV : Ext W V) (h1 : IsSlice (repInt .u64) V2 (all V2) z1 r.draws) (h2 : IsSlice repCh V2 (all V2) z2 r.chs) (he : Ext V2 V) => by have := sameR42_any r r _ _ _ _ V (h1.ext he) (h2.ext he) (o1.ext hV) (o2.ext hV); rw [eqB_t (rfl : r = r)] at this; exact this)
  obtain ⟨A1, d1, rfl⟩ := o1.shape
  obtain ⟨A2, d2, rfl⟩ := o2.shape
  obtain ⟨w1, hw1⟩ : ∃ w1, W.alloc (.cells (kVals r (.slice A1 r.draws.length d1) (.slice A2 r.chs.length d2)) 69) = w1 := ⟨_, rfl⟩
  have hx1 : Ext W w1 := hw1 ▸ ext_alloc _ _
  have hb1 : Blk w1 W.heap.size 69 (kVals r (.slice A1 r.draws.length d1) (.slice A2 r.chs.length d2)) := by rw [← hw1]; exact Blk.new _ _ _
  have HOF := hid (fun V => of42_any r A1 A2 r.draws.length d1 r.chs.length d2 V)
  have HKX := hid (fun (V : World) (h : Ext w1 V) => kCells (hb1.ext h))
  obtain ⟨p0, p1, p2, p3, p4, p5, p6, p7, p8⟩ := HKX.out _ (Below.refl _ _)
  obtain ⟨P, hP⟩ : ∃ P, P = crcPut (bodyB r) := ⟨_, rfl⟩
  have HPl := hid (show P.length = (bodyB r).length + 4 by rw [hP]; exact crcPut_len _)
  have HPc := hid (show crcCheck P = some (bodyB r) by rw [hP]; exact crcCheck_of _)
  rw [← hP] at HBack HPY
  clear o1 o2 hb1 hP hw
  unfold kVals at *
  generalize r.draws.length = n1 at *
  generalize r.chs.length = n2 at *
  go_enter Try.func8, Try.ntmps8
  go_upto_if 15 with (first
    | (go_at_call 29; refine (HHU.out _ hx1).mono ?_; rintro e w2 ⟨bh, rfl, hbh, hx2⟩))
  cases bh with
  | true =>
    go_wp2_with (go_at_call 30; refine (HLV.out _).mono ?_; rintro e w8 ⟨rfl, hx8⟩)
    go_ret
    exact ⟨rfl, Ext.trans (Ext.trans hx1 hx2) hx8⟩
  | false =>
    obtain ⟨c0, c1, c2, c3, c4, c5, c6, c7, c8⟩ := HKX.out _ hx2
    have x2 := Ext.trans hx1 hx2
    rcases bool_cases (rightB r) with hr | hr
    · have hbl := HSmall.out false hbh rfl hr
      have HP2 := hid (fun (V : World) (h : Ext W V) => HPY.out V h hr (by omega))
      have HG := hid (HBack.out hr)
      have hPl : 4 ≤ P.length ∧ P.length ≤ 100004 := by have := HPl.out; omega
      clear hr hbl hbh
      go_upto_region 7 with (first
        | (go_at_call 32; refine (HOF.out _).mono ?_; rintro e w3 ⟨rfl, hx3⟩; have x3 := Ext.trans x2 hx3)
        | (go_at_call 31
           refine (HP2.out _ x3).mono ?_
           rintro e w4 ⟨u4, rfl, hu4, hx4⟩
           have hu4s := hu4.slice
           obtain ⟨gb, cap, cur, rfl, hgb, hbb, hcl, hcm, hcells⟩ := hu4.block (fun e => by have := hPl.1; rw [e] at this; simp at this)
           have hHead : Head w4 gb P := ⟨cur, hbb, hcells⟩
           generalize hn : P.length = n at *
           have HN := hid hn
           clear hn hbb hcells hu4)
        | (go_at_call 34; refine (HNum.out _ _).mono ?_; rintro e w6 ⟨rfl, rfl⟩)
        | (go_at_call 35
           refine (HGK.out _ _ P hu4s (by rw [HN.out]; omega)).mono ?_
           rintro e w6 hgot
           rw [HG.out] at hgot
           obtain ⟨B1, m1, f1, B2, m2, f2, rfl, hg1, hg2, hx6⟩ := hgot
           unfold kVals
           have hb9 := Blk.new w6 73 #[.int .i64 r.eng, .int .i64 r.w, .int .i64 r.m, .int .i64 r.l, .int .i64 r.b, .int .i64 r.room, .int .u64 r.beg, .slice B1 m1 f1, .slice B2 m2 f2]
           generalize hwB : w6.alloc (.cells #[.int .i64 r.eng, .int .i64 r.w, .int .i64 r.m, .int .i64 r.l, .int .i64 r.b, .int .i64 r.room, .int .u64 r.beg, .slice B1 m1 f1, .slice B2 m2 f2] 73) = wB
           have hxB : Ext w6 wB := hwB ▸ ext_alloc _ _
           rw [hwB] at hb9
           dsimp only at *))
      have xeB : Ext W wB := Ext.trans (Ext.trans (Ext.trans x3 hx4) hx6) hxB
      have x1B : Ext w1 wB := Ext.trans (Ext.trans (Ext.trans (Ext.trans hx2 hx3) hx4) hx6) hxB
      have hHB : Head wB gb P := hHead.ext (Ext.trans hx6 hxB)
      have HSt := hid (fun (w' : World) (he : Ext wB w') => (⟨HKX.out w' (Ext.trans x1B he), kCells (r := r) (hb9.ext he), he⟩ : (fun w' => (w'.cell? ⟨W.heap.size, 0, none⟩ = some (.int .i64 r.eng) ∧ w'.cell? ⟨W.heap.size, 1, none⟩ = some (.int .i64 r.w) ∧ w'.cell? ⟨W.heap.size, 2, none⟩ = some (.int .i64 r.m) ∧ w'.cell? ⟨W.heap.size, 3, none⟩ = some (.int .i64 r.l) ∧ w'.cell? ⟨W.heap.size, 4, none⟩ = some (.int .i64 r.b) ∧ w'.cell? ⟨W.heap.size, 5, none⟩ = some (.int .i64 r.room) ∧ w'.cell? ⟨W.heap.size, 6, none⟩ = some (.int .u64 r.beg) ∧ w'.cell? ⟨W.heap.size, 7, none⟩ = some (.slice A1 n1 d1) ∧ w'.cell? ⟨W.heap.size, 8, none⟩ = some (.slice A2 n2 d2)) ∧ (w'.cell? ⟨w6.heap.size, 0, none⟩ = some (.int .i64 r.eng) ∧ w'.cell? ⟨w6.heap.size, 1, none⟩ = some (.int .i64 r.w) ∧ w'.cell? ⟨w6.heap.size, 2, none⟩ = some (.int .i64 r.m) ∧ w'.cell? ⟨w6.heap.size, 3, none⟩ = some (.int .i64 r.l) ∧ w'.cell? ⟨w6.heap.size, 4, none⟩ = some (.int .i64 r.b) ∧ w'.cell? ⟨w6.heap.size, 5, none⟩ = some (.int .i64 r.room) ∧ w'.cell? ⟨w6.heap.size, 6, none⟩ = some (.int .u64 r.beg) ∧ w'.cell? ⟨w6.heap.size, 7, none⟩ = some (.slice B1 m1 f1) ∧ w'.cell? ⟨w6.heap.size, 8, none⟩ = some (.slice B2 m2 f2)) ∧ Ext wB w') w'))
      have HTold := hid (fun V => told42_any r B1 B2 m1 f1 m2 f2 V)
      have HS1 := hid (fun (V : World) (h : Ext wB V) => HS.out V w6 _ _ (Ext.trans xeB h) hg1 hg2 (Ext.trans hxB h))
      have HS2 := hid (fun (V : World) (h : Ext wB V) => HSR.out V w6 _ _ (Ext.trans xeB h) hg1 hg2 (Ext.trans hxB h))
      unfold kVals at HTold
      have hgbl : gb < wB.heap.size := by obtain ⟨cur', hb', _⟩ := hHB; exact hb'.lt
      have hgW : W.heap.size ≤ gb := Nat.le_trans x3.size hgb
      have xd : Ext wB wB.drew := Below.drew (Below.refl _ _)
      clear hg1 hg2 hb9 hwB hu4s hHead cur
      go_region_held3 (fun w' => (w'.cell? ⟨W.heap.size, 0, none⟩ = some (.int .i64 r.eng) ∧ w'.cell? ⟨W.heap.size, 1, none⟩ = some (.int .i64 r.w) ∧ w'.cell? ⟨W.heap.size, 2, none⟩ = some (.int .i64 r.m) ∧ w'.cell? ⟨W.heap.size, 3, none⟩ = some (.int .i64 r.l) ∧ w'.cell? ⟨W.heap.size, 4, none⟩ = some (.int .i64 r.b) ∧ w'.cell? ⟨W.heap.size, 5, none⟩ = some (.int .i64 r.room) ∧ w'.cell? ⟨W.heap.size, 6, none⟩ = some (.int .u64 r.beg) ∧ w'.cell? ⟨W.heap.size, 7, none⟩ = some (.slice A1 n1 d1) ∧ w'.cell? ⟨W.heap.size, 8, none⟩ = some (.slice A2 n2 d2)) ∧ (w'.cell? ⟨w6.heap.size, 0, none⟩ = some (.int .i64 r.eng) ∧ w'.cell? ⟨w6.heap.size, 1, none⟩ = some (.int .i64 r.w) ∧ w'.cell? ⟨w6.heap.size, 2, none⟩ = some (.int .i64 r.m) ∧ w'.cell? ⟨w6.heap.size, 3, none⟩ = some (.int .i64 r.l) ∧ w'.cell? ⟨w6.heap.size, 4, none⟩ = some (.int .i64 r.b) ∧ w'.cell? ⟨w6.heap.size, 5, none⟩ = some (.int .i64 r.room) ∧ w'.cell? ⟨w6.heap.size, 6, none⟩ = some (.int .u64 r.beg) ∧ w'.cell? ⟨w6.heap.size, 7, none⟩ = some (.slice B1 m1 f1) ∧ w'.cell? ⟨w6.heap.size, 8, none⟩ = some (.slice B2 m2 f2)) ∧ Ext wB w')
        (first | with_reducible exact HSt.out _ xd)
        (first
          | (go_at_call 34; refine (HNum.out _ _).mono ?_; rintro e y1 ⟨rfl, rfl⟩)
          | (go_at_call 38; refine (HTold.out _).mono ?_; rintro e y1 ⟨rfl, hz1⟩; have xd := Ext.trans xd hz1)
          | (go_at_call 37; refine (HS2.out _ xd).mono ?_; rintro e y1 ⟨rfl, hz1⟩; have xd := Ext.trans xd hz1)
          | (go_at_call 32; refine (HOF.out _).mono ?_; rintro e y1 ⟨rfl, hz1⟩; have xd := Ext.trans xd hz1)
          | (go_at_call 39; refine (HS1.out _ xd).mono ?_; rintro e y1 ⟨rfl, hz1⟩; have xd := Ext.trans xd hz1))
      have xeY := Ext.trans xeB xd
      have hHy := hHB.ext xd
      have hgY : gb < y1.heap.size := Nat.lt_of_lt_of_le hgbl xd.size
      clear xd hHB
      obtain ⟨m, hm⟩ : ∃ m, n = m + 4 := ⟨n - 4, by omega⟩
      have hki : (n : Int) - 4 = (m : Int) := by omega
      have HM := hid hm
      clear hm
      by_cases h1 : at_ < 0
      · have d1' : decide (at_ < 0) = true := decide_eq_true h1
        go_wp2_with (go_at_call 30; refine (HLV.out _).mono ?_; rintro e w8 ⟨rfl, hx8⟩)
        go_ret
        exact ⟨rfl, Ext.trans xeY hx8⟩
      · obtain ⟨a, rfl⟩ : ∃ a : Nat, at_ = a := ⟨at_.toNat, by omega⟩
        clear h1
        by_cases h2 : m < a
        · have d2' : decide (m < a) = true := decide_eq_true h2
          go_wp2_with (go_at_call 30; refine (HLV.out _).mono ?_; rintro e w8 ⟨rfl, hx8⟩)
          go_ret
          exact ⟨rfl, Ext.trans xeY hx8⟩
        · have d2' : decide (m < a) = false := decide_eq_false h2
          by_cases h3 : t = 0
          · have d3' : ((t : Int) == 0) = true := by simp [h3]
            clear h3
            go_wp2_with (go_at_call 30; refine (HLV.out _).mono ?_; rintro e w8 ⟨rfl, hx8⟩)
            go_ret
            exact ⟨rfl, Ext.trans xeY hx8⟩
          · have d3' : ((t : Int) == 0) = false := by simp; omega
            have HT0 := hid h3
            clear h3
            have ha : a + 4 ≤ n := by have := HM.out; omega
            go_wp2
            go_loopw [11] (fun i wr => ∃ (k : Nat) (ys : List UInt8), k ≤ 4 ∧ i = .int .i64 (k : Nat) ∧ Wall (turnTo a t P ys k) ∧ Head wr gb ys ∧ Only gb y1 wr) (fun i _ => 4 - (intOf i).toNat)
            case atStart => exact ⟨0, P, by omega, rfl, hid (turnTo_zero _ _ _), hHy, Only.refl _ _⟩
            case round =>
              obtain ⟨k, ys, hk, rfl, HTu, hHk, hok⟩ := hrel
              by_cases hlt : k < 4
              · obtain ⟨c, hc1, hc2⟩ := turnTo_get HTu.out hlt (by rw [HN.out]; exact ha)
                obtain ⟨hcc, hcf⟩ := hHk.cell hc2
                have HC1 := hid hc1
                clear hc1 hc2
                have hbx : bits .xor .u8 ((c.toNat : Nat) : Int) ((t : Int) / 2 ^ (8 * k) % 256) = (((c ^^^ UInt8.ofNat (t / 256 ^ k % 256)).toNat : Nat) : Int) := by
                  rw [shr_byte, u8_xor_nat _ _ (c_lt _) (c_lt _), UInt8.toNat_xor]
                have hBX := hid hbx
                clear hbx
                go_wp2
                rw [hBX.out]
                refine ⟨⟨k + 1, _, by omega, by go_num, hid (turnTo_succ HTu.out HC1.out (by rw [HN.out]; omega)), hHk.put (a + k) _ (by rw [(HTu.out).1, HN.out]; omega), hok.set_ _ _⟩, by simp [intOf]; omega⟩
              · have hk4 : k = 4 := by omega
                have hnone := turnTo_none (hk4 ▸ HTu.out) (by rw [HN.out]; exact ha) ht HT0.out HPc.out
                have HNo := hid hnone
                have hsl := hHk.slice ((HTu.out).1.trans HN.out) hcl hcm
                clear hnone
                go_wp2_with (first
                  | (go_at_call 34; refine (HNum.out _ _).mono ?_; rintro e w9 ⟨rfl, rfl⟩)
                  | (go_at_call 35
                     refine (HGK.out _ _ ys hsl (by rw [(HTu.out).1, HN.out]; omega)).mono ?_
                     rintro e w9 hgot
                     rw [HNo.out, gotR_none] at hgot
                     obtain ⟨C1, l1, e1, C2, l2, e2, rfl, _, _, hx9⟩ := hgot
                     unfold kVals
                     dsimp only [run0])
                  | (go_at_call 30; refine (HLV.out _).mono ?_; rintro e w8 ⟨rfl, hx8⟩))
                go_ret
                exact ⟨rfl, Ext.trans (Ext.trans (Ext.trans (hok.ext_new xeY hgW) hx9) (ext_alloc _ _)) hx8⟩
    · have HP2 := hid (fun (V : World) (h : Ext W V) => HPN.out V h hr)
      clear hr hbh
      go_wp2_with (first
        | (go_at_call 32; refine (HOF.out _).mono ?_; rintro e w3 ⟨rfl, hx3⟩; have x3 := Ext.trans x2 hx3)
        | (go_at_call 31; refine (HP2.out _ x3).mono ?_; rintro e w4 ⟨rfl, hx4⟩)
        | (go_at_call 34; refine (HNum.out _ _).mono ?_; rintro e w6 ⟨rfl, rfl⟩)
        | (go_at_call 30; refine (HLV.out _).mono ?_; rintro e w8 ⟨rfl, hx8⟩))
      go_ret
      exact ⟨rfl, Ext.trans (Ext.trans x3 hx4) hx8⟩
theorem keepBack_frame (cs : Array Value) (r : KRun) (W : World) (h : repRunW.holds W (all W) (Value.agg cs).cells.toList r) (at_ : Int) (hat : (Lit.int .i64 at_).wf = true) (t : Int) (ht : 0 ≤ t ∧ t < 4294967296) :
    Calls Try.prog 8 #[.agg cs, .int .i64 at_, .int .u32 t] W fun e w' => e = .returned (.bool true) ∧ Ext W w' := by
  obtain ⟨u1, u2, rfl, hw, h1, h2⟩ := run_openW h
  obtain ⟨n, rfl⟩ : ∃ n : Nat, t = n := ⟨t.toNat, by omega⟩
  exact keepBack_any r hw u1 u2 W h1 h2 at_ (i64_of hat) n (by omega)
end
end Go.Proofs.Ytjchobncmogcpaa
