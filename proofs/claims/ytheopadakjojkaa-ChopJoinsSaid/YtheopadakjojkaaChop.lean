/- The walks of chop's Joiner. -/
import Derived.Test.YtheopadakjojkaaChopNil
namespace Go.Proofs.Ytheopadakjojkaa
open Go.RowKit

/-- A joiner in memory: what it waits for, what it has. -/
def JoinerAt (X : Nat → Prop) (w : World) (g : Nat) (n : Nat) (m : List UInt8) : Prop :=
  ∃ A c, Blk w g 52 #[.bool true, .int .i64 n, .slice A m.length c] ∧ IsSlice repByte w (outOf X w) (.slice A m.length c) m ∧ X g ∧ m.length ≤ 2000 ∧ n ≤ 1000
theorem JoinerAt.ext {X : Nat → Prop} {w w' : World} {g : Nat} {n : Nat} {m : List UInt8} (h : JoinerAt X w g n m) (he : Ext w w') : JoinerAt X w' g n m := by
  obtain ⟨A, c, h1, h2, h3, h4, h5⟩ := h
  exact ⟨A, c, h1.ext he, h2.outExt he, h3, h4, h5⟩
theorem JoinerAt.other {X : Nat → Prop} {w w' : World} {g g' : Nat} {n : Nat} {m : List UInt8} (h : JoinerAt X w g n m) (ho : Only g' w w') (hX : X g') (hne : g ≠ g') : JoinerAt X w' g n m := by
  obtain ⟨A, c, h1, h2, h3, h4, h5⟩ := h
  exact ⟨A, c, h1.grown ho (fun e => hne (by injection e)), h2.outOnly ho hX, h3, h4, h5⟩
theorem JoinerAt.lt {X : Nat → Prop} {w : World} {g : Nat} {n : Nat} {m : List UInt8} (h : JoinerAt X w g n m) : g < w.heap.size := by
  obtain ⟨A, c, h1, _⟩ := h; exact h1.lt

/-- What a piece does. -/
structure Fed where
  out : List UInt8
  ok : Bool
  err : Int
  at_ : Nat
  m : List UInt8
def fitB (k n : Nat) (last : Bool) (bl ml : Nat) : Bool := decide (k = n) && ((last || decide (bl = 63)) && decide (ml + bl ≤ 2000))
def feedC (n : Nat) (m : List UInt8) (k : Nat) (last : Bool) (b : List UInt8) : Fed :=
  if fitB k n last b.length m.length then (if last then ⟨m ++ b, true, 0, 0, []⟩ else ⟨[], false, 0, n + 1, m ++ b⟩) else ⟨[], false, 130, 0, []⟩
def feedS (n : Nat) (m : List UInt8) (p : List UInt8) : Fed :=
  match p with
  | [] => ⟨[], false, 130, 0, []⟩
  | c :: b => if 63 < b.length then ⟨[], false, 130, 0, []⟩ else if c.toNat % 128 = 0 then feedC 0 [] 0 (decide (128 ≤ c.toNat)) b else feedC n m (c.toNat % 128) (decide (128 ≤ c.toNat)) b
theorem fitB_le {k n bl ml : Nat} {last : Bool} (h : fitB k n last bl ml = true) : ml + bl ≤ 2000 := by
  unfold fitB at h; simp at h; omega
theorem fitB_eq {k n bl ml : Nat} {last : Bool} (h : fitB k n last bl ml = true) : k = n := by
  unfold fitB at h; simp at h; omega
theorem head_not (c : UInt8) : wrap64 (bits BinOp.andNot IntKind.u8 (c.toNat : Int) 128) = ((c.toNat % 128 : Nat) : Int) := by
  have h : ∀ n : Fin 256, wrap64 (bits BinOp.andNot IntKind.u8 (n.val : Int) 128) = ((n.val % 128 : Nat) : Int) := by decide +kernel
  exact h ⟨c.toNat, c.toNat_lt⟩
theorem head_last (c : UInt8) : (bits BinOp.and IntKind.u8 (c.toNat : Int) 128 != 0) = decide (128 ≤ c.toNat) := by
  have h : ∀ n : Fin 256, (bits BinOp.and IntKind.u8 (n.val : Int) 128 != 0) = decide (128 ≤ n.val) := by decide +kernel
  exact h ⟨c.toNat, c.toNat_lt⟩

theorem lits2 (w W1 : World) (u v : Value) (a b : List UInt8) (g : Nat) (e1 : W1 = w.alloc (.cells #[u, v] 49)) (hg : g = w.heap.size) (hu : IsSlice repByte w (all w) u a) (hv : IsSlice repByte w (all w) v b) :
    IsSlice (repSlice repByte) W1 (all W1) (.slice (some ⟨g, 0, none⟩) 2 2) [a, b] ∧ Ext w W1 := by
  rw [e1]
  exact ⟨isSlice_lits (r := repSlice repByte) (xs := [a, b]) (us := [_, _]) rfl ⟨isSlice_single hu, isSlice_single hv, trivial⟩ (by simp [maxLen]) rfl hg, ext_alloc _ _⟩

set_option maxRecDepth 100000
section
theorem waits_any (w : World) (g n : Nat) (m : List UInt8) (X : Nat → Prop) (h : JoinerAt X w g n m) :
    Calls Try.prog 37 #[.pointer (some ⟨g, 0, none⟩)] w fun e w' => e = .returned (.int .i64 n) ∧ w = w' := by
  obtain ⟨A, c, h1, _⟩ := h
  have c1 : w.cell? ⟨g, 1, none⟩ = some (.int .i64 n) := h1.cell 1
  have hi := isMade_any w g true (h1.cell 0)
  have HI := hid hi
  clear hi
  go_enter Try.func37, Try.ntmps37
  go_wp2_with (go_at_call 85; refine HI.out.mono ?_; rintro e w' ⟨rfl, rfl⟩)
  go_ret
  exact ⟨rfl, rfl⟩
theorem anew_any (w : World) (g n : Nat) (m : List UInt8) (X : Nat → Prop) (h : JoinerAt X w g n m) :
    Calls Try.prog 86 #[.pointer (some ⟨g, 0, none⟩)] w fun e w' => ∃ u, e = .returned u ∧ IsSlice repByte w' (outOf X w') u m ∧ JoinerAt X w' g 0 [] ∧ Only g w w' := by
  obtain ⟨A, c, h1, h2, h3, h4, h5⟩ := h
  have c1 : w.cell? ⟨g, 1, none⟩ = some (.int .i64 n) := h1.cell 1
  have c2 : w.cell? ⟨g, 2, none⟩ = some (.slice A m.length c) := h1.cell 2
  have f1 := h1.frozen 1
  have f2 := h1.frozen 2
  go_enter Try.func86, Try.ntmps86
  go_wp2
  go_ret
  have ho : Only g w ((w.setCell ⟨g, 1, none⟩ (.int .i64 0)).setCell ⟨g, 2, none⟩ (.slice none 0 0)) := Only.set_ (Only.set_ (Only.refl _ _) _ _) _ _
  exact ⟨_, rfl, h2.outOnly ho h3, ⟨none, 0, (h1.set_ 1 (.int .i64 0)).set_ 2 (.slice none 0 0), isSlice_nil _ _ _, h3, by simp, by omega⟩, ho⟩
theorem fits_any (w : World) (g n k : Nat) (m : List UInt8) (last : Bool) (X : Nat → Prop) (h : JoinerAt X w g n m) (B : Option Addr) (bl d : Nat) (hbl : bl ≤ 1000) :
    Calls Try.prog 87 #[.pointer (some ⟨g, 0, none⟩), .int .i64 k, .bool last, .slice B bl d] w fun e w' => e = .returned (.bool (fitB k n last bl m.length)) ∧ w = w' := by
  obtain ⟨A, c, h1, h2, h3, h4, h5⟩ := h
  have c1 : w.cell? ⟨g, 1, none⟩ = some (.int .i64 n) := h1.cell 1
  have c2 : w.cell? ⟨g, 2, none⟩ = some (.slice A m.length c) := h1.cell 2
  generalize m.length = ml at *
  clear h2
  unfold fitB
  go_enter Try.func87, Try.ntmps87
  by_cases hk : k = n
  · subst hk
    rw [decide_eq_true rfl]
    by_cases hm : ml + bl ≤ 2000
    · rw [decide_eq_true hm]
      cases last with
      | true =>
        go_wp2
        go_ret
        exact ⟨ret_bool (by simp; omega), rfl⟩
      | false =>
        by_cases hb : bl = 63
        · subst hb
          go_wp2
          go_ret
          exact ⟨ret_bool (by simp; omega), rfl⟩
        · rw [decide_eq_false hb]
          go_wp2
          go_ret
          exact ⟨rfl, rfl⟩
    · rw [decide_eq_false hm]
      cases last with
      | true =>
        go_wp2
        go_ret
        exact ⟨ret_bool (by simp; omega), rfl⟩
      | false =>
        by_cases hb : bl = 63
        · subst hb
          go_wp2
          go_ret
          exact ⟨ret_bool (by simp; omega), rfl⟩
        · rw [decide_eq_false hb]
          go_wp2
          go_ret
          exact ⟨rfl, rfl⟩
  · rw [decide_eq_false hk]
    go_wp2
    go_ret
    exact ⟨rfl, rfl⟩

set_option maxHeartbeats 800000 in
theorem feed_any (w : World) (g n : Nat) (m p : List UInt8) (X : Nat → Prop) (h : JoinerAt X w g n m) (v : Value) (hp : IsSlice repByte w (outOf X w) v p) (hX : ∀ b, X b → b < w.heap.size) :
    Calls Try.prog 35 #[.pointer (some ⟨g, 0, none⟩), v] w fun e w' => ∃ u, e = .returned (.tuple #[u, .bool (feedS n m p).ok, .int .i64 (feedS n m p).err]) ∧ IsSlice repByte w' (outOf X w') u (feedS n m p).out ∧ JoinerAt X w' g (feedS n m p).at_ (feedS n m p).m ∧ Only g w w' := by
  have hi : Calls Try.prog 85 #[.pointer (some ⟨g, 0, none⟩)] w fun e w' => e = .returned (.bool true) ∧ w = w' := by
    obtain ⟨A, c, h1, _⟩ := h
    exact isMade_any w g true (h1.cell 0)
  have HI := hid hi
  clear hi
  obtain ⟨B, pn, pd, rfl, hnc, hcm, hrow⟩ := hp
  have hpn := hrow.1
  have hmax : pn ≤ 9223372036854775807 := by unfold maxLen at hcm; omega
  cases p with
  | nil =>
    simp at hpn
    subst hpn
    go_enter Try.func35, Try.ntmps35
    go_wp2_with (go_at_call 85; refine HI.out.mono ?_; rintro e w' ⟨rfl, rfl⟩)
    refine (anew_any w g _ _ X h).mono ?_
    rintro e w5 ⟨u, rfl, hs5, hj5, ho5⟩
    go_wp2
    go_ret3
    exact ⟨_, rfl, isSlice_nil _ _ _, hj5, ho5⟩
  | cons c b =>
    simp at hpn
    by_cases hbig : 63 < b.length
    · have hS : feedS n m (c :: b) = ⟨[], false, 130, 0, []⟩ := by simp only [feedS, if_pos hbig]
      rw [hS]
      have hpn' : 64 < pn := by omega
      clear hpn hS
      go_enter Try.func35, Try.ntmps35
      go_wp2_with (go_at_call 85; refine HI.out.mono ?_; rintro e w' ⟨rfl, rfl⟩)
      refine (anew_any w g _ _ X h).mono ?_
      rintro e w5 ⟨u, rfl, hs5, hj5, ho5⟩
      go_wp2
      go_ret3
      exact ⟨_, rfl, isSlice_nil _ _ _, hj5, ho5⟩
    · obtain ⟨bb, off, x, rfl, hx, hcx⟩ := hrow.byte (show 0 < pn by omega)
      obtain ⟨hx0, hcx⟩ := hcx
      simp only [List.getElem?_cons_zero, Option.some.injEq] at hx0
      subst hx0
      simp only [Nat.add_zero] at hcx
      have hsl : IsSlice repByte w (outOf X w) (.slice (some ⟨bb, off, none⟩) pn pd) (c :: b) := ⟨_, _, _, rfl, hnc, hcm, hrow⟩
      obtain ⟨B', hrun, hcut⟩ := cut_from Try.underlying49 info_byte hsl (k := 1) (by omega)
      replace hrun : ∀ w, (Instr.sliceAt 49 (.slice (some ⟨bb, off, none⟩) pn pd) (some (.int .i64 1)) none none).run Try.prog w = .ok (.slice B' (pn - 1) (pd - 1)) w := hrun
      rw [List.drop_one, List.tail_cons] at hcut
      have hnot := head_not c
      have hlast := head_last c
      have hkb : c.toNat % 128 < 128 := Nat.mod_lt _ (by omega)
      have hp1 : 1 ≤ pn := by omega
      have hp2 : pn ≤ 64 := by omega
      have hz : ((pn : Int) == 0) = false := by simp; omega
      have hg : decide ((64 : Int) < (pn : Int)) = false := decide_eq_false (by omega)
      have hf : ∀ (W1 : World) (n1 k1 : Nat) (m1 : List UInt8) (last : Bool), JoinerAt X W1 g n1 m1 → Calls Try.prog 87 #[.pointer (some ⟨g, 0, none⟩), .int .i64 k1, .bool last, .slice B' (pn - 1) (pd - 1)] W1 fun e w' => e = .returned (.bool (fitB k1 n1 last b.length m1.length)) ∧ W1 = w' := fun W1 n1 k1 m1 last hj => by
        rw [show b.length = pn - 1 from by omega]
        exact fits_any W1 g n1 k1 m1 last X hj B' (pn - 1) (pd - 1) (by omega)
      have hS : feedS n m (c :: b) = if c.toNat % 128 = 0 then feedC 0 [] 0 (decide (128 ≤ c.toNat)) b else feedC n m (c.toNat % 128) (decide (128 ≤ c.toNat)) b := by simp only [feedS, if_neg hbig]
      have HF := hid hf
      have HPN := hid hpn
      have HB := hid hbig
      rw [hS]
      clear hpn hbig hS hf hsl hrow
      generalize decide (128 ≤ c.toNat) = last at *
      generalize c.toNat % 128 = k at *
      have hgX : X g := by obtain ⟨A, c, h1, h2, h3, _⟩ := h; exact h3
      by_cases hk0 : k = 0
      · subst hk0
        rw [if_pos rfl]
        cases hF : fitB 0 0 last b.length ([] : List UInt8).length with
        | false =>
          have hfe : feedC 0 [] 0 last b = ⟨[], false, 130, 0, []⟩ := by simp only [feedC, hF, Bool.false_eq_true, if_false]
          rw [hfe]
          have HFF := hid hF
          clear hF hfe
          go_enter Try.func35, Try.ntmps35
          go_wp2_with (go_at_call 85; refine HI.out.mono ?_; rintro e w' ⟨rfl, rfl⟩)
          go_quiet (fail)
          go_wp2_with fail
          refine (anew_any _ g _ _ X (h.ext (ext_drewN _ nq))).mono ?_
          rintro e w1 ⟨u0, rfl, _, hj1, ho1⟩
          have ho : Only g w w1 := (Only.of_ext (ext_drewN w nq)).trans ho1
          go_wp2_with fail
          refine (HF.out _ 0 0 [] last hj1).mono ?_
          rw [HFF.out]
          rintro e wf ⟨rfl, rfl⟩
          go_wp2_with fail
          refine (anew_any _ g _ _ X hj1).mono ?_
          rintro e w5 ⟨u5, rfl, hs5, hj5, ho5⟩
          go_wp2
          go_ret3
          exact ⟨_, rfl, isSlice_nil _ _ _, hj5, ho.trans ho5⟩
        | true =>
          cases last with
          | true =>
            have hfe : feedC 0 [] 0 true b = ⟨[] ++ b, true, 0, 0, []⟩ := by simp only [feedC, hF, Bool.false_eq_true, if_true, if_false]
            obtain ⟨Q, hQ⟩ : ∃ Q, Q = [] ++ b := ⟨_, rfl⟩
            rw [hfe, ← hQ]
            have hml : ([]).length + b.length ≤ 2000 := fitB_le hF
            have hkn : 0 = 0 := fitB_eq hF
            have hQl : Q.length ≤ 2000 := by rw [hQ, List.length_append]; exact hml
            have HQ := hid hQ
            have HFF := hid hF
            have HKN := hid hkn
            clear hF hfe hkn hQ
            go_enter Try.func35, Try.ntmps35
            go_wp2_with (go_at_call 85; refine HI.out.mono ?_; rintro e w' ⟨rfl, rfl⟩)
            go_quiet (fail)
            go_wp2_with fail
            refine (anew_any _ g _ _ X (h.ext (ext_drewN _ nq))).mono ?_
            rintro e w1 ⟨u0, rfl, _, hj1, ho1⟩
            have ho : Only g w w1 := (Only.of_ext (ext_drewN w nq)).trans ho1
            go_wp2_with fail
            have hcut1 := hcut.outOnly ho hgX
            have hX1 : ∀ b, X b → b < (w1).heap.size := fun b hb => Nat.lt_of_lt_of_le (hX b hb) ho.size
            refine (HF.out _ 0 0 [] true hj1).mono ?_
            rw [HFF.out]
            rintro e wf ⟨rfl, rfl⟩
            obtain ⟨A6, c6, hb6, hs6, hx6, hm6, hn6⟩ := hj1
            have c1 : w1.cell? ⟨g, 1, none⟩ = some (.int .i64 ((0 : Nat) : Int)) := hb6.cell 1
            have c2 : w1.cell? ⟨g, 2, none⟩ = some (.slice A6 (([] : List UInt8).length : Nat) c6) := hb6.cell 2
            go_wp2_with fail
            obtain ⟨lits, xl⟩ := lits2 w1 _ _ _ ([]) b _ rfl rfl hs6.outAll hcut1.outAll
            refine (join_any _ [[], b] _ lits (by simp; omega)).mono ?_
            rintro e w7 ⟨u7, rfl, hs7, xe7⟩
            have hb7 := hb6.ext (Ext.trans xl xe7)
            have c17 : w7.cell? ⟨g, 1, none⟩ = some (.int .i64 ((0 : Nat) : Int)) := hb7.cell 1
            have c27 := hb7.cell 2
            simp only [List.getElem?_toArray, List.getElem?_cons_succ, List.getElem?_cons_zero] at c27
            have f17 := hb7.frozen 1
            have f27 := hb7.frozen 2
            obtain ⟨A7, c7, rfl⟩ := hs7.shape
            have ho7 : Only g w w7 := ho.then (Ext.trans xl xe7)
            have hs8 := (hs7.since xl).outNew (X := X) hX1
            have hfl : ([[], b] : List (List UInt8)).flatten = Q := by rw [HQ.out]; simp
            rw [hfl] at hs8 ⊢
            clear hs7 lits hfl
            have ho : Only g w7 ((w7.setCell ⟨g, 2, none⟩ (.slice A7 Q.length c7)).setCell ⟨g, 1, none⟩ (.int .i64 ((0 : Nat) + 1 : Int))) := Only.set_ (Only.set_ (Only.refl _ _) _ _) _ _
            have hj9 : JoinerAt X ((w7.setCell ⟨g, 2, none⟩ (.slice A7 Q.length c7)).setCell ⟨g, 1, none⟩ (.int .i64 ((0 : Nat) + 1 : Int))) g (0 + 1) Q := ⟨A7, c7, (hb7.set_ 2 _).set_ 1 _, hs8.outOnly ho hx6, hx6, hQl, by have := HKN.out; omega⟩
            have ho9 : Only g w ((w7.setCell ⟨g, 2, none⟩ (.slice A7 Q.length c7)).setCell ⟨g, 1, none⟩ (.int .i64 ((0 : Nat) + 1 : Int))) := Only.set_ (Only.set_ ho7 _ _) _ _
            go_wp2_with fail
            refine (anew_any _ g _ _ X hj9).mono ?_
            rintro e w5 ⟨u5, rfl, hs5, hj5, ho5⟩
            go_wp2
            go_ret3
            exact ⟨_, rfl, hs5, hj5, ho9.trans ho5⟩
          | false =>
            have hfe : feedC 0 [] 0 false b = ⟨[], false, 0, 0 + 1, [] ++ b⟩ := by simp only [feedC, hF, Bool.false_eq_true, if_true, if_false]
            obtain ⟨Q, hQ⟩ : ∃ Q, Q = [] ++ b := ⟨_, rfl⟩
            rw [hfe, ← hQ]
            have hml : ([]).length + b.length ≤ 2000 := fitB_le hF
            have hkn : 0 = 0 := fitB_eq hF
            have hQl : Q.length ≤ 2000 := by rw [hQ, List.length_append]; exact hml
            have HQ := hid hQ
            have HFF := hid hF
            have HKN := hid hkn
            clear hF hfe hkn hQ
            go_enter Try.func35, Try.ntmps35
            go_wp2_with (go_at_call 85; refine HI.out.mono ?_; rintro e w' ⟨rfl, rfl⟩)
            go_quiet (fail)
            go_wp2_with fail
            refine (anew_any _ g _ _ X (h.ext (ext_drewN _ nq))).mono ?_
            rintro e w1 ⟨u0, rfl, _, hj1, ho1⟩
            have ho : Only g w w1 := (Only.of_ext (ext_drewN w nq)).trans ho1
            go_wp2_with fail
            have hcut1 := hcut.outOnly ho hgX
            have hX1 : ∀ b, X b → b < (w1).heap.size := fun b hb => Nat.lt_of_lt_of_le (hX b hb) ho.size
            refine (HF.out _ 0 0 [] false hj1).mono ?_
            rw [HFF.out]
            rintro e wf ⟨rfl, rfl⟩
            obtain ⟨A6, c6, hb6, hs6, hx6, hm6, hn6⟩ := hj1
            have c1 : w1.cell? ⟨g, 1, none⟩ = some (.int .i64 ((0 : Nat) : Int)) := hb6.cell 1
            have c2 : w1.cell? ⟨g, 2, none⟩ = some (.slice A6 (([] : List UInt8).length : Nat) c6) := hb6.cell 2
            go_wp2_with fail
            obtain ⟨lits, xl⟩ := lits2 w1 _ _ _ ([]) b _ rfl rfl hs6.outAll hcut1.outAll
            refine (join_any _ [[], b] _ lits (by simp; omega)).mono ?_
            rintro e w7 ⟨u7, rfl, hs7, xe7⟩
            have hb7 := hb6.ext (Ext.trans xl xe7)
            have c17 : w7.cell? ⟨g, 1, none⟩ = some (.int .i64 ((0 : Nat) : Int)) := hb7.cell 1
            have c27 := hb7.cell 2
            simp only [List.getElem?_toArray, List.getElem?_cons_succ, List.getElem?_cons_zero] at c27
            have f17 := hb7.frozen 1
            have f27 := hb7.frozen 2
            obtain ⟨A7, c7, rfl⟩ := hs7.shape
            have ho7 : Only g w w7 := ho.then (Ext.trans xl xe7)
            have hs8 := (hs7.since xl).outNew (X := X) hX1
            have hfl : ([[], b] : List (List UInt8)).flatten = Q := by rw [HQ.out]; simp
            rw [hfl] at hs8 ⊢
            clear hs7 lits hfl
            have ho : Only g w7 ((w7.setCell ⟨g, 2, none⟩ (.slice A7 Q.length c7)).setCell ⟨g, 1, none⟩ (.int .i64 ((0 : Nat) + 1 : Int))) := Only.set_ (Only.set_ (Only.refl _ _) _ _) _ _
            have hj9 : JoinerAt X ((w7.setCell ⟨g, 2, none⟩ (.slice A7 Q.length c7)).setCell ⟨g, 1, none⟩ (.int .i64 ((0 : Nat) + 1 : Int))) g (0 + 1) Q := ⟨A7, c7, (hb7.set_ 2 _).set_ 1 _, hs8.outOnly ho hx6, hx6, hQl, by have := HKN.out; omega⟩
            have ho9 : Only g w ((w7.setCell ⟨g, 2, none⟩ (.slice A7 Q.length c7)).setCell ⟨g, 1, none⟩ (.int .i64 ((0 : Nat) + 1 : Int))) := Only.set_ (Only.set_ ho7 _ _) _ _
            go_wp2_with fail
            go_ret3
            exact ⟨_, rfl, isSlice_nil _ _ _, hj9, ho9⟩
      · rw [if_neg hk0]
        cases hF : fitB k n last b.length (m : List UInt8).length with
        | false =>
          have hfe : feedC n m k last b = ⟨[], false, 130, 0, []⟩ := by simp only [feedC, hF, Bool.false_eq_true, if_false]
          rw [hfe]
          have HFF := hid hF
          clear hF hfe
          go_enter Try.func35, Try.ntmps35
          go_wp2_with (go_at_call 85; refine HI.out.mono ?_; rintro e w' ⟨rfl, rfl⟩)
          go_quiet (fail)
          go_wp2_with fail
          have hj1 := h.ext (ext_drewN w nq)
          have ho : Only g w (w.drewN nq) := Only.of_ext (ext_drewN w nq)
          generalize w.drewN nq = w1 at *
          refine (HF.out _ n k m last hj1).mono ?_
          rw [HFF.out]
          rintro e wf ⟨rfl, rfl⟩
          go_wp2_with fail
          refine (anew_any _ g _ _ X hj1).mono ?_
          rintro e w5 ⟨u5, rfl, hs5, hj5, ho5⟩
          go_wp2
          go_ret3
          exact ⟨_, rfl, isSlice_nil _ _ _, hj5, ho.trans ho5⟩
        | true =>
          cases last with
          | true =>
            have hfe : feedC n m k true b = ⟨m ++ b, true, 0, 0, []⟩ := by simp only [feedC, hF, Bool.false_eq_true, if_true, if_false]
            obtain ⟨Q, hQ⟩ : ∃ Q, Q = m ++ b := ⟨_, rfl⟩
            rw [hfe, ← hQ]
            have hml : (m).length + b.length ≤ 2000 := fitB_le hF
            have hkn : k = n := fitB_eq hF
            have hQl : Q.length ≤ 2000 := by rw [hQ, List.length_append]; exact hml
            have HQ := hid hQ
            have HFF := hid hF
            have HKN := hid hkn
            clear hF hfe hkn hQ
            go_enter Try.func35, Try.ntmps35
            go_wp2_with (go_at_call 85; refine HI.out.mono ?_; rintro e w' ⟨rfl, rfl⟩)
            go_quiet (fail)
            go_wp2_with fail
            have hj1 := h.ext (ext_drewN w nq)
            have ho : Only g w (w.drewN nq) := Only.of_ext (ext_drewN w nq)
            generalize w.drewN nq = w1 at *
            have hcut1 := hcut.outOnly ho hgX
            have hX1 : ∀ b, X b → b < (w1).heap.size := fun b hb => Nat.lt_of_lt_of_le (hX b hb) ho.size
            refine (HF.out _ n k m true hj1).mono ?_
            rw [HFF.out]
            rintro e wf ⟨rfl, rfl⟩
            obtain ⟨A6, c6, hb6, hs6, hx6, hm6, hn6⟩ := hj1
            have c1 : w1.cell? ⟨g, 1, none⟩ = some (.int .i64 ((n : Nat) : Int)) := hb6.cell 1
            have c2 : w1.cell? ⟨g, 2, none⟩ = some (.slice A6 ((m : List UInt8).length : Nat) c6) := hb6.cell 2
            go_wp2_with fail
            obtain ⟨lits, xl⟩ := lits2 w1 _ _ _ (m) b _ rfl rfl hs6.outAll hcut1.outAll
            refine (join_any _ [m, b] _ lits (by simp; omega)).mono ?_
            rintro e w7 ⟨u7, rfl, hs7, xe7⟩
            have hb7 := hb6.ext (Ext.trans xl xe7)
            have c17 : w7.cell? ⟨g, 1, none⟩ = some (.int .i64 ((n : Nat) : Int)) := hb7.cell 1
            have c27 := hb7.cell 2
            simp only [List.getElem?_toArray, List.getElem?_cons_succ, List.getElem?_cons_zero] at c27
            have f17 := hb7.frozen 1
            have f27 := hb7.frozen 2
            obtain ⟨A7, c7, rfl⟩ := hs7.shape
            have ho7 : Only g w w7 := ho.then (Ext.trans xl xe7)
            have hs8 := (hs7.since xl).outNew (X := X) hX1
            have hfl : ([m, b] : List (List UInt8)).flatten = Q := by rw [HQ.out]; simp
            rw [hfl] at hs8 ⊢
            clear hs7 lits hfl
            have ho : Only g w7 ((w7.setCell ⟨g, 2, none⟩ (.slice A7 Q.length c7)).setCell ⟨g, 1, none⟩ (.int .i64 ((n : Nat) + 1 : Int))) := Only.set_ (Only.set_ (Only.refl _ _) _ _) _ _
            have hj9 : JoinerAt X ((w7.setCell ⟨g, 2, none⟩ (.slice A7 Q.length c7)).setCell ⟨g, 1, none⟩ (.int .i64 ((n : Nat) + 1 : Int))) g (n + 1) Q := ⟨A7, c7, (hb7.set_ 2 _).set_ 1 _, hs8.outOnly ho hx6, hx6, hQl, by have := HKN.out; omega⟩
            have ho9 : Only g w ((w7.setCell ⟨g, 2, none⟩ (.slice A7 Q.length c7)).setCell ⟨g, 1, none⟩ (.int .i64 ((n : Nat) + 1 : Int))) := Only.set_ (Only.set_ ho7 _ _) _ _
            go_wp2_with fail
            refine (anew_any _ g _ _ X hj9).mono ?_
            rintro e w5 ⟨u5, rfl, hs5, hj5, ho5⟩
            go_wp2
            go_ret3
            exact ⟨_, rfl, hs5, hj5, ho9.trans ho5⟩
          | false =>
            have hfe : feedC n m k false b = ⟨[], false, 0, n + 1, m ++ b⟩ := by simp only [feedC, hF, Bool.false_eq_true, if_true, if_false]
            obtain ⟨Q, hQ⟩ : ∃ Q, Q = m ++ b := ⟨_, rfl⟩
            rw [hfe, ← hQ]
            have hml : (m).length + b.length ≤ 2000 := fitB_le hF
            have hkn : k = n := fitB_eq hF
            have hQl : Q.length ≤ 2000 := by rw [hQ, List.length_append]; exact hml
            have HQ := hid hQ
            have HFF := hid hF
            have HKN := hid hkn
            clear hF hfe hkn hQ
            go_enter Try.func35, Try.ntmps35
            go_wp2_with (go_at_call 85; refine HI.out.mono ?_; rintro e w' ⟨rfl, rfl⟩)
            go_quiet (fail)
            go_wp2_with fail
            have hj1 := h.ext (ext_drewN w nq)
            have ho : Only g w (w.drewN nq) := Only.of_ext (ext_drewN w nq)
            generalize w.drewN nq = w1 at *
            have hcut1 := hcut.outOnly ho hgX
            have hX1 : ∀ b, X b → b < (w1).heap.size := fun b hb => Nat.lt_of_lt_of_le (hX b hb) ho.size
            refine (HF.out _ n k m false hj1).mono ?_
            rw [HFF.out]
            rintro e wf ⟨rfl, rfl⟩
            obtain ⟨A6, c6, hb6, hs6, hx6, hm6, hn6⟩ := hj1
            have c1 : w1.cell? ⟨g, 1, none⟩ = some (.int .i64 ((n : Nat) : Int)) := hb6.cell 1
            have c2 : w1.cell? ⟨g, 2, none⟩ = some (.slice A6 ((m : List UInt8).length : Nat) c6) := hb6.cell 2
            go_wp2_with fail
            obtain ⟨lits, xl⟩ := lits2 w1 _ _ _ (m) b _ rfl rfl hs6.outAll hcut1.outAll
            refine (join_any _ [m, b] _ lits (by simp; omega)).mono ?_
            rintro e w7 ⟨u7, rfl, hs7, xe7⟩
            have hb7 := hb6.ext (Ext.trans xl xe7)
            have c17 : w7.cell? ⟨g, 1, none⟩ = some (.int .i64 ((n : Nat) : Int)) := hb7.cell 1
            have c27 := hb7.cell 2
            simp only [List.getElem?_toArray, List.getElem?_cons_succ, List.getElem?_cons_zero] at c27
            have f17 := hb7.frozen 1
            have f27 := hb7.frozen 2
            obtain ⟨A7, c7, rfl⟩ := hs7.shape
            have ho7 : Only g w w7 := ho.then (Ext.trans xl xe7)
            have hs8 := (hs7.since xl).outNew (X := X) hX1
            have hfl : ([m, b] : List (List UInt8)).flatten = Q := by rw [HQ.out]; simp
            rw [hfl] at hs8 ⊢
            clear hs7 lits hfl
            have ho : Only g w7 ((w7.setCell ⟨g, 2, none⟩ (.slice A7 Q.length c7)).setCell ⟨g, 1, none⟩ (.int .i64 ((n : Nat) + 1 : Int))) := Only.set_ (Only.set_ (Only.refl _ _) _ _) _ _
            have hj9 : JoinerAt X ((w7.setCell ⟨g, 2, none⟩ (.slice A7 Q.length c7)).setCell ⟨g, 1, none⟩ (.int .i64 ((n : Nat) + 1 : Int))) g (n + 1) Q := ⟨A7, c7, (hb7.set_ 2 _).set_ 1 _, hs8.outOnly ho hx6, hx6, hQl, by have := HKN.out; omega⟩
            have ho9 : Only g w ((w7.setCell ⟨g, 2, none⟩ (.slice A7 Q.length c7)).setCell ⟨g, 1, none⟩ (.int .i64 ((n : Nat) + 1 : Int))) := Only.set_ (Only.set_ ho7 _ _) _ _
            go_wp2_with fail
            go_ret3
            exact ⟨_, rfl, isSlice_nil _ _ _, hj9, ho9⟩
end
end Go.Proofs.Ytheopadakjojkaa
