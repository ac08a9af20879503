/- The walk of span's reference's Sorted. -/
import Derived.Test.YtmllkniloalgoaaMost
namespace Go.Proofs.Ytmllkniloalgoaa
open Go.RowKit

theorem Own.intsOf {ki : IntKind} {e : TypeId} {base : Nat} {w : World} {v : Value} {xs : List Int} (h : Own (repInt ki) e base w v xs) :
    w.ownsRow base e 1 v xs.length (xs.map (Value.int ki)) ∧ ∀ x ∈ xs, (Lit.int ki x).wf = true := by
  obtain ⟨ys, h1, h2⟩ := h
  have hy : ys = xs.map (Value.int ki) := by
    refine List.ext_getElem? fun j => ?_
    have hl : ys.length = xs.length := by have := h1.1; simpa [repInt] using this
    rcases Nat.lt_or_ge j xs.length with hj | hj
    · obtain ⟨h3, _⟩ := h2 j hj
      have h3 : (ys.drop (j * 1)).take 1 = [Value.int ki xs[j]] := h3
      rw [Nat.mul_one, List.drop_eq_getElem_cons (by omega), List.take_succ_cons, List.take_zero] at h3
      injection h3 with h3
      rw [List.getElem?_eq_getElem (by omega), h3, List.getElem?_map, List.getElem?_eq_getElem hj]
      rfl
    · rw [List.getElem?_eq_none (by omega), List.getElem?_eq_none (by simpa using hj)]
  refine ⟨hy ▸ h1, fun x hx => ?_⟩
  obtain ⟨j, hj, rfl⟩ := List.getElem_of_mem hx
  exact (h2 j hj).2
theorem own_ints_mk {ki : IntKind} {e : TypeId} {base : Nat} {w : World} {v : Value} {xs : List Int} (h1 : w.ownsRow base e 1 v xs.length (xs.map (Value.int ki))) (h2 : ∀ x ∈ xs, (Lit.int ki x).wf = true) : Own (repInt ki) e base w v xs := by
  refine ⟨_, h1, fun j hj => ⟨?_, h2 _ (List.getElem_mem hj)⟩⟩
  show ((xs.map (Value.int ki)).drop (j * 1)).take 1 = [Value.int ki xs[j]]
  rw [Nat.mul_one, List.drop_eq_getElem_cons (by simpa using hj), List.take_succ_cons, List.take_zero]
  simp
/-- A store into a row of the call's own. -/
theorem Own.setInt {ki : IntKind} {e : TypeId} {base : Nat} {w : World} {g n c : Nat} {xs : List Int} (h : Own (repInt ki) e base w (.slice (some ⟨g, 0, none⟩) n c) xs) (j : Nat) (x : Int) (hx : (Lit.int ki x).wf = true) :
    Own (repInt ki) e base (w.setCell ⟨g, j, none⟩ (.int ki x)) (.slice (some ⟨g, 0, none⟩) n c) (xs.set j x) := by
  obtain ⟨⟨hl, hcase⟩, h2⟩ := h.intsOf
  rcases hcase with ⟨hv, _⟩ | ⟨g', cap, cur, hv, hg, hh, hnc, hm, hcs, hcur⟩
  · cases hv
  · injection hv with e1 e2 e3
    injection e1 with e1
    injection e1 with e1 _ _
    subst e1 e2 e3
    refine own_ints_mk ⟨by simp, .inr ⟨g, c, cur.setIfInBounds j (.int ki x), by simp, hg, Blk.set_ hh j _, by simpa using hnc, hm, by simpa using hcs, ?_⟩⟩ fun y hy => ?_
    · rw [Array.toList_setIfInBounds, List.length_set, List.take_set, hcur, List.map_set]
    · rcases List.mem_or_eq_of_mem_set hy with hy | rfl
      · exact h2 y hy
      · exact hx
theorem Own.cells1 {ki : IntKind} {e : TypeId} {base : Nat} {w : World} {g n c : Nat} {xs : List Int} (h : Own (repInt ki) e base w (.slice (some ⟨g, 0, none⟩) n c) xs) : base ≤ g ∧ n = xs.length ∧ ∀ (j : Nat) (x : Int), xs[j]? = some x → w.cell? ⟨g, j, none⟩ = some (.int ki x) ∧ w.frozen? ⟨g, j, none⟩ = false ∧ (Lit.int ki x).wf = true := by
  obtain ⟨⟨hl, hcase⟩, h2⟩ := h.intsOf
  rcases hcase with ⟨hv, _⟩ | ⟨g', cap, cur, hv, hg, hh, hnc, hm, hcs, hcur⟩
  · cases hv
  · injection hv with e1 e2 e3
    injection e1 with e1
    injection e1 with e1 _ _
    subst e1 e2 e3
    have hb : Blk w g e cur := hh
    refine ⟨hg, rfl, fun j x hx => ⟨?_, hb.frozen j, h2 x (List.mem_of_getElem? hx)⟩⟩
    rw [hb.cell, ← Array.getElem?_toList]
    have hj := lt_of_get hx
    have : (cur.toList.take (xs.length * 1))[j]? = some (Value.int ki x) := by rw [hcur, List.getElem?_map, hx]; rfl
    rw [List.getElem?_take_of_lt (by omega)] at this
    exact this
theorem Own.block1 {ki : IntKind} {e : TypeId} {base : Nat} {w : World} {v : Value} {xs : List Int} (h : Own (repInt ki) e base w v xs) (hne : 0 < xs.length) : ∃ g c, v = .slice (some ⟨g, 0, none⟩) xs.length c ∧ xs.length ≤ c ∧ c ≤ maxLen := by
  obtain ⟨⟨hl, hcase⟩, h2⟩ := h.intsOf
  rcases hcase with ⟨hv, hz⟩ | ⟨g', cap, cur, hv, hg, hh, hnc, hm, hcs, hcur⟩
  · omega
  · exact ⟨g', cap, hv, hnc, hm⟩
theorem at_mid {A B : List Int} {x : Int} : (A ++ x :: B)[A.length]? = some x := by simp
theorem at_last {A B : List Int} {a x : Int} : ((A ++ [a]) ++ x :: B)[A.length]? = some a := by simp
theorem swap_set {A B : List Int} {a x : Int} : (((A ++ [a]) ++ x :: B).set A.length x).set (A.length + 1) a = A ++ x :: a :: B := by
  simp
theorem swap_set' {A B : List Int} {a x : Int} : (((A ++ [a]) ++ x :: B).set (A.length + 1) a).set A.length x = A ++ x :: a :: B := by
  simp
/-- What the inner loop has: the number stands ahead of B's. -/
structure Ins (A B : List Int) (x : Int) (L : List Int) : Prop where
  up : (A ++ B).Pairwise (· ≤ ·)
  le : ∀ b ∈ B, x ≤ b
  perm : (A ++ x :: B).Perm L
theorem Ins.start {A : List Int} {x : Int} {L : List Int} (h : A.Pairwise (· ≤ ·)) (hp : A.Perm L) : Ins A [] x (L ++ [x]) := ⟨by simpa using h, by simp, List.Perm.append_right [x] hp⟩
theorem Ins.step {A B : List Int} {a x : Int} {L : List Int} (h : Ins (A ++ [a]) B x L) (hx : x < a) : Ins A (a :: B) x L :=
  ⟨by simpa using h.up, fun b hb => by
    rcases List.mem_cons.1 hb with rfl | hb
    · omega
    · exact h.le b hb, by
    refine List.Perm.trans ?_ h.perm
    rw [List.append_assoc]
    exact List.Perm.append_left A (List.Perm.swap a x B)⟩
theorem Ins.done {A B : List Int} {x : Int} {L : List Int} (h : Ins A B x L) (hA : ∀ a ∈ A, a ≤ x) : (A ++ x :: B).Pairwise (· ≤ ·) := by
  have hu := List.pairwise_append.1 h.up
  refine List.pairwise_append.2 ⟨hu.1, List.pairwise_cons.2 ⟨h.le, hu.2.1⟩, fun a ha b hb => ?_⟩
  rcases List.mem_cons.1 hb with rfl | hb
  · exact hA a ha
  · exact hu.2.2 a ha b hb
theorem ins_last {A B : List Int} {a x : Int} {L : List Int} (h : Ins (A ++ [a]) B x L) (ha : a ≤ x) : ∀ b ∈ A ++ [a], b ≤ x := by
  have h1 := (List.pairwise_append.1 h.up).1
  intro b hb
  rcases List.mem_append.1 hb with hb | hb
  · have := (List.pairwise_append.1 h1).2.2 b hb a (by simp)
    omega
  · have : b = a := by simpa using hb
    omega
theorem snoc_of {A : List Int} (h : 0 < A.length) : ∃ A' a, A = A' ++ [a] := by
  have hne : A ≠ [] := fun e => by rw [e] at h; simp at h
  exact ⟨A.dropLast, A.getLast hne, (List.dropLast_concat_getLast hne).symm⟩
theorem sorted_is {zs ys : List Int} (h : ys.Pairwise (· ≤ ·)) (hp : ys.Perm zs) : ys = sortI zs := by
  refine List.Perm.eq_of_pairwise (le := (· ≤ ·)) (fun a b _ _ h1 h2 => by omega) h ?_ (hp.trans (List.mergeSort_perm zs _).symm)
  have := List.pairwise_mergeSort (le := fun x y : Int => decide (x ≤ y)) (fun a b c h1 h2 => by simp at *; omega) (fun a b => by simp; omega) zs
  exact this.imp fun h => by simpa using h

set_option maxRecDepth 100000
section
set_option maxHeartbeats 1600000 in
theorem sorted_any (v : Value) (xs : List Int) (w : World) (h : IsSlice (repInt .i64) w (all w) v xs) (hl : xs.length ≤ 200) :
    Calls Try.prog 22 #[v] w fun e w' => ∃ u, e = .returned u ∧ IsSlice (repInt .i64) w' (fresh w w') u (sortI xs) ∧ Ext w w' := by
  obtain ⟨A, n, c, rfl, hnc, hcm, hrow⟩ := h
  have hn := hrow.1
  have hmax : n ≤ 200 := by omega
  have HN := hid hn
  clear hn
  go_enter Try.func22, Try.ntmps22
  go_wp2
  go_loopw [3, 4] (fun t i wr => ∃ (k : Nat) (L : List Int), k ≤ n ∧ i = .int .i64 k ∧ Own (repInt .i64) 3 w.heap.size wr t L ∧ L.length = k ∧ Hid (L.Pairwise (· ≤ ·) ∧ L.Perm (xs.take k)) ∧ Ext w wr) (fun _ i _ => n - (intOf i).toNat)
  case atStart => exact ⟨0, [], Nat.zero_le _, rfl, own_nil _ _ _ _, rfl, hid ⟨List.Pairwise.nil, by simp⟩, Below.refl _ _⟩
  case round =>
    obtain ⟨k, L, hk, rfl, hown, hLk, HL, hext⟩ := hrel
    have HLK := hid hLk
    by_cases hlt : k < n
    · obtain ⟨b, off, x, rfl, hx, hc, hwf⟩ := hrow.intE hext hlt
      have HX := hid hx
      have HWF := hid hwf
      obtain ⟨A3, c3, rfl, hq1, hq2, _⟩ := hown.form
      rw [hLk]
      rw [hLk] at hown hq1
      have hc3 : c3 ≤ 9223372036854775807 := by unfold maxLen at hq2; omega
      clear hx hwf hLk
      go_upto_region 7 with (at_builtin; refine wpl_app1 (r := repInt .i64) (base := w.heap.size) (x := x) _ _ rfl rfl Try.underlying22 info_int (by decide) hown rfl rfl rfl ⟨rfl, HWF.out⟩ (by have := HLK.out; omega) (by have := HLK.out; simp only [maxLen]; omega) hext.size ?_; intro v' w1 hown1 hg1)
      have hLx : (L ++ [x]).length = k + 1 := by rw [List.length_append, HLK.out]; rfl
      obtain ⟨g, c4, rfl, hk4, hc4⟩ := hown1.block1 (by rw [hLx]; omega)
      rw [hLx] at hown1 hk4 ⊢
      have hc4b : c4 ≤ 9223372036854775807 := by unfold maxLen at hc4; omega
      have hext1 : Ext w w1 := Below.grown hext hg1 hext.size (fun j hj => (hown.lt j hj).1)
      have hstart : Ins L [] x (L ++ [x]) := Ins.start HL.out.1 (List.Perm.refl _)
      have hfin : ∀ M : List Int, M.Perm (L ++ [x]) → M.Perm (xs.take (k + 1)) := fun M hM => by
        rw [take_succ_of HX.out]
        exact hM.trans (List.Perm.append_right [x] HL.out.2)
      have HFIN := hid hfin
      have HST := hid hstart
      clear hstart hfin hg1 hown hLx hq1 hq2 hc
      go_loopw [5] (fun t wr' => ∃ (p : Nat) (A B : List Int), t = .int .i64 p ∧ A.length = p ∧ p + B.length = k ∧ Own (repInt .i64) 3 w.heap.size wr' (.slice (some ⟨g, 0, none⟩) (k + 1) c4) (A ++ x :: B) ∧ Hid (Ins A B x (L ++ [x])) ∧ Ext w wr') (fun t _ => (intOf t).toNat)
      case atStart => exact ⟨k, L, [], rfl, HLK.out, by simp, hown1, HST, hext1⟩
      case round =>
        obtain ⟨p, A, B, rfl, hAp, hpB, hownr, HI, hextr⟩ := hrel
        have hpB' : p ≤ k := by omega
        have HAP := hid hAp
        have HPB := hid hpB
        clear hpB
        by_cases hp0 : p = 0
        · subst hp0
          obtain rfl : A = [] := List.eq_nil_of_length_eq_zero hAp
          clear hAp
          have hz : decide ((0 : Int) < ((0 : Nat) : Int)) = false := by simp
          go_wp2
          go_quiet (fail)
          go_wp2
          go_roundw
          case rel => exact ⟨k + 1, _, by omega, by go_num, hownr.ext (ext_drewN _ _), by have := HPB.out; simp; omega, hid ⟨HI.out.done (by simp), HFIN.out _ HI.out.perm⟩, below_drewN hextr _⟩
          case measure => simp [intOf]; omega
        · obtain ⟨A', a, rfl⟩ := snoc_of (A := A) (by omega)
          obtain ⟨q, rfl⟩ : ∃ q, p = q + 1 := ⟨p - 1, by omega⟩
          have hq : A'.length = q := by simp at hAp; omega
          obtain ⟨hgb, hkl, hcs⟩ := hownr.cells1
          clear hkl
          obtain ⟨ca, fa, wa⟩ := hcs A'.length a at_last
          obtain ⟨cx, fx, wx⟩ := hcs (A'.length + 1) x (by have := at_mid (A := A' ++ [a]) (B := B) (x := x); rwa [List.length_append] at this)
          rw [hq] at ca fa cx fx
          have hpos : decide ((0 : Int) < (q : Int) + 1) = true := decide_eq_true (by omega)
          have hwq : IntKind.i64.wrap (q : Int) = q := by rw [IntKind.wrap_i64]; omega
          have hwq2 : IntKind.i64.wrap ((q : Int) + 1 - 1) = q := by rw [IntKind.wrap_i64]; omega
          have HQ := hid hq
          have HWA := hid wa
          have hcast : ((q + 1 : Nat) : Int) = (q : Int) + 1 := by omega
          rw [hcast]
          clear hAp hcs hq wa wx hcast
          by_cases hax : x < a
          · have hab : decide (x < a) = true := decide_eq_true hax
            go_wp2
            go_quiet (fail)
            go_wp2
            have hownd : Own (repInt .i64) 3 w.heap.size (wr.drewN nq) (.slice (some ⟨g, 0, none⟩) (k + 1) c4) ((A' ++ [a]) ++ x :: B) := hownr.ext (ext_drewN _ _)
            have hextd : Ext w (wr.drewN nq) := below_drewN hextr _
            have ca' : (wr.drewN nq).cell? ⟨g, q, none⟩ = some (.int .i64 a) := ca
            have cx' : (wr.drewN nq).cell? ⟨g, q + 1, none⟩ = some (.int .i64 x) := cx
            have fa' : (wr.drewN nq).frozen? ⟨g, q, none⟩ = false := fa
            have fx' : (wr.drewN nq).frozen? ⟨g, q + 1, none⟩ = false := fx
            clear ca cx fa fx hownr hextr
            generalize wr.drewN nq = ww at *
            have hqk : q < k := by omega
            have hqi1 : (q : Int) < (k : Int) + 1 := by omega
            have hqi2 : (q : Int) + 1 < (k : Int) + 1 := by omega
            have hqi3 : (q : Int) < (k : Int) := by omega
            have hqk1 : q < k + 1 := by omega
            have hq0 : (0 : Int) ≤ (q : Int) + 1 := by omega
            have hq00 : (0 : Int) ≤ (q : Int) := by omega
            go_region_law (fail)
            all_goals
              go_wp2
              go_roundw
              case rel =>
                have hset := (hownd.setInt A'.length x HWF.out).setInt (A'.length + 1) a HWA.out
                rw [swap_set, HQ.out] at hset
                exact ⟨q, A', a :: B, by go_num, HQ.out, by have := HPB.out; simp; omega, hset.ext (Below.drew (Below.refl _ _)), hid (HI.out.step hax), Below.drew (Only.ext_new (g := g) (Only.set_ (Only.set_ (Only.refl _ _) _ _) _ _) hextd hgb)⟩
              case measure => simp [intOf]
          · have hab : decide (x < a) = false := decide_eq_false hax
            have HLAST := hid (ins_last HI.out (by omega))
            go_wp2
            go_quiet (fail)
            go_wp2
            go_roundw
            case rel => exact ⟨k + 1, _, by omega, by go_num, hownr.ext (ext_drewN _ _), by have := HPB.out; have := HQ.out; simp; omega, hid ⟨HI.out.done HLAST.out, HFIN.out _ HI.out.perm⟩, below_drewN hextr _⟩
            case measure => simp [intOf]; omega
    · have hkn : k = n := by omega
      subst hkn
      have hs : L = sortI xs := by
        have := HL.out
        rw [List.take_of_length_le (by rw [HN.out]; exact Nat.le_refl _)] at this
        exact sorted_is this.1 this.2
      have HS := hid hs
      clear hs
      go_wp2
      go_ret
      exact ⟨_, rfl, by rw [← HS.out]; exact hown.fresh, hext⟩
end
end Go.Proofs.Ytmllkniloalgoaa
