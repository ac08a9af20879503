/- The walk of judge.Places: where texts stand in others. -/
import Derived.Test.YtjchobncmogcpaaOf
namespace Go.Proofs.Ytjchobncmogcpaa
open Go.RowKit

section
variable {α : Type} [DecidableEq α]
/-- Where the first one is; -1: none is. -/
def ix (x : α) : List α → Int
  | [] => -1
  | y :: l => if y = x then 0 else if ix x l < 0 then -1 else ix x l + 1
theorem ix_none {x : α} : ∀ {l : List α}, (∀ j : Nat, l[j]? ≠ some x) → ix x l = -1
  | [], _ => rfl
  | y :: l, h => by
    have h0 : y ≠ x := fun e => h 0 (by simp [e])
    have h1 : ix x l = -1 := ix_none fun j hj => h (j + 1) (by simpa using hj)
    simp [ix, h0, h1]
theorem ix_at {x : α} : ∀ {l : List α} {k : Nat}, l[k]? = some x → (∀ j : Nat, j < k → l[j]? ≠ some x) → ix x l = k
  | [], k, h, _ => by simp at h
  | y :: l, 0, h, _ => by simp at h; simp [ix, h]
  | y :: l, k + 1, h, hb => by
    have h0 : y ≠ x := fun e => hb 0 (by omega) (by simp [e])
    have h1 : ix x l = k := ix_at (by simpa using h) fun j hj hx => hb (j + 1) (by omega) (by simpa using hx)
    simp only [ix, h0, if_false, h1]
    rw [if_neg (by omega)]
    omega
theorem ix_bd (x : α) : ∀ (l : List α), -1 ≤ ix x l ∧ ix x l < l.length
  | [] => by simp [ix]
  | y :: l => by
    have := ix_bd x l
    simp only [ix, List.length_cons]
    split
    · omega
    · split <;> omega
/-- The places, behind those of 'acc', from place 'at' on. -/
def pl : List α → List α → Nat → List Int → Option (List Int)
  | [], _, _, acc => some acc
  | x :: a, b, k, acc => if ix x (b.drop k) < 0 then none else pl a b (k + (ix x (b.drop k)).toNat + 1) (acc ++ [(k : Int) + ix x (b.drop k)])
theorem drop_cons {β : Type} {l : List β} {k : Nat} {x : β} (h : l[k]? = some x) : l.drop k = x :: l.drop (k + 1) := by
  have hk := lt_of_get h
  rw [List.drop_eq_getElem_cons hk]
  have := (List.getElem?_eq_some_iff.1 h).2
  rw [this]
theorem pl_neg {xs ys : List α} {k a : Nat} {acc : List Int} {x : α} (h : xs[k]? = some x) (hi : ix x (ys.drop a) < 0) : pl (xs.drop k) ys a acc = none := by
  rw [drop_cons h, pl, if_pos hi]
theorem pl_pos {xs ys : List α} {k a : Nat} {acc : List Int} {x : α} (h : xs[k]? = some x) (hi : ¬ ix x (ys.drop a) < 0) : pl (xs.drop k) ys a acc = pl (xs.drop (k + 1)) ys (a + (ix x (ys.drop a)).toNat + 1) (acc ++ [(a : Int) + ix x (ys.drop a)]) := by
  conv => lhs; rw [drop_cons h, pl, if_neg hi]
theorem pl_end {xs ys : List α} {k a : Nat} {acc : List Int} (h : xs.length ≤ k) : pl (xs.drop k) ys a acc = some acc := by
  rw [List.drop_of_length_le h, pl]
def placesOf (a b : List α) : Option (List Int) := pl a b 0 []
end

set_option maxRecDepth 100000
section
theorem placesFn_any (u v : Value) (xs ys : List UInt8) (g : Nat) (w : World) (hc : w.cell? ⟨g, 0, none⟩ = some u) (h : IsSlice repByte w (all w) u xs) (h' : IsSlice repByte w (all w) v ys) :
    Calls Try.prog 169 #[v, .pointer (some ⟨g, 0, none⟩)] w fun e w' => e = .returned (.bool (decide (xs = ys))) ∧ w = w' := by
  go_enter Try.func169, Try.ntmps169
  go_wp2_with (go_at_call 135; refine (same_any _ _ _ _ _ h h').mono ?_; rintro e w' ⟨rfl, rfl⟩)
  go_ret
  exact ⟨rfl, rfl⟩

set_option maxHeartbeats 400000 in
theorem indexFn_any (u v : Value) (x : List UInt8) (ys : List (List UInt8)) (g : Nat) (w : World) (hc : w.cell? ⟨g, 0, none⟩ = some u) (h : IsSlice repByte w (all w) u x) (h' : IsSlice (repSlice repByte) w (all w) v ys) :
    Calls Try.prog 168 #[v, .func (.func 169) #[] #[.pointer (some ⟨g, 0, none⟩)]] w fun e w' => e = .returned (.int .i64 (ix x ys)) ∧ w = w' := by
  obtain ⟨A, n, c, rfl, hnc, hcm, hrow⟩ := h'
  have hn := hrow.1
  have hmax : n ≤ 9223372036854775807 := by unfold maxLen at hcm; omega
  have HN := hid hn
  clear hn
  go_enter Try.func168, Try.ntmps168
  go_wp2
  go_loop [8] (fun i => ∃ k : Nat, k ≤ n ∧ i = .int .i64 k ∧ ∀ j, j < k → ys[j]? ≠ some x) (fun i => n - (intOf i).toNat)
  case atStart => exact ⟨0, Nat.zero_le _, rfl, fun j hj => absurd hj (by omega)⟩
  case round =>
    obtain ⟨k, hk, rfl, hne⟩ := hrel
    have HNE := hid hne
    clear hne
    by_cases hlt : k < n
    · obtain ⟨b, off, A1, m1, c1, y, rfl, hy, hs1, hm1, hcy⟩ := hrow.sliceE (Below.refl _ _) hlt
      have HY := hid hy
      clear hy hm1
      have hf := placesFn_any _ _ _ _ _ w hc h hs1
      by_cases hxy : x = y
      · rw [decide_eq_true hxy] at hf
        have HF := hid hf
        clear hf
        go_wp2_with (go_at_call 169; refine HF.out.mono ?_; rintro e w' ⟨rfl, rfl⟩)
        go_ret
        exact ⟨ret_int (ix_at (by rw [HY.out, hxy]) HNE.out).symm, rfl⟩
      · rw [decide_eq_false hxy] at hf
        have HF := hid hf
        clear hf
        go_wp2_with (go_at_call 169; refine HF.out.mono ?_; rintro e w' ⟨rfl, rfl⟩)
        go_round
        case rel =>
          refine ⟨k + 1, by omega, by go_num, fun j hj => ?_⟩
          rcases Nat.lt_or_ge j k with h1 | h1
          · exact HNE.out j h1
          · obtain rfl : j = k := by omega
            rw [HY.out]
            intro e
            injection e with e
            exact hxy e.symm
        case measure => simp [intOf]; omega
    · go_wp2
      go_ret
      refine ⟨ret_int (ix_none fun j hj => ?_).symm, rfl⟩
      have := lt_of_get hj
      exact HNE.out j (by have := HN.out; omega) hj

def placesV (a b : List (List UInt8)) : List Int := (placesOf a b).getD []
def SomePlaces (w : World) (xs ys : List (List UInt8)) (e : Ending) (w' : World) : Prop :=
  ∃ u, e = .returned (.tuple #[u, .bool (placesOf xs ys).isSome]) ∧ IsSlice (repInt .i64) w' (fresh w w') u (placesV xs ys) ∧ Ext w w'
theorem ret_2b {a : Value} {x y : Bool} (h : x = y) : Ending.returned (.tuple #[a, .bool x]) = .returned (.tuple #[a, .bool y]) := by rw [h]

set_option maxHeartbeats 800000 in
theorem places_any (u v : Value) (xs ys : List (List UInt8)) (w : World) (h : IsSlice (repSlice repByte) w (all w) u xs) (h' : IsSlice (repSlice repByte) w (all w) v ys) (hl : xs.length ≤ 1000) (hl' : ys.length ≤ 1000) :
    Calls Try.prog 147 #[u, v] w (SomePlaces w xs ys) := by
  obtain ⟨A, n, c, rfl, hnc, hcm, hrow⟩ := h
  obtain ⟨B, m, d, rfl, hmd, hdm, hrow'⟩ := h'
  have hs' : IsSlice (repSlice repByte) w (all w) (.slice B m d) ys := ⟨_, _, _, rfl, hmd, hdm, hrow'⟩
  have hn := hrow.1
  have hm := hrow'.1
  have hnb : n ≤ 1000 := by omega
  have hmb : m ≤ 1000 := by omega
  have hdx : d ≤ 9223372036854775807 := by unfold maxLen at hdm; omega
  have HN := hid hn
  have HM := hid hm
  clear hn hm hrow'
  go_enter Try.func147, Try.ntmps147
  go_wp2
  go_loopw [6, 7, 13] (fun o p i wr => ∃ (k a : Nat) (acc : List Int), k ≤ n ∧ i = .int .i64 k ∧ p = .int .i64 a ∧ a ≤ m ∧ acc.length = k ∧ Own (repInt .i64) 3 w.heap.size wr o acc ∧ pl (xs.drop k) ys a acc = placesOf xs ys ∧ Ext w wr) (fun _ _ i _ => n - (intOf i).toNat)
  case atStart => exact ⟨0, 0, [], Nat.zero_le _, rfl, rfl, Nat.zero_le _, rfl, own_nil _ _ _ _, rfl, Below.refl _ _⟩
  case round =>
    obtain ⟨k, a, acc, hk, rfl, rfl, ha, hacc, hown, hpl, hext⟩ := hrel
    have hal : acc.length ≤ 1000 := by omega
    have HP := hid hpl
    have HA := hid hacc
    clear hpl hacc
    by_cases hlt : k < n
    · obtain ⟨b, off, A1, m1, c1, x, rfl, hx, hs1, hm1, hcx⟩ := hrow.sliceE hext hlt
      have HX := hid hx
      clear hx hm1
      have hb := ix_bd x (ys.drop a)
      rw [List.length_drop, HM.out] at hb
      obtain ⟨B', hrun, hcut⟩ := cut_from Try.underlying25 info_bytes hs' ha
      have hcell : (wr.alloc (.cells #[.slice A1 m1 c1] 33)).cell? ⟨wr.heap.size, 0, none⟩ = some (.slice A1 m1 c1) := box_cell _ _ _ 0
      have he1 : Ext w (wr.alloc (.cells #[.slice A1 m1 c1] 33)) := Ext.trans hext (ext_alloc _ _)
      have hf := indexFn_any _ _ _ _ _ _ hcell (hs1.ext he1) (hcut.ext he1)
      generalize hi : ix x (ys.drop a) = i at *
      have HF := hid hf
      have HI := hid hi
      clear hf hi hcell
      by_cases hneg : i < 0
      · go_wp2_with (go_at_call 168; refine HF.out.mono ?_; rintro e w' ⟨rfl, rfl⟩)
        go_ret2
        have hp : placesOf xs ys = none := by rw [← HP.out]; exact pl_neg HX.out (by rw [HI.out]; exact hneg)
        exact ⟨_, ret_2b (by rw [hp]; rfl), by unfold placesV; rw [hp]; exact isSlice_nil _ _ _, he1⟩
      · go_wp2_with (first | (go_at_call 168; refine HF.out.mono ?_; rintro e w' ⟨rfl, rfl⟩) | (at_builtin; refine wpl_app1 (r := repInt .i64) (x := (a : Int) + i) _ _ rfl rfl Try.underlying26 info_int (by decide) (hown.ext (ext_alloc _ _)) rfl rfl (by simp) ⟨rfl, WalkArith.wf_i64 (by omega)⟩ (by omega) (by simp only [maxLen]; omega) he1.size ?_; intro v' w1 hown1 hg1))
        go_roundw
        case rel =>
          refine ⟨k + 1, a + i.toNat + 1, acc ++ [(a : Int) + i], by omega, by go_num, ?_, by omega, by simp [HA.out], hown1, ?_, Below.grown he1 hg1 he1.size (fun j hj => (hown.lt j hj).1)⟩
          · congr 1; omega
          · rw [← HP.out, pl_pos HX.out (by rw [HI.out]; omega), HI.out]
        case measure => simp [intOf]; omega
    · go_wp2
      go_ret2
      have hp : placesOf xs ys = some acc := by rw [← HP.out]; exact pl_end (by rw [HN.out]; omega)
      exact ⟨_, ret_2b (by rw [hp]; rfl), by unfold placesV; rw [hp]; exact hown.fresh, hext⟩
end
end Go.Proofs.Ytjchobncmogcpaa
