/- What spans are, in plain words; a store into a row of spans. -/
import Derived.Test.YtmllkniloalgoaaPlacesAre
import Derived.Test.YtmllkniloalgoaaSpanRanks
namespace Go.Proofs.Ytmllkniloalgoaa
open Go.RowKit

theorem take4 {ys : List Value} {a : Nat} {c0 c1 c2 c3 : Value} : (ys.drop a).take 4 = [c0, c1, c2, c3] ↔ ys[a]? = some c0 ∧ ys[a + 1]? = some c1 ∧ ys[a + 2]? = some c2 ∧ ys[a + 3]? = some c3 := by
  have hq : ∀ q, q < 4 → ((ys.drop a).take 4)[q]? = ys[a + q]? := fun q hq => by rw [List.getElem?_take_of_lt hq, List.getElem?_drop]
  constructor
  · intro h
    rw [h] at hq
    exact ⟨(hq 0 (by omega)).symm, (hq 1 (by omega)).symm, (hq 2 (by omega)).symm, (hq 3 (by omega)).symm⟩
  · rintro ⟨h0, h1, h2, h3⟩
    refine List.ext_getElem? fun q => ?_
    rcases Nat.lt_or_ge q 4 with hlt | hge
    · rw [hq q hlt]
      match q, hlt with
      | 0, _ => exact h0
      | 1, _ => exact h1
      | 2, _ => exact h2
      | 3, _ => exact h3
    · rw [List.getElem?_eq_none (by simp; omega), List.getElem?_eq_none (by simp; omega)]
theorem flat_sp : Flat repSp := fun _ _ _ _ _ _ h => h
theorem Own.keepFlat {α : Type} {r : Rep α} (hf : Flat r) {e base} {w w' : World} {v} {xs : List α} (h : Own r e base w v xs) {row : Option Nat} (hg : w.grownBy w' row) (hne : v.ownBlock = none ∨ v.ownBlock ≠ row) : Own r e base w' v xs := by
  obtain ⟨ys, h1, h2⟩ := h
  exact ⟨ys, h1.kept hg hne, fun j hj => hf _ _ _ _ _ _ (h2 j hj)⟩
/-- A store of when it was returned. -/
theorem Own.setRet {e : TypeId} {base : Nat} {w : World} {g n c : Nat} {xs : List Sp} (h : Own repSp e base w (.slice (some ⟨g, 0, none⟩) n c) xs) {i : Nat} {x : Sp} (hx : xs[i]? = some x) (r : Int) :
    Own repSp e base (w.setCell ⟨g, i * 4 + 2, none⟩ (.int .i64 r)) (.slice (some ⟨g, 0, none⟩) n c) (xs.set i ⟨x.place, x.sent, r, x.told⟩) := by
  obtain ⟨ys, ⟨hl, hcase⟩, h2⟩ := h
  have hi := lt_of_get hx
  have h2' : ∀ (j : Nat) (y : Sp), xs[j]? = some y → ys[j * 4]? = some (.int .i64 y.place) ∧ ys[j * 4 + 1]? = some (.int .i64 y.sent) ∧ ys[j * 4 + 2]? = some (.int .i64 y.ret) ∧ ys[j * 4 + 3]? = some (.int .i64 y.told) := by
    intro j y hy
    have hj := lt_of_get hy
    have he : xs[j] = y := by rw [List.getElem?_eq_getElem hj] at hy; injection hy
    have : (ys.drop (j * 4)).take 4 = [.int .i64 xs[j].place, .int .i64 xs[j].sent, .int .i64 xs[j].ret, .int .i64 xs[j].told] := h2 j hj
    rw [he] at this
    exact take4.1 this
  rcases hcase with ⟨hv, _⟩ | ⟨g', cap, cur, hv, hg, hh, hnc, hm, hcs, hcur⟩
  · cases hv
  · injection hv with e1 e2 e3
    injection e1 with e1
    injection e1 with e1 _ _
    subst e1 e2 e3
    refine ⟨ys.set (i * 4 + 2) (.int .i64 r), ⟨by simpa using hl, .inr ⟨g, c, cur.setIfInBounds (i * 4 + 2) (.int .i64 r), by simp, hg, Blk.set_ hh _ _, by simpa using hnc, hm, by simpa using hcs, ?_⟩⟩, fun j hj => ?_⟩
    · rw [Array.toList_setIfInBounds, List.length_set, List.take_set, hcur]
    · have hj' : j < xs.length := by simpa using hj
      show ((ys.set (i * 4 + 2) (.int .i64 r)).drop (j * 4)).take 4 = _
      refine take4.2 ?_
      have hy : xs[j]? = some xs[j] := List.getElem?_eq_getElem hj'
      obtain ⟨q0, q1, q2, q3⟩ := h2' j _ hy
      have hyl : ys.length = xs.length * 4 := by simpa [repSp] using hl
      by_cases hij : i = j
      · subst hij
        have he : xs[i] = x := by rw [hy] at hx; injection hx
        rw [List.getElem_set_self]
        rw [he] at q0 q1 q3
        refine ⟨?_, ?_, ?_, ?_⟩
        · rw [List.getElem?_set_ne (by omega)]; exact q0
        · rw [List.getElem?_set_ne (by omega)]; exact q1
        · rw [List.getElem?_set_self (by omega)]
        · rw [List.getElem?_set_ne (by omega)]; exact q3
      · rw [List.getElem_set_ne hij]
        refine ⟨?_, ?_, ?_, ?_⟩
        · rw [List.getElem?_set_ne (by omega)]; exact q0
        · rw [List.getElem?_set_ne (by omega)]; exact q1
        · rw [List.getElem?_set_ne (by omega)]; exact q2
        · rw [List.getElem?_set_ne (by omega)]; exact q3
theorem Own.spBlock {e : TypeId} {base : Nat} {w : World} {v : Value} {xs : List Sp} (h : Own repSp e base w v xs) (hne : 0 < xs.length) : ∃ g c, v = .slice (some ⟨g, 0, none⟩) xs.length c ∧ base ≤ g ∧ xs.length ≤ c ∧ c ≤ maxLen ∧ ∃ cur, Blk w g e cur ∧ cur.size = c * 4 := by
  obtain ⟨ys, ⟨hl, hcase⟩, h2⟩ := h
  rcases hcase with ⟨hv, hz⟩ | ⟨g', cap, cur, hv, hg, hh, hnc, hm, hcs, hcur⟩
  · omega
  · exact ⟨g', cap, hv, hg, hnc, hm, cur, hh, hcs⟩

def retTo (Z : List (Int × Int)) (k i : Nat) : Int := (Z.take k).foldl (fun r q => if q.1 = (i : Int) then q.2 else r) (-1)
theorem retTo_step {Z : List (Int × Int)} {k : Nat} {q : Int × Int} (h : Z[k]? = some q) (i : Nat) : retTo Z (k + 1) i = if q.1 = (i : Int) then q.2 else retTo Z k i := by
  unfold retTo
  rw [take_succ_of h, List.foldl_append]
  rfl
def plOf (l : List Ev) : List Int := placesV (texts l 2) (texts l 0)
def zipOf (l : List Ev) : List (Int × Int) := (plOf l).zip (stepsOf l 2)
/-- The span of a place, behind k of what was returned. -/
def spTo (l : List Ev) (k i : Nat) : Sp := ⟨i, ((stepsOf l 0)[i]?).getD 0, retTo (zipOf l) k i, (toldF l i).getD (-1)⟩
def spansTo (l : List Ev) (k n : Nat) : List Sp := (List.range n).map (spTo l k)
theorem spansTo_succ (l : List Ev) (k n : Nat) : spansTo l k (n + 1) = spansTo l k n ++ [spTo l k n] := by simp [spansTo, List.range_succ]
theorem spansTo_len (l : List Ev) (k n : Nat) : (spansTo l k n).length = n := by simp [spansTo]
theorem spansTo_get {l : List Ev} {k n i : Nat} (h : i < n) : (spansTo l k n)[i]? = some (spTo l k i) := by
  unfold spansTo
  rw [List.getElem?_map, List.getElem?_range h]
  rfl
def spansOf (l : List Ev) : List Sp := spansTo l (plOf l).length (nums l 0).length
theorem steps_len (l : List Ev) (kind : Int) : (stepsOf l kind).length = (nums l kind).length := by rw [stepsOf_nums, List.length_map]
/-- What a round of places finds. -/
theorem pl_at {l : List Ev} {k : Nat} (hk : k < (plOf l).length) : ∃ (a : Nat) (d : Int), (plOf l)[k]? = some (a : Int) ∧ a < (nums l 0).length ∧ k < (nums l 2).length ∧ (stepsOf l 2)[k]? = some d ∧ (zipOf l)[k]? = some ((a : Int), d) := by
  unfold zipOf
  unfold plOf placesV at *
  cases hr : placesOf (texts l 2) (texts l 0) with
  | none => rw [hr] at hk; simp at hk
  | some p =>
    rw [hr] at hk
    simp only [Option.getD_some] at hk ⊢
    have hA := places_are hr
    obtain ⟨m, h1, _, h3, _⟩ := hA.at_ k _ (List.getElem?_eq_getElem hk)
    rw [texts_len] at h3
    have h5 := hA.len
    rw [texts_len] at h5
    have h6 : k < (stepsOf l 2).length := by rw [steps_len]; omega
    refine ⟨m, (stepsOf l 2)[k], by rw [List.getElem?_eq_getElem hk, h1], h3, by omega, List.getElem?_eq_getElem h6, ?_⟩
    rw [List.getElem?_zip_eq_some]
    exact ⟨by rw [List.getElem?_eq_getElem hk, h1], List.getElem?_eq_getElem h6⟩
theorem spansTo_set {l : List Ev} {k n a : Nat} {d : Int} (hz : (zipOf l)[k]? = some ((a : Int), d)) (ha : a < n) : (spansTo l k n).set a ⟨(spTo l k a).place, (spTo l k a).sent, d, (spTo l k a).told⟩ = spansTo l (k + 1) n := by
  refine List.ext_getElem? fun j => ?_
  rcases Nat.lt_or_ge j n with hj | hj
  · rw [spansTo_get hj]
    by_cases hja : a = j
    · subst hja
      rw [List.getElem?_set_self (by rw [spansTo_len]; exact hj)]
      unfold spTo
      rw [retTo_step hz, if_pos rfl]
    · rw [List.getElem?_set_ne hja, spansTo_get hj]
      unfold spTo
      rw [retTo_step hz, if_neg (by intro e; exact hja (by have e : (a : Int) = (j : Int) := e; omega))]
  · rw [List.getElem?_eq_none (by rw [List.length_set, spansTo_len]; exact hj), List.getElem?_eq_none (by rw [spansTo_len]; exact hj)]
end Go.Proofs.Ytmllkniloalgoaa
