/- The reference's ideal queue in memory; what it reaches. -/
import Derived.Test.YtjchobncmogcpaaIdeal4
namespace Go.Proofs.Ytjchobncmogcpaa
open Go.RowKit

/-- The reference's queue: its block, its rows. -/
structure RqAt (w : World) (gr : Nat) (base : Nat) (s : Iq) : Prop where
  q : gr < base
  sz : base ≤ w.heap.size
  blk : ∃ v u, Blk w gr 121 #[.bool s.lossy, .bool s.stuck, v, .int .i64 s.lost, u] ∧ Own (repSlice repByte) 33 base w v s.sent ∧ IsSlice (repInt .i64) w (fun b => (b ≠ gr ∧ gr ≤ b + 1) ∧ b < w.heap.size ∧ v.ownBlock ≠ some b) u s.at_
theorem rqCells {w : World} {gr : Nat} {s : Iq} {v u : Value} (h : Blk w gr 121 #[.bool s.lossy, .bool s.stuck, v, .int .i64 s.lost, u]) :
    w.cell? ⟨gr, 0, none⟩ = some (.bool s.lossy) ∧ w.cell? ⟨gr, 1, none⟩ = some (.bool s.stuck) ∧ w.cell? ⟨gr, 2, none⟩ = some v ∧ w.cell? ⟨gr, 3, none⟩ = some (.int .i64 s.lost) ∧ w.cell? ⟨gr, 4, none⟩ = some u :=
  ⟨h.cell 0, h.cell 1, h.cell 2, h.cell 3, h.cell 4⟩
theorem RqAt.ext {w w' : World} {gr base : Nat} {s : Iq} (h : RqAt w gr base s) (he : Ext w w') : RqAt w' gr base s := by
  obtain ⟨h1, h2, v, u, h3, h4, h5⟩ := h
  exact ⟨h1, Nat.le_trans h2 he.size, v, u, h3.ext he, h4.ext he, h5.keep fun b hb => ⟨⟨hb.1, Nat.lt_of_lt_of_le hb.2.1 he.size, hb.2.2⟩, fun _ => he.cell hb.2.1 _⟩⟩
/-- What the reference reaches: the same, of the places that there are. -/
def reachR (ks : List Int) (p lost : Int) : Bool := ks.any fun q => decide (q = p ∨ (q < p ∧ p ≤ lost))
theorem reachR_is {s : Iq} (hs : s.Ok) {p : Int} (hp : p < s.sent.length) : reachR s.at_ p s.lost = reachB s p (leastI s) := by
  unfold reachR reachB leastI
  apply Bool.eq_iff_iff.2
  rw [List.any_eq_true, decide_eq_true_iff]
  have ha := hs.asc
  revert ha
  cases s.at_ with
  | nil =>
    intro _
    constructor
    · rintro ⟨q, hq, _⟩; cases hq
    · rintro (h | h)
      · cases h
      · simp only at h; omega
  | cons a l =>
    intro ha
    rw [List.pairwise_cons] at ha
    constructor
    · rintro ⟨q, hq, hd⟩
      rw [decide_eq_true_iff] at hd
      rcases hd with rfl | hd
      · exact .inl hq
      · right
        rcases List.mem_cons.1 hq with rfl | hq
        · exact hd
        · have := ha.1 q hq
          exact ⟨by show a < p; omega, hd.2⟩
    · rintro (h | h)
      · exact ⟨p, h, by simp⟩
      · exact ⟨a, by simp, by rw [decide_eq_true_iff]; exact .inr h⟩

set_option maxRecDepth 100000
section
theorem reaches_any (w : World) (gr base : Nat) (s : Iq) (h : RqAt w gr base s) (p : Int) :
    Calls Try.prog 113 #[.pointer (some ⟨gr, 0, none⟩), .int .i64 p] w fun e w' => e = .returned (.bool (reachR s.at_ p s.lost)) ∧ w = w' := by
  obtain ⟨_, _, v, u, hb, hown, hu⟩ := h
  obtain ⟨_, _, _, c3, c4⟩ := rqCells hb
  obtain ⟨A, n, c, rfl, hnc, hcm, hrow⟩ := hu
  have hn := hrow.1
  have HN := hid hn
  have hmax : n ≤ 9223372036854775807 := by unfold maxLen at hcm; omega
  obtain ⟨R, hR⟩ : ∃ R, R = reachR s.at_ p s.lost := ⟨_, rfl⟩
  rw [← hR]
  have HR := hid hR
  clear hn hR hown hb
  go_enter Try.func113, Try.ntmps113
  go_wp2
  go_loop [5] (fun i => ∃ k : Nat, k ≤ n ∧ i = .int .i64 k ∧ reachR (s.at_.drop k) p s.lost = R) (fun i => n - (intOf i).toNat)
  case atStart => exact ⟨0, Nat.zero_le _, rfl, by rw [HR.out]; rfl⟩
  case round =>
    obtain ⟨k, hk, rfl, hdr⟩ := hrel
    by_cases hlt : k < n
    · obtain ⟨b, off, y, rfl, _, hy, hcy, _⟩ := hrow.int hlt
      have hdx : s.at_.drop k = y :: s.at_.drop (k + 1) := by rw [List.drop_eq_getElem_cons (by rw [HN.out]; exact hlt)]; congr 1; exact (List.getElem?_eq_some_iff.1 hy).2
      rw [hdx] at hdr
      have hrc : (decide (y = p ∨ (y < p ∧ p ≤ s.lost)) || reachR (s.at_.drop (k + 1)) p s.lost) = R := hdr
      have HRC := hid hrc
      clear hdr hrc hdx hy
      by_cases h1 : y = p
      · have hR1 : R = true := by rw [← HRC.out, decide_eq_true (.inl h1)]; rfl
        have HR1 := hid hR1
        have h1B : (y == p) = true := by simpa using h1
        clear hR1
        subst h1
        go_wp2
        go_ret
        exact ⟨ret_bool HR1.out.symm, rfl⟩
      · have h1B : (y == p) = false := by simpa using h1
        by_cases h2 : y < p
        · by_cases h3 : p ≤ s.lost
          · have hR1 : R = true := by rw [← HRC.out, decide_eq_true (.inr ⟨h2, h3⟩)]; rfl
            have HR1 := hid hR1
            clear hR1 h1
            go_wp2
            go_ret
            exact ⟨ret_bool HR1.out.symm, rfl⟩
          · have hz : decide (y = p ∨ (y < p ∧ p ≤ s.lost)) = false := decide_eq_false (fun h => by omega)
            have hr2 := HRC.out
            rw [hz, Bool.false_or] at hr2
            have HR2 := hid hr2
            clear hr2 hz h1
            go_wp2
            go_round
            case rel => exact ⟨k + 1, by omega, by go_num, HR2.out⟩
            case measure => simp [intOf]; omega
        · have hz : decide (y = p ∨ (y < p ∧ p ≤ s.lost)) = false := decide_eq_false (fun h => by omega)
          have hr2 := HRC.out
          rw [hz, Bool.false_or] at hr2
          have HR2 := hid hr2
          clear hr2 hz h1
          go_wp2
          go_round
          case rel => exact ⟨k + 1, by omega, by go_num, HR2.out⟩
          case measure => simp [intOf]; omega
    · obtain rfl : k = n := by omega
      have hdn : s.at_.drop k = [] := List.drop_of_length_le (by rw [HN.out]; exact Nat.le_refl _)
      rw [hdn] at hdr
      have hR1 : R = false := by rw [← hdr]; rfl
      have HR1 := hid hR1
      clear hR1 hdr hdn
      go_wp2
      go_ret
      exact ⟨ret_bool HR1.out.symm, rfl⟩
end
end Go.Proofs.Ytjchobncmogcpaa
