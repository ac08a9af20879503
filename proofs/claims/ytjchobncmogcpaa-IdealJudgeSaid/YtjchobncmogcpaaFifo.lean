/- The plain law of IdealFifo: a queue that loses nothing takes just those events in which what is returned is, at any time, a beginning of what was sent. -/
import Derived.Test.YtjchobncmogcpaaIdeal4
import Derived.Test.YtjchobncmogcpaaOfR3
namespace Go.Proofs.Ytjchobncmogcpaa
open Go.RowKit

theorem texts_snoc (l : List Ev) (x : Ev) (kind : Int) : texts (l ++ [x]) kind = texts l kind ++ (if x.kind = kind then [x.data] else []) := by
  unfold texts nums
  rw [numsFrom_snoc, List.map_append]
  have h1 : (numsFrom kind 0 l).map (dataAt (l ++ [x])) = (numsFrom kind 0 l).map (dataAt l) := by
    apply List.map_congr_left
    intro i hi
    obtain ⟨j, rfl, hj⟩ := numsFrom_mem kind l 0 i hi
    simp [dataAt, List.getElem?_append_left hj]
  rw [h1]
  split
  · simp [dataAt]
  · simp
theorem preB_iff {α : Type} [DecidableEq α] (xs ys : List α) : preB xs ys = true ↔ xs.length ≤ ys.length ∧ xs = ys.take xs.length := by simp [preB]
structure FifoAt (s : Iq) (done : List Ev) : Prop where
  lossy : s.lossy = false
  stuck : s.stuck = false
  lost : s.lost = 0
  sent : s.sent = texts done 0
  at_ : s.at_ = [((texts done 2).length : Int)]
  le : (texts done 2).length ≤ (texts done 0).length
  pre : texts done 2 = (texts done 0).take (texts done 2).length
theorem FifoAt.pre' {s : Iq} {done : List Ev} (h : FifoAt s done) : preB (texts done 2) (texts done 0) = true := (preB_iff _ _).2 ⟨h.le, h.pre⟩
theorem fifo_nil : FifoAt (iq0 false) [] := ⟨rfl, rfl, rfl, by simp [iq0, texts, nums, numsFrom], by simp [iq0, texts, nums, numsFrom], by simp [texts, nums, numsFrom], by simp [texts, nums, numsFrom]⟩
theorem fifo_next {s : Iq} {c : Nat} (hl : s.lost = 0) (ha : s.at_ = [(c : Int)]) (m : List UInt8) : ∀ k, nextK s m k = if c < k ∧ s.sent[c]? = some m then [(c : Int) + 1] else []
  | 0 => by simp [nextK]
  | k + 1 => by
    unfold nextK
    rw [fifo_next hl ha m k]
    have hr : reachB s k (leastI s) = decide (k = c) := by
      unfold reachB leastI
      rw [ha, hl]
      apply Bool.eq_iff_iff.2
      simp only [decide_eq_true_iff, List.mem_singleton]
      omega
    rw [hr]
    by_cases hk : k = c
    · subst hk
      by_cases hm : s.sent[k]? = some m
      · rw [if_neg (by omega), if_pos ⟨hm, by simp⟩, if_pos ⟨by omega, hm⟩]; rfl
      · rw [if_neg (by omega), if_neg (fun h => hm h.1), if_neg (fun h => hm h.2)]; rfl
    · have hz : (if s.sent[k]? = some m ∧ decide (k = c) = true then [(k : Int) + 1] else []) = [] := if_neg (fun h => hk (of_decide_eq_true h.2))
      rw [hz, List.append_nil]
      by_cases hm : s.sent[c]? = some m
      · by_cases hc : c < k
        · rw [if_pos ⟨hc, hm⟩, if_pos ⟨by omega, hm⟩]
        · rw [if_neg (fun h => hc h.1), if_neg (fun h => by omega)]
      · rw [if_neg (fun h => hm h.2), if_neg (fun h => hm h.2)]
theorem FifoAt.step {s : Iq} {done : List Ev} (h : FifoAt s done) (e : Ev) :
    if preB (texts (done ++ [e]) 2) (texts (done ++ [e]) 0) = true then (stepS s e.kind e.data).stuck = false ∧ FifoAt (stepS s e.kind e.data) (done ++ [e]) else (stepS s e.kind e.data).stuck = true := by
  have hs : ¬ s.stuck = true := by rw [h.stuck]; simp
  by_cases h0 : e.kind = 0
  · have e2 : texts (done ++ [e]) 2 = texts done 2 := by rw [texts_snoc, if_neg (by omega), List.append_nil]
    have e0 : texts (done ++ [e]) 0 = texts done 0 ++ [e.data] := by rw [texts_snoc, if_pos h0]
    have hst : stepS s e.kind e.data = { s with sent := s.sent ++ [e.data] } := by unfold stepS; rw [if_neg hs, if_pos h0]
    have hle := h.le
    have hp : texts done 2 = (texts done 0 ++ [e.data]).take (texts done 2).length := by rw [List.take_append_of_le_length hle]; exact h.pre
    rw [if_pos (by rw [e2, e0]; exact (preB_iff _ _).2 ⟨by simp; omega, hp⟩), hst]
    exact ⟨h.stuck, h.lossy, h.stuck, h.lost, by rw [e0]; show s.sent ++ _ = _; rw [h.sent], by rw [e2]; exact h.at_, by rw [e2, e0]; simp; omega, by rw [e2, e0]; exact hp⟩
  · by_cases h2 : e.kind = 2
    · have e2 : texts (done ++ [e]) 2 = texts done 2 ++ [e.data] := by rw [texts_snoc, if_pos h2]
      have e0 : texts (done ++ [e]) 0 = texts done 0 := by rw [texts_snoc, if_neg h0, List.append_nil]
      have hst : stepS s e.kind e.data = retS s e.data := by unfold stepS; rw [if_neg hs, if_neg h0, if_pos h2]
      have hnx : nextS s e.data = if (texts done 2).length < s.sent.length ∧ s.sent[(texts done 2).length]? = some e.data then [((texts done 2).length : Int) + 1] else [] := fifo_next h.lost h.at_ e.data _
      have hle := h.le
      by_cases hm : s.sent[(texts done 2).length]? = some e.data
      · have hlt := lt_of_get hm
        rw [if_pos ⟨hlt, hm⟩] at hnx
        rw [h.sent] at hm hlt
        have hp : texts done 2 ++ [e.data] = (texts done 0).take ((texts done 2).length + 1) := by rw [take_succ_of hm, ← h.pre]
        rw [if_pos (by rw [e2, e0]; exact (preB_iff _ _).2 ⟨by simp; omega, by simpa using hp⟩), hst]
        have hsk : (retS s e.data).stuck = false := by unfold retS; rw [hnx]; rfl
        exact ⟨hsk, h.lossy, hsk, h.lost, by rw [e0]; exact h.sent, by rw [e2]; show nextS s e.data = _; rw [hnx]; simp, by rw [e2, e0]; simp; omega, by rw [e2, e0]; simpa using hp⟩
      · rw [if_neg (fun h => hm h.2)] at hnx
        rw [if_neg ?_, hst]
        · unfold retS; rw [hnx]; rfl
        · rw [e2, e0, preB_iff]
          rintro ⟨h1, h3⟩
          apply hm
          rw [h.sent]
          simp only [List.length_append, List.length_singleton] at h1 h3
          have := congrArg (fun l => l[(texts done 2).length]?) h3
          simp only [List.getElem?_append_right (Nat.le_refl _), Nat.sub_self, List.getElem?_cons_zero] at this
          rw [List.getElem?_take, if_pos (by omega)] at this
          exact this.symm
    · have e2 : texts (done ++ [e]) 2 = texts done 2 := by rw [texts_snoc, if_neg h2, List.append_nil]
      have e0 : texts (done ++ [e]) 0 = texts done 0 := by rw [texts_snoc, if_neg h0, List.append_nil]
      have hst : stepS s e.kind e.data = s := by unfold stepS; rw [if_neg hs, if_neg h0, if_neg h2, if_neg (fun hh => by rw [h.lossy] at hh; cases hh.2)]
      rw [if_pos (by rw [e2, e0]; exact h.pre'), hst]
      exact ⟨h.stuck, h.lossy, h.stuck, h.lost, by rw [e0]; exact h.sent, by rw [e2]; exact h.at_, by rw [e2, e0]; exact h.le, by rw [e2, e0]; exact h.pre⟩
theorem fifo_acc : ∀ (rest done : List Ev) (s : Iq) (i : Nat), FifoAt s done → ((accI s rest i).2 = true ↔ ∀ j, j ≤ rest.length → preB (texts (done ++ rest.take j) 2) (texts (done ++ rest.take j) 0) = true)
  | [], done, s, i, h => by
    refine ⟨fun _ j hj => ?_, fun _ => rfl⟩
    have : j = 0 := by simpa using hj
    subst this
    simpa using h.pre'
  | e :: es, done, s, i, h => by
    have hst := h.step e
    have hj1 : ∀ j, done ++ (e :: es).take (j + 1) = (done ++ [e]) ++ es.take j := fun j => by simp
    unfold accI
    by_cases hp : preB (texts (done ++ [e]) 2) (texts (done ++ [e]) 0) = true
    · rw [if_pos hp] at hst
      rw [if_neg (by rw [hst.1]; simp), fifo_acc es (done ++ [e]) _ (i + 1) hst.2]
      constructor
      · intro hh j hj
        cases j with
        | zero => simpa using h.pre'
        | succ j => rw [hj1]; exact hh j (by simpa using hj)
      · intro hh j hj
        rw [← hj1]
        exact hh (j + 1) (by simpa using hj)
    · rw [if_neg hp] at hst
      rw [if_pos hst]
      refine ⟨fun hh => by simp at hh, fun hh => ?_⟩
      have := hh 1 (by simp)
      rw [hj1 0] at this
      simp at this
      exact absurd this hp
theorem fifo_law (evs : List Ev) : (accI (iq0 false) evs 0).2 = true ↔ ∀ j, j ≤ evs.length → preB (texts (evs.take j) 2) (texts (evs.take j) 0) = true := by
  have := fifo_acc evs [] (iq0 false) 0 fifo_nil
  simpa using this
end Go.Proofs.Ytjchobncmogcpaa
