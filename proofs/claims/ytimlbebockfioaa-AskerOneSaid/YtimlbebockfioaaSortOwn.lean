/- The library's sort of numbers over a row of the call's own; the ascending list of some numbers is one. -/
import Derived.Test.YtimlbebockfioaaSortR3
import Derived.Test.YtimlbebockfioaaKit
import Derived.Test.YtimlbebockfioaaObj
namespace Go.Proofs.Ytimlbebockfioaa
open Go.RowKit Go.Sort

def sortI (zs : List Int) : List Int := zs.mergeSort fun x y => decide (x ≤ y)
theorem sortI_len (zs : List Int) : (sortI zs).length = zs.length := List.length_mergeSort zs
theorem sortI_mem {zs : List Int} {x : Int} : x ∈ sortI zs ↔ x ∈ zs := List.mem_mergeSort
theorem sortI_perm (zs : List Int) : (sortI zs).Perm zs := List.mergeSort_perm zs _
theorem sortI_sorted (zs : List Int) : (sortI zs).Pairwise fun x y => x ≤ y := by
  have h := List.pairwise_mergeSort (le := fun (x y : Int) => decide (x ≤ y)) (fun a b c h1 h2 => by simp at *; omega) (fun a b => by simp; omega) zs
  exact h.imp fun h => by simpa using h
/-- Two ascending lists of the same numbers, each once, are one. -/
theorem asc_unique : ∀ {xs ys : List Int}, xs.Pairwise (fun x y => x < y) → ys.Pairwise (fun x y => x < y) → (∀ k, k ∈ xs ↔ k ∈ ys) → xs = ys
  | [], [], _, _, _ => rfl
  | [], y :: ys, _, _, h => absurd ((h y).2 (by simp)) (by simp)
  | x :: xs, [], _, _, h => absurd ((h x).1 (by simp)) (by simp)
  | x :: xs, y :: ys, h1, h2, h => by
    rw [List.pairwise_cons] at h1 h2
    have hxy : x = y := by
      have a := (h x).1 (by simp)
      have b := (h y).2 (by simp)
      rcases List.mem_cons.1 a with a | a
      · exact a
      · rcases List.mem_cons.1 b with b | b
        · exact b.symm
        · have := h1.1 _ b
          have := h2.1 _ a
          omega
    subst hxy
    rw [asc_unique h1.2 h2.2 fun k => ?_]
    constructor
    · intro hk
      rcases List.mem_cons.1 ((h k).1 (List.mem_cons_of_mem _ hk)) with e | e
      · have := h1.1 _ hk; omega
      · exact e
    · intro hk
      rcases List.mem_cons.1 ((h k).2 (List.mem_cons_of_mem _ hk)) with e | e
      · have := h2.1 _ hk; omega
      · exact e
theorem sortI_asc {zs : List Int} (hn : zs.Nodup) : (sortI zs).Pairwise fun x y => x < y := by
  have h1 := sortI_sorted zs
  have h2 : (sortI zs).Nodup := (sortI_perm zs).nodup_iff.2 hn
  exact (h1.and h2).imp fun ⟨a, b⟩ => by omega
theorem sortI_is {zs ys : List Int} (hn : zs.Nodup) (ha : ys.Pairwise fun x y => x < y) (h : ∀ k, k ∈ zs ↔ k ∈ ys) : sortI zs = ys :=
  asc_unique (sortI_asc hn) ha fun k => sortI_mem.trans (h k)

theorem Own.ints {base : Nat} {w : World} {v : Value} {xs : List Int} (h : Own (repInt .i64) 3 base w v xs) :
    ∃ ys, w.ownsRow base 3 1 v xs.length ys ∧ ys = xs.map (Value.int .i64) ∧ ∀ x ∈ xs, (Lit.int .i64 x).wf = true := by
  obtain ⟨ys, h1, h2⟩ := h
  have hl : ys.length = xs.length := by have := h1.1; simpa [repInt] using this
  refine ⟨ys, h1, ?_, fun x hx => ?_⟩
  · apply List.ext_getElem
    · simpa using hl
    · intro j hj hj'
      have hjx : j < xs.length := by simpa using hj'
      have := (h2 j hjx).1
      have e : (ys.drop (j * (repInt .i64).size)).take (repInt .i64).size = [ys[j]] := by
        show (ys.drop (j * 1)).take 1 = [ys[j]]
        rw [Nat.mul_one, List.drop_eq_getElem_cons hj]
        rfl
      rw [e] at this
      simpa using this
  · obtain ⟨j, hj, rfl⟩ := List.getElem_of_mem hx
    exact (h2 j hj).2

set_option maxRecDepth 100000
section
theorem sortOwn_any (w : World) (base : Nat) (v : Value) (zs : List Int) (h : Own (repInt .i64) 3 base w v zs) (hl : zs.length ≤ 100000) :
    Calls Try.prog 68 #[v] w fun e w' => e = .returned (.tuple #[]) ∧ Own (repInt .i64) 3 base w' v (sortI zs) ∧ w.grownBy w' v.ownBlock := by
  obtain ⟨ys, h1, hys, hwf⟩ := h.ints
  subst hys
  rcases h1.2 with ⟨rfl, hn⟩ | ⟨g, cap, cur, rfl, hg, hh, hnc, hmx, hcs, ht⟩
  · have hz : zs = [] := List.eq_nil_of_length_eq_zero hn
    subst hz
    refine (Go.Proofs.Try.slices_Sort_int_none none 0 w).mono ?_
    rintro e w' ⟨rfl, rfl⟩
    exact ⟨rfl, by simpa [sortI] using h, World.grownBy.refl _ _⟩
  · have hlt : g < w.heap.size := by
      rcases Nat.lt_or_ge g w.heap.size with h | h
      · exact h
      · rw [Array.getElem?_eq_none h] at hh; cases hh
    rw [Nat.mul_one] at ht
    have hcur : ∀ j (hj : j < zs.length), cur[j]? = some (.int .i64 zs[j]) := fun j hj => by
      have e1 : cur.toList[j]? = (cur.toList.take zs.length)[j]? := by rw [List.getElem?_take, if_pos hj]
      rw [← Array.getElem?_toList, e1, ht, List.getElem?_map, List.getElem?_eq_getElem hj]
      rfl
    refine (Go.Proofs.Try.slices_Sort_int g 0 cap zs w (fun j hj => ?_) hlt (by omega)).mono ?_
    · have hj' : j < zs.length := by simpa using hj
      refine ⟨?_, by simp [World.frozen?, hh]⟩
      rw [cell_of_row w g (0 + j) cur 3 (0, 0) hh, Nat.zero_add, hcur j hj']
      simp [getElem!_pos, hj']
    · rintro e w' ⟨rfl, n, os, rfl⟩
      have hs : ∀ k, k < w.heap.size → k < (putRow (Value.int .i64) (Sort.ahead w n) g 0 (zs.mergeSort fun x y => decide (x ≤ y)).toArray).heap.size := fun k hk => by
        show k < (w.heap.modify g _).size
        simpa using hk
      have hgrow : w.grownBy (grow (putRow (Value.int .i64) (Sort.ahead w n) g 0 (zs.mergeSort fun x y => decide (x ≤ y)).toArray) os) (some g) := by
        refine ⟨rfl, rfl, rfl, ?_, fun k hk hne => ?_⟩
        · show w.heap.size ≤ (_ ++ os).size
          rw [Array.size_append]
          have : (w.heap.modify g (onCells (putCells (Value.int .i64) 0 (zs.mergeSort fun x y => decide (x ≤ y)).toArray))).size = w.heap.size := by simp
          show w.heap.size ≤ (w.heap.modify g _).size + os.size
          omega
        · have hkg : g ≠ k := fun e => hne (by rw [e])
          show (_ ++ os)[k]? = _
          rw [Array.getElem?_append_left (hs k hk)]
          show ((w.heap.modify g _))[k]? = _
          rw [Array.getElem?_modify, if_neg hkg]
      refine ⟨rfl, ?_, hgrow⟩
      have hblk : (grow (putRow (Value.int .i64) (Sort.ahead w n) g 0 (zs.mergeSort fun x y => decide (x ≤ y)).toArray) os).heap[g]? = some (.cells (putCells (Value.int .i64) 0 (sortI zs).toArray cur) 3 (0, 0)) := by
        show (_ ++ os)[g]? = _
        rw [Array.getElem?_append_left (hs g hlt)]
        show ((w.heap.modify g _))[g]? = _
        rw [Array.getElem?_modify, if_pos rfl, hh]
        rfl
      have hsz : (putCells (Value.int .i64) 0 (sortI zs).toArray cur).size = cur.size := by simp [putCells]
      have hle : zs.length ≤ cur.size := by rw [hcs]; omega
      refine ⟨(sortI zs).map (Value.int .i64), ⟨by simp [repInt], .inr ⟨g, cap, _, by rw [sortI_len], hg, hblk, by rw [sortI_len]; exact hnc, hmx, by rw [hsz]; exact hcs, ?_⟩⟩, fun j hj => ?_⟩
      · apply List.ext_getElem?
        intro k
        show ((putCells (Value.int .i64) 0 (sortI zs).toArray cur).toList.take ((sortI zs).length * 1))[k]? = _
        rw [Nat.mul_one, sortI_len, List.getElem?_take, List.getElem?_map]
        by_cases hk : k < zs.length
        · have hk2 : k < (sortI zs).length := by rw [sortI_len]; exact hk
          rw [if_pos hk, Array.getElem?_toList, List.getElem?_eq_getElem hk2]
          unfold putCells
          rw [Array.getElem?_mapIdx, Array.getElem?_eq_getElem (by omega)]
          simp only [Option.map_some]
          rw [if_pos ⟨Nat.zero_le _, by simpa using hk2⟩]
          simp [getElem!_pos, hk2]
        · rw [if_neg hk, List.getElem?_eq_none (by rw [sortI_len]; omega)]
          rfl
      · have hx : (sortI zs)[j] ∈ zs := sortI_mem.1 (List.getElem_mem hj)
        refine ⟨?_, hwf _ hx⟩
        show (((sortI zs).map (Value.int .i64)).drop (j * 1)).take 1 = _
        rw [Nat.mul_one, List.drop_eq_getElem_cons (by simpa using hj)]
        simp
end
end Go.Proofs.Ytimlbebockfioaa
