/- The library's sort of numbers over a block known whole. -/
import Derived.Test.YtmllkniloalgoaaSortR2
import Derived.Test.YtmllkniloalgoaaMake
namespace Go.Proofs.Ytmllkniloalgoaa
open Go.RowKit Go.Sort

def sortI (zs : List Int) : List Int := zs.mergeSort fun x y => decide (x ≤ y)
theorem sortI_len (zs : List Int) : (sortI zs).length = zs.length := List.length_mergeSort zs
theorem sortI_mem {zs : List Int} {x : Int} : x ∈ sortI zs ↔ x ∈ zs := List.mem_mergeSort

theorem sort_any (w : World) (g : Nat) (t : TypeId) (zs : List Int) (cap : Nat) (hb : Blk w g t (zs.map (Value.int .i64)).toArray) (hl : zs.length ≤ 1000) :
    Calls Try.prog 21 #[.slice (some ⟨g, 0, none⟩) zs.length cap] w fun e w' => e = .returned (.tuple #[]) ∧ Blk w' g t ((sortI zs).map (Value.int .i64)).toArray ∧ Only g w w' := by
  refine (Go.Proofs.Try.slices_Sort_int g 0 cap zs w (fun j hj => ?_) hb.lt (by omega)).mono ?_
  · have hj' : j < zs.length := by simpa using hj
    refine ⟨?_, hb.frozen _⟩
    rw [hb.cell]
    simp [getElem!_pos, hj']
  · rintro e w' ⟨rfl, n, os, rfl⟩
    refine ⟨rfl, ?_, ?_⟩
    · have hg := hb.lt
      unfold Blk at hb ⊢
      have hs : g < (putRow (Value.int .i64) (Sort.ahead w n) g 0 (zs.mergeSort fun x y => decide (x ≤ y)).toArray).heap.size := by simpa using hg
      show (_ ++ os)[g]? = _
      rw [Array.getElem?_append_left hs]
      show ((w.heap.modify g _))[g]? = _
      rw [Array.getElem?_modify, if_pos rfl, hb]
      simp only [Option.map_some, onCells]
      congr 2
      apply Array.ext_getElem?
      intro k
      unfold putCells sortI
      simp only [Array.getElem?_mapIdx, List.getElem?_toArray, List.getElem?_map]
      rcases Nat.lt_or_ge k zs.length with hk | hk
      · have hk2 : k < (zs.mergeSort fun x y => decide (x ≤ y)).length := by rw [List.length_mergeSort]; exact hk
        rw [List.getElem?_eq_getElem hk, List.getElem?_eq_getElem hk2]
        simp only [Option.map_some]
        rw [if_pos ⟨Nat.zero_le _, by simpa using hk⟩]
        simp [getElem!_pos, hk]
      · rw [List.getElem?_eq_none hk, List.getElem?_eq_none (by rw [List.length_mergeSort]; exact hk)]
        rfl
    · refine ⟨rfl, rfl, rfl, by simp, fun k hk hne => ?_⟩
      have hkg : g ≠ k := fun e => hne (by rw [e])
      have hs : k < (putRow (Value.int .i64) (Sort.ahead w n) g 0 (zs.mergeSort fun x y => decide (x ≤ y)).toArray).heap.size := by simpa using hk
      show (_ ++ os)[k]? = _
      rw [Array.getElem?_append_left hs]
      show ((w.heap.modify g _))[k]? = _
      rw [Array.getElem?_modify, if_neg hkg]
end Go.Proofs.Ytmllkniloalgoaa
