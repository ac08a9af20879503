/- maps.Keys and slices.Sorted at a map of one's own whose keys are ints. -/
import Derived.Test.YtimlbebockfioaaIterR3
import Derived.Test.YtimlbebockfioaaRange
import Derived.Test.YtimlbebockfioaaSortOwn
namespace Go.Proofs.Ytimlbebockfioaa
open Go.RowKit Go.Maps Go.Sort Go.Shelf

set_option maxRecDepth 100000
/-! ### The kit's word for such a map -/
theorem insert_perm {H : Type} (x : Lit × DataW H) : ∀ l : List (Lit × DataW H), (DataW.insert x l).Perm (x :: l)
  | [] => .refl _
  | y :: r => by
    unfold DataW.insert
    split
    · exact .refl _
    · exact ((insert_perm x r).cons y).trans (.swap x y r)
theorem foldr_perm {H : Type} : ∀ l : List (Lit × DataW H), (l.foldr DataW.insert []).Perm l
  | [] => .refl _
  | x :: l => (insert_perm x _).trans ((foldr_perm l).cons x)
def anyR (_ : Value) : Option (DataW Unit × List MemPlace) := some (.nil, [])
theorem ownsMap_of {w : World} {b : Nat} {l : List (Int × Value)} (h : MapSt (keyInt .i64) w b l) (hw : ∀ p ∈ l, (Lit.int .i64 p.1).wf = true) (hl : l.length ≤ maxLen) :
    ∃ D0 : DataW Unit, w.ownsMap Try.prog 3 anyR b l.length D0 ∧ (intKeys D0).Perm (l.map (·.1)) ∧ Maps.size D0 = l.length := by
  obtain ⟨es, clock, hb, hes, hst⟩ := h
  have hsz : es.size = l.length := by have := congrArg List.length hes; simpa using this
  have hrd : ∀ x ∈ es.toList, ∃ k : Int, x.key = .int .i64 k ∧ (Lit.int .i64 k).wf = true ∧ WideElems.rd Try.prog 3 anyR x = some (.int .i64 k, .nil) := fun x hx => by
    have h1 : (x.key, x.val) ∈ l.map (fun p => ((keyInt .i64).kv p.1, p.2)) := by rw [← hes]; exact List.mem_map.2 ⟨x, hx, rfl⟩
    obtain ⟨p, hp, he⟩ := List.mem_map.1 h1
    have hk : x.key = .int .i64 p.1 := by injection he with h1 h2; exact h1.symm
    refine ⟨p.1, hk, hw p hp, ?_⟩
    have hkey : keyOf Try.prog 3 x.key = some (.int .i64 p.1) := by
      rw [hk]
      simp [keyOf, mapKey, Try.underlying3, hw p hp]
    unfold WideElems.rd anyR
    rw [hkey]
    rfl
  have hrg : ∀ x ∈ es.toList, ∀ k : Int, x.key = .int .i64 k → (WideElems.rg Try.prog 3 anyR x) = (.int .i64 k, .nil) := fun x hx k hk => by
    obtain ⟨k', hk', _, hr⟩ := hrd x hx
    rw [hk] at hk'
    injection hk' with _ e
    unfold WideElems.rg
    rw [hr, e]
    rfl
  refine ⟨_, ⟨es, clock, hb, ⟨by omega, hst, fun x hx => by obtain ⟨k, _, _, hr⟩ := hrd x hx; exact ⟨_, hr⟩⟩, by omega, rfl⟩, ?_, ?_⟩
  · show (((es.toList.map (WideElems.rg Try.prog 3 anyR)).foldr DataW.insert []).map fun p => Go.intOf p.1).Perm _
    refine ((foldr_perm _).map _).trans ?_
    have e : (es.toList.map (WideElems.rg Try.prog 3 anyR)).map (fun p => Go.intOf p.1) = l.map (·.1) := by
      have h2 : es.toList.map (fun e => e.key) = l.map (fun p => Value.int .i64 p.1) := by
        have := congrArg (List.map Prod.fst) hes
        rw [List.map_map, List.map_map] at this
        exact this
      have h3 : (es.toList.map (WideElems.rg Try.prog 3 anyR)).map (fun p => Go.intOf p.1) = (es.toList.map (fun e => e.key)).map (fun v => match v with | .int _ a => a | _ => 0) := by
        rw [List.map_map, List.map_map]
        refine List.map_congr_left fun x hx => ?_
        obtain ⟨k, hk, _, _⟩ := hrd x hx
        simp only [Function.comp]
        rw [hrg x hx k hk, hk]
        rfl
      rw [h3, h2, List.map_map]
      rfl
    rw [e]
  · show ((es.toList.map (WideElems.rg Try.prog 3 anyR)).foldr DataW.insert []).length = _
    rw [(foldr_perm _).length_eq, List.length_map]
    simpa using hsz

theorem iterSorts (m : Nat) : AnyZI.SortsIn Try.prog Try.sortedA_ren Fence.wide m :=
  ⟨fun blk off cap ss W hH hblk hsz => callsIn_wide.2 (AnyM.slices_Sort_int Try.sortA blk off cap ss W hH hblk hsz),
   fun p cap W => callsIn_wide.2 (AnyM.slices_Sort_int_none Try.sortA p cap W)⟩
set_option maxRecDepth 100000
section
theorem mapsKeys_any (mb : Option Nat) (W : World) :
    Calls Try.prog 73 #[.map mb] W fun e w' => e = .returned (.func (.func 87) #[] #[.pointer (some ⟨W.heap.size, 0, none⟩)]) ∧ w' = W.alloc (.cells #[.map mb] 125) :=
  (callsIn_wide (n := 5)).1 (AnyZI.keys_in Try.keysA Fence.wide 5 trivial rfl mb W)
set_option maxHeartbeats 1000000 in
theorem slicesSorted_any (w : World) (b : Nat) (l : List (Int × Value)) (h : MapSt (keyInt .i64) w b l) (hw : ∀ p ∈ l, (Lit.int .i64 p.1).wf = true) (hl : l.length ≤ 100000) :
    Calls Try.prog 72 #[.func (.func 87) #[] #[.pointer (some ⟨w.heap.size, 0, none⟩)]] (w.alloc (.cells #[.map (some b)] 125)) fun e w' =>
      ∃ v, e = .returned v ∧ Own (repInt .i64) 3 (w.heap.size + 1) w' v (sortI (l.map (·.1))) ∧ Below (w.heap.size + 1) (w.alloc (.cells #[.map (some b)] 125)) w' := by
  obtain ⟨D0, hown, hperm, hsize⟩ := ownsMap_of h hw (by simp only [maxLen]; omega)
  have hbl := hown.lt
  have hseq : SeqGives Fence.wide 2 Try.prog 87 #[.pointer (some ⟨w.heap.size, 0, none⟩)] encZ (fun ss => ss.Perm (intKeys D0)) (Maps.size D0) (w.alloc (.cells #[.map (some b)] 125)) :=
    AnyZI.keys_gives (ρ := Try.keysA_ren) { Try.keysA with } Fence.wide _ trivial rfl (by omega) w.heap.size b l.length D0 _ (by simp) (by simp) (by
      obtain ⟨es, clock, hb, Ft, hs, hD⟩ := hown
      exact ⟨es, clock, (Below.heap_alloc _ _ b hbl).trans hb, Ft, hs, hD⟩)
  have cS := AnyZI.sorted_in Try.sortedA Fence.wide 5 trivial trivial trivial trivial rfl (by omega) (iterSorts _) (enters_of Try.func68 (by kernel_rfl) rfl) 87 #[.pointer (some ⟨w.heap.size, 0, none⟩)] trivial (enters_of Try.func87 (by kernel_rfl) rfl) _ _ (by rw [hsize]; simp only [maxLen]; omega) (by rw [hsize]; omega) _ hseq
  change CallsIn _ _ Try.prog 72 _ _ _ at cS
  refine ((callsIn_wide (n := 5)).1 cS).mono ?_
  rintro e w' ⟨v, ss, rfl, hS, hrow, hnil, hb⟩
  have hk : ss.mergeSort (fun x y => decide (x ≤ y)) = sortI (l.map (·.1)) := mergeSort_of_perm_i (hS.trans hperm)
  have hlen : ss.length = (sortI (l.map (·.1))).length := by rw [sortI_len]; exact (hS.trans hperm).length_eq
  have hb1 : (w.alloc (.cells #[.map (some b)] 125)).heap.size = w.heap.size + 1 := by simp
  rw [hk, hlen, hb1] at hrow
  rw [hb1] at hb
  refine ⟨v, rfl, ⟨_, hrow, fun j hj => ?_⟩, hb⟩
  have hjl : j < ((sortI (l.map (·.1))).map encZ).length := by simpa using hj
  refine ⟨?_, ?_⟩
  · show (((sortI (l.map (·.1))).map encZ).drop (j * 1)).take 1 = _
    rw [Nat.mul_one, List.drop_eq_getElem_cons hjl]
    simp
  · obtain ⟨p, hp, he⟩ := List.mem_map.1 (sortI_mem.1 (List.getElem_mem hj))
    rw [← he]
    exact hw p hp
end
end Go.Proofs.Ytimlbebockfioaa
