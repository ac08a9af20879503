/- What is laid out of Go's library: its functions' contracts wherever the world has grown to. -/
import Derived.Lib.SplitLaws
import Derived.Lib.AtoiErrMem
import Derived.Test.YtimlbebockfioaaDoorShelfD
import Derived.Test.YtimlbebockfioaaDoorChartT
namespace Go.Proofs.YtimlbebockfioaaDoor
open Go.RowKit

def AtoiOut (l : List UInt8) (n : Int) (ev : Value) : Prop := (ev = .nilIface ∧ Lib.atoiAll l = .ok n) ∨ ((∃ te pe, ev = .iface te (.pointer pe)) ∧ ∀ m, Lib.atoiAll l ≠ .ok m)
structure Laid (w : World) : Prop where
  itoa : ∀ w1, Ext w w1 → ∀ n : Int, 0 ≤ n → n ≤ 999999 → Calls Tryd.prog 35 #[.int .i64 n] w1 fun e w' => e = .returned (.string (bstr (Lib.itoa n))) ∧ Ext w1 w'
  atoi : ∀ w1, Ext w w1 → ∀ l : List UInt8, l.length ≤ 1000 → Calls Tryd.prog 43 #[.string (bstr l)] w1 fun e w' => ∃ n ev, e = .returned (.tuple #[.int .i64 n, ev]) ∧ AtoiOut l n ev ∧ Ext w1 w'
  split : ∀ w1, Ext w w1 → ∀ l : List UInt8, l.length ≤ 1000 → Calls Tryd.prog 23 #[.string (bstr l), .string ⟨#[32]⟩] w1 fun e w' => ∃ u, e = .returned u ∧ IsSlice repString w' (fresh w1 w') u ((wordsL l).map bstr) ∧ Ext w1 w'
theorem Laid.ext {w w' : World} (h : Laid w) (he : Ext w w') : Laid w' := ⟨fun w1 h1 => h.itoa w1 (Ext.trans he h1), fun w1 h1 => h.atoi w1 (Ext.trans he h1), fun w1 h1 => h.split w1 (Ext.trans he h1)⟩
theorem bstr_data (l : List UInt8) : (bstr l).data.toList = l := rfl
theorem list_bstr (b : ByteArray) : bstr b.data.toList = b := by simp [bstr]
theorem split_any (w : World) (m : Int) (hm : w.cell? ⟨0, 0, none⟩ = some (.int .i64 m)) (l : List UInt8) (hl : l.length ≤ 1000) :
    Calls Tryd.prog 23 #[.string (bstr l), .string ⟨#[32]⟩] w fun e w' => ∃ u, e = .returned u ∧ IsSlice repString w' (fresh w w') u ((wordsL l).map bstr) ∧ Ext w w' := by
  have hs := bstr_size l
  refine (Tryd.strings_Split (bstr l) ⟨#[32]⟩ m w (by omega) hm (by decide)).mono fun e w' ⟨he, hw⟩ => ?_
  have hlen := Lib.splitB_all ⟨#[32]⟩ (by decide) 0 _ (bstr l) rfl
  have hL : Lib.splitB ⟨#[32]⟩ 0 (Lib.countB (bstr l) ⟨#[32]⟩) (bstr l) = (wordsL l).map bstr := by
    have h1 := Lib.splitB_data ⟨#[32]⟩ 0 (Lib.countB (bstr l) ⟨#[32]⟩) (bstr l)
    have h2 : Lib.splitK [32] 0 (Lib.count l [32]) l = wordsL l := split_words l
    have h3 := h1.trans h2
    rw [← h3, List.map_map]
    conv => lhs; rw [← List.map_id (Lib.splitB _ _ _ _)]
    apply List.map_congr_left
    intro b _
    exact (list_bstr b).symm
  rw [hL] at hw hlen
  subst hw
  subst he
  refine ⟨_, rfl, ?_, ext_alloc _ _⟩
  have hh : ∀ xs : List ByteArray, Holds1 repString w (all w) (xs.map Value.string) xs := by
    intro xs
    induction xs with
    | nil => trivial
    | cons x xs ih => exact ⟨rfl, ih⟩
  have hwl := wordsL_len l
  have h4 := isSlice_lits (r := repString) (e := 9) (fz := (0, 0)) rfl (hh ((wordsL l).map bstr)) (by rw [List.length_map]; unfold maxLen; omega) (n := Lib.countB (bstr l) ⟨#[32]⟩ + 1) (g := w.heap.size) hlen.symm rfl
  obtain ⟨A, n, c, hv, h5, h6, h7, h8⟩ := h4
  refine ⟨A, n, c, hv, h5, h6, h7, fun hn => ?_⟩
  obtain ⟨b, off, hA, hb, hj⟩ := h8 hn
  refine ⟨b, off, hA, ?_, fun j hjl => ?_⟩
  · subst hA
    injection hv with hv
    injection hv with hv
    injection hv with hv
    exact ⟨by omega, hb⟩
  · exact hj j hjl
theorem ext_bytesWorld (w : World) (t : TypeId) (s) : Ext w (Lib.bytesWorld w t s) := by
  exact Lib.bytesWorld_below w t s
theorem atoi_any (w : World) (ev1 ev2 : Value) (h1 : w.cell? ⟨1, 0, none⟩ = some ev1) (e1 : ev1 = .nilIface ∨ ∃ te pe, ev1 = .iface te pe) (h2 : w.cell? ⟨2, 0, none⟩ = some ev2) (e2 : ev2 = .nilIface ∨ ∃ te pe, ev2 = .iface te pe) (l : List UInt8) (hl : l.length ≤ 1000) :
    Calls Tryd.prog 43 #[.string (bstr l)] w fun e w' => ∃ n ev, e = .returned (.tuple #[.int .i64 n, ev]) ∧ AtoiOut l n ev ∧ Ext w w' := by
  have hs := bstr_size l
  rcases ha : Lib.atoiAll l with v | _ | _
  · refine (Any.strconv_Atoi_ok Tryd.laysC172 (bstr l) (by omega) v ha w).mono fun e w' ⟨he, hw⟩ => ⟨v, _, he, .inl ⟨rfl, ha⟩, ?_⟩
    rcases hw with rfl | ⟨t, rfl⟩
    · exact Below.refl _ _
    · exact ext_bytesWorld _ _ _
  · exact (Any.strconv_Atoi_syntax Tryd.laysC172 (bstr l) (by omega) ha ev1 w h1 e1).mono fun e w' ⟨N, he, _, _, hw⟩ => ⟨_, _, he, .inr ⟨⟨_, _, rfl⟩, fun m h => by rw [ha] at h; cases h⟩, hw⟩
  · exact (Any.strconv_Atoi_range Tryd.laysC172 (bstr l) (by omega) ha ev2 w h2 e2).mono fun e w' ⟨N, he, _, _, hw⟩ => ⟨_, _, he, .inr ⟨⟨_, _, rfl⟩, fun m h => by rw [ha] at h; cases h⟩, hw⟩
end Go.Proofs.YtimlbebockfioaaDoor
