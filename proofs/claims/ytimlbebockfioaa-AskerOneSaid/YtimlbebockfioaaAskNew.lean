/- The asker: New; the source: New. -/
import Derived.Test.YtimlbebockfioaaAsk6
import Derived.Test.YtimlbebockfioaaCfg
namespace Go.Proofs.Ytimlbebockfioaa
open Go.RowKit

open Classical in
/-- Whose a block is at the beginning. -/
noncomputable def newCol (ga gq gt b gs : Nat) (FD : Nat → Prop) : Nat → Nat := fun q => if q = ga then 1 else if q = gq then 2 else if q = gt then 3 else if q = b then 4 else if q = gs then 5 else if FD q then 7 else 0
section
variable {ga gq gt b gs : Nat} {FD : Nat → Prop}
theorem newCol_nz {q : Nat} (h : newCol ga gq gt b gs FD q ≠ 0) : q = ga ∨ q = gq ∨ q = gt ∨ q = b ∨ q = gs ∨ FD q := by
  unfold newCol at h
  by_cases h1 : q = ga
  · exact .inl h1
  by_cases h2 : q = gq
  · exact .inr (.inl h2)
  by_cases h3 : q = gt
  · exact .inr (.inr (.inl h3))
  by_cases h4 : q = b
  · exact .inr (.inr (.inr (.inl h4)))
  by_cases h5 : q = gs
  · exact .inr (.inr (.inr (.inr (.inl h5))))
  by_cases h6 : FD q
  · exact .inr (.inr (.inr (.inr (.inr h6))))
  · rw [if_neg h1, if_neg h2, if_neg h3, if_neg h4, if_neg h5, if_neg h6] at h
    exact absurd rfl h
theorem newCol_7 {q : Nat} (h : newCol ga gq gt b gs FD q = 7) : FD q := by
  unfold newCol at h
  by_cases h1 : q = ga
  · rw [if_pos h1] at h; omega
  by_cases h2 : q = gq
  · rw [if_neg h1, if_pos h2] at h; omega
  by_cases h3 : q = gt
  · rw [if_neg h1, if_neg h2, if_pos h3] at h; omega
  by_cases h4 : q = b
  · rw [if_neg h1, if_neg h2, if_neg h3, if_pos h4] at h; omega
  by_cases h5 : q = gs
  · rw [if_neg h1, if_neg h2, if_neg h3, if_neg h4, if_pos h5] at h; omega
  by_cases h6 : FD q
  · exact h6
  · rw [if_neg h1, if_neg h2, if_neg h3, if_neg h4, if_neg h5, if_neg h6] at h; omega
theorem newCol_no {q m : Nat} (hm : m = 6 ∨ m = 8 ∨ m = 9) : ¬ newCol ga gq gt b gs FD q = m := fun h => by
  unfold newCol at h
  by_cases h1 : q = ga
  · rw [if_pos h1] at h; omega
  by_cases h2 : q = gq
  · rw [if_neg h1, if_pos h2] at h; omega
  by_cases h3 : q = gt
  · rw [if_neg h1, if_neg h2, if_pos h3] at h; omega
  by_cases h4 : q = b
  · rw [if_neg h1, if_neg h2, if_neg h3, if_pos h4] at h; omega
  by_cases h5 : q = gs
  · rw [if_neg h1, if_neg h2, if_neg h3, if_neg h4, if_pos h5] at h; omega
  by_cases h6 : FD q
  · rw [if_neg h1, if_neg h2, if_neg h3, if_neg h4, if_neg h5, if_pos h6] at h; omega
  · rw [if_neg h1, if_neg h2, if_neg h3, if_neg h4, if_neg h5, if_neg h6] at h; omega
end
set_option maxRecDepth 100000
section
theorem cloneU_any (v : Value) (xs : List Int) (w : World) (h : IsSlice (repInt .u64) w (all w) v xs) (hl : xs.length ≤ 17592186044416) :
    Calls Try.prog 49 #[v] w fun e w' => ∃ u, e = .returned u ∧ IsSlice (repInt .u64) w' (fresh w w') u xs ∧ Ext w w' := by
  obtain ⟨A, n, c, rfl, hnc, hcm, hrow⟩ := h
  have hs : IsSlice (repInt .u64) w (all w) (.slice A n c) xs := ⟨A, n, c, rfl, hnc, hcm, hrow⟩
  rcases A with _ | ad
  · have hn0 : n = 0 := by
      rcases Nat.eq_zero_or_pos n with h | h
      · exact h
      · obtain ⟨b, off, x, hA, _⟩ := hrow.int h; cases hA
    subst hn0
    have hx : xs = [] := List.eq_nil_of_length_eq_zero hrow.1
    have hnil : ∀ W, (binOp .eql 57 (.slice none 0 c) (.slice none 0 0)).run Try.prog W = .ok (.bool true) W := fun W => Lib.run_eql_slice_nil W _ _ none 0 c 0 0 Try.underlying57
    subst hx
    clear hrow hs
    go_enter Try.func49, Try.ntmps49
    go_wp2
    go_ret
    exact ⟨_, rfl, isSlice_nil _ _ _, Below.refl _ _⟩
  · have hnil : ∀ W, (binOp .eql 57 (.slice (some ad) n c) (.slice none 0 0)).run Try.prog W = .ok (.bool false) W := fun W => Lib.run_eql_slice_nil W _ _ (some ad) n c 0 0 Try.underlying57
    go_enter Try.func49, Try.ntmps49
    go_wp2_with (at_builtin; refine wpl_app (r := repInt .u64) (base := w.heap.size) (v := .slice (some ⟨w.heap.size, 0, none⟩) 0 0) (xs := []) _ _ rfl rfl Try.underlying57 info_u64N (by decide) (own_lit (xs := []) (Nat.le_refl _) (by simp [maxLen]) (by simp) (by simp)) ((hs.off (ext_alloc w _) (by simp [Value.ownBlock])).flat (flat_int _)) rfl rfl (by simp; omega) (by simp [maxLen]; omega) (by simp) ?_; intro v' w1 hown1 hg1 _)
    go_ret
    exact ⟨_, rfl, by simpa using hown1.fresh, Below.grown (ext_alloc _ _) hg1 (by simp) (by simp [Value.ownBlock])⟩
theorem newSrc_any (v : Value) (xs : List Int) (w : World) (h : IsSlice (repInt .u64) w (all w) v xs) (hl : xs.length ≤ 17592186044416) :
    Calls Try.prog 20 #[v] w fun e w' => ∃ gs FD, e = .returned (.pointer (some ⟨gs, 0, none⟩)) ∧ SrcAt FD (fun _ => False) w' gs xs [] ∧ (∀ q, FD q → Proofs.Ytimlbebockfioaa.fresh w w' q) ∧ w.heap.size ≤ gs ∧ Ext w w' := by
  have HC := hid (cloneU_any v xs w h hl)
  obtain ⟨A, c, rfl⟩ := h.shape
  clear h
  go_enter Try.func20, Try.ntmps20
  go_wp2_with (go_at_call 49; refine HC.out.mono ?_; rintro e w2 ⟨u, rfl, hu, hx2⟩; obtain ⟨Au, cu, rfl⟩ := hu.shape)
  go_ret
  have hz := hx2.size
  have hxa := ext_alloc w2 (.cells #[.bool true, .slice Au xs.length cu, .slice none 0 0] 115)
  have hza := hxa.size
  refine ⟨w2.heap.size, fun q => Proofs.Ytimlbebockfioaa.fresh w w2 q, rfl, ⟨fun hq => by have := hq.2; omega, fun h => h, fun q _ h => h, fun q hq => hq.elim (fun e => Nat.lt_of_lt_of_le e.2 hza) fun e => e.elim, _, _, Blk.new w2 _ _, hu.keep fun q hq => ⟨hq, fun o => hxa.cell hq.2 o⟩, .inl ⟨own_nil _ _ _ _, fun b hb => by cases hb⟩⟩, fun q hq => ⟨hq.1, Nat.lt_of_lt_of_le hq.2 hza⟩, hz, Ext.trans hx2 hxa⟩
theorem newAkB_any (w : World) (c : Cfg) (gs : Nat) (hbb : c.b < 1 ∨ 64 < c.b) :
    Calls Try.prog 19 #[.agg (cfgVals c).toArray, .pointer (some ⟨gs, 0, none⟩)] w fun e w' => e = .returned (.tuple #[.pointer none, .int .i64 1]) ∧ Ext w w' := by
  have HT := hid (fun W => tmNew_no W c.b hbb)
  unfold cfgVals
  clear hbb
  go_enter Try.func19, Try.ntmps19
  go_wp2_with (go_at_call 35; refine (HT.out _).mono ?_; rintro e w2 ⟨rfl, rfl⟩)
  go_ret2
  exact ⟨rfl, ext_alloc _ _⟩
theorem newAkRoom_any (w : World) (c : Cfg) (gs : Nat) (h1 : 1 ≤ c.b) (h2 : c.b ≤ 64) (hr : c.room < 1 ∨ 16 < c.room) :
    Calls Try.prog 19 #[.agg (cfgVals c).toArray, .pointer (some ⟨gs, 0, none⟩)] w fun e w' => e = .returned (.tuple #[.pointer none, .int .i64 1]) ∧ Ext w w' := by
  have HT := hid (fun W => tmNew_yes W c.b h1 h2)
  have HQ := hid (fun W => newQBad_any c.room W hr)
  have hb := Blk.new w 24 (cfgVals c).toArray
  have hx := ext_alloc w (.cells (cfgVals c).toArray 24)
  unfold cfgVals at *
  clear h1 h2 hr
  go_enter Try.func19, Try.ntmps19
  go_wp2_with (first
    | (go_at_call 35; refine (HT.out _).mono ?_; rintro e w2 ⟨gt, bt, rfl, hgt, hbt, htm, hx2⟩; have b5 := (hb.ext hx2).cell 5)
    | (go_at_call 48; refine (HQ.out _).mono ?_; rintro e w3 ⟨rfl, rfl⟩))
  go_ret2
  exact ⟨rfl, Ext.trans hx hx2⟩
set_option maxHeartbeats 1000000 in
theorem newAk_any (w : World) (c : Cfg) (gs : Nat) (FD : Nat → Prop) (D : List Int) (h1 : 1 ≤ c.b) (h2 : c.b ≤ 64) (hr1 : 1 ≤ c.room) (hr2 : c.room ≤ 16) (hs : SrcAt FD (fun _ => False) w gs D []) :
    Calls Try.prog 19 #[.agg (cfgVals c).toArray, .pointer (some ⟨gs, 0, none⟩)] w fun e w' => ∃ ga gq gt b, ∃ col : Nat → Nat, e = .returned (.tuple #[.pointer (some ⟨ga, 0, none⟩), .int .i64 0]) ∧ AkAt col w' ga gq gt b gs c.b c.room ⟨[], [], D, [], 0, 0, 0, false, []⟩ ∧ (∀ q, col q ≠ 0 → Proofs.Ytimlbebockfioaa.fresh w w' q ∨ q = gs ∨ FD q) ∧ Ext w w' := by
  have HT := hid (fun W => tmNew_yes W c.b h1 h2)
  have HQ := hid (fun W => newF_any c.room W hr1 hr2)
  have hb := Blk.new w 24 (cfgVals c).toArray
  have hx := ext_alloc w (.cells (cfgVals c).toArray 24)
  unfold cfgVals at *
  clear h1 h2 hr1 hr2
  go_enter Try.func19, Try.ntmps19
  go_wp2_with (first
    | (go_at_call 35; refine (HT.out _).mono ?_; rintro e w2 ⟨gt, bt, rfl, hgt, hbt, htm, hx2⟩; have b5 := (hb.ext hx2).cell 5)
    | (go_at_call 48; refine (HQ.out _).mono ?_; rintro e w3 ⟨rfl, hqf, hx3, hlt3⟩))
  go_ret2
  have hbk := Blk.new w3 112 (akCells w2.heap.size gt gs 0 0 0 0 false (.slice none 0 0))
  have hxa := ext_alloc w3 (.cells (akCells w2.heap.size gt gs 0 0 0 0 false (.slice none 0 0)) 112)
  have htl := htm.lt
  have hz := hx.size
  have hz2 := hx2.size
  have hz3 := hx3.size
  have hza : w3.heap.size < (w3.alloc (.cells (akCells w2.heap.size gt gs 0 0 0 0 false (.slice none 0 0)) 112)).heap.size := by simp
  have hgs := hs.ltp
  have hfd : ∀ q, FD q → q < w.heap.size := fun q hq => hs.lt q (.inl hq)
  have hw1 : w.heap.size < (w.alloc (.cells ([.int .i64 c.e, .int .i64 c.w, .int .i64 c.m, .int .i64 c.l, .int .i64 c.b, .int .i64 c.room, .int .u64 c.begin_] : List Value).toArray 24)).heap.size := by simp
  have hgtb : gt ≠ bt := htm.2.1
  have hne : ∀ q, FD q → q ≠ w3.heap.size ∧ q ≠ w2.heap.size ∧ q ≠ gt ∧ q ≠ bt ∧ q ≠ gs := fun q hq => by
    have := hfd q hq
    exact ⟨by omega, by omega, by omega, by omega, fun e => hs.nd (e ▸ hq)⟩
  have h7 : ∀ q, FD q → newCol w3.heap.size w2.heap.size gt bt gs FD q = 7 := fun q hq => by
    obtain ⟨n1, n2, n3, n4, n5⟩ := hne q hq
    unfold newCol
    rw [if_neg n1, if_neg n2, if_neg n3, if_neg n4, if_neg n5, if_pos hq]
  have e7 : (fun k => newCol w3.heap.size w2.heap.size gt bt gs FD k = 7) = FD := funext fun q => propext ⟨newCol_7, h7 q⟩
  have e8 : (fun k => newCol w3.heap.size w2.heap.size gt bt gs FD k = 8) = fun _ => False := funext fun q => propext ⟨fun h => newCol_no (.inr (.inl rfl)) h, fun h => h.elim⟩
  have e6 : (fun k => newCol w3.heap.size w2.heap.size gt bt gs FD k = 6) = fun _ => False := funext fun q => propext ⟨fun h => newCol_no (.inl rfl) h, fun h => h.elim⟩
  have hxx := Ext.trans (Ext.trans (Ext.trans hx hx2) hx3) hxa
  refine ⟨w3.heap.size, w2.heap.size, gt, bt, newCol w3.heap.size w2.heap.size gt bt gs FD, rfl, ⟨?_, ?_, ?_, ?_, ?_, fun q hq => ?_, ?_, (htm.ext hx3).ext hxa, ?_, .slice none 0 0, hbk, .inl ⟨own_nil _ _ _ _, fun b hb => by cases hb⟩⟩, fun q hq => ?_, hxx⟩
  · unfold newCol; rw [if_pos rfl]
  · unfold newCol; rw [if_neg (by omega), if_pos rfl]
  · unfold newCol; rw [if_neg (by omega), if_neg (by omega), if_pos rfl]
  · unfold newCol; rw [if_neg (by omega), if_neg (by omega), if_neg (fun e => hgtb e.symm), if_pos rfl]
  · unfold newCol; rw [if_neg (by omega), if_neg (by omega), if_neg (by omega), if_neg (by omega), if_pos rfl]
  · have hq' : q < (w3.alloc (.cells (akCells w2.heap.size gt gs 0 0 0 0 false (.slice none 0 0)) 112)).heap.size := by
      rcases newCol_nz hq with e | e | e | e | e | e
      · omega
      · omega
      · omega
      · omega
      · omega
      · have := hfd q e; omega
    exact hq'
  · rw [e6]
    exact hqf.ext hxa
  · rw [e7, e8]
    exact hs.ext hxx
  · have hq' : (w.heap.size ≤ q ∧ q < (w3.alloc (.cells (akCells w2.heap.size gt gs 0 0 0 0 false (.slice none 0 0)) 112)).heap.size) ∨ q = gs ∨ FD q := by
      rcases newCol_nz hq with e | e | e | e | e | e
      · exact .inl ⟨by omega, by omega⟩
      · exact .inl ⟨by omega, by omega⟩
      · exact .inl ⟨by omega, by omega⟩
      · exact .inl ⟨by omega, by omega⟩
      · exact .inr (.inl e)
      · exact .inr (.inr e)
    exact hq'
end
end Go.Proofs.Ytimlbebockfioaa
