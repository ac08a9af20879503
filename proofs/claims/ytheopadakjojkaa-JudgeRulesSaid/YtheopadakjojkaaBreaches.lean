/- The walks of Breaches on both sides. -/
import Derived.Test.YtheopadakjojkaaBreach
namespace Go.Proofs.Ytheopadakjojkaa
open Go.RowKit

noncomputable def pb (P : Prop) : Bool := @decide P (Classical.propDecidable P)
theorem pb_eq {b : Bool} {P : Prop} (h : b = true ↔ P) : pb P = b := by
  unfold pb
  cases b
  · exact @decide_eq_false P (Classical.propDecidable P) (fun hp => by have := h.2 hp; cases this)
  · exact @decide_eq_true P (Classical.propDecidable P) (h.1 rfl)
def PrefP (l : List Ev) : Prop := preB (texts l 2) (texts l 0) = true
def keepN (n : ByteArray) (b : Bool) : List ByteArray := if b then [] else [n]
def outAll (L : List (ByteArray × Bool)) : List ByteArray := L.flatMap fun p => keepN p.1 p.2
def outTo (L : List (ByteArray × Bool)) (k : Nat) : List ByteArray := outAll (L.take k)
theorem outTo_step {L : List (ByteArray × Bool)} {k : Nat} {n : ByteArray} {b : Bool} (h : L[k]? = some (n, b)) : outTo L (k + 1) = outTo L k ++ keepN n b := by
  unfold outTo outAll
  rw [take_succ_of h, List.flatMap_append]
  simp
theorem outTo_len (L : List (ByteArray × Bool)) (k : Nat) : (outTo L k).length ≤ k := by
  induction k with
  | zero => simp [outTo, outAll]
  | succ k ih =>
    rcases Nat.lt_or_ge k L.length with h | h
    · have hk : L[k]? = some (L[k].1, L[k].2) := List.getElem?_eq_getElem h
      rw [outTo_step hk, List.length_append]
      have : (keepN L[k].1 L[k].2).length ≤ 1 := by unfold keepN; split <;> simp
      omega
    · have : outTo L (k + 1) = outTo L k := by unfold outTo; rw [List.take_of_length_le h, List.take_of_length_le (by omega)]
      rw [this]; omega
theorem outTo_all {L : List (ByteArray × Bool)} {k : Nat} (h : L.length ≤ k) : outTo L k = outAll L := by unfold outTo; rw [List.take_of_length_le h]
noncomputable def rulesG (l : List Ev) (n q : Int) : List (ByteArray × Bool) :=
  if n = 3 then [(sOrder, pb (OrdP l)), (sConf, pb (ConfP l)), (sUnk, pb (UnkP l)), (sSkip, pb (SkipP l))]
  else if n = 1 then [(sPrefix, pb (PrefP l))] else if n = 2 then [(sPrefix, pb (PrefP l)), (sWindow, pb (WinP l q))] else []
noncomputable def breachG (l : List Ev) (n q : Int) : List ByteArray := if (nums l 6).isEmpty = false ∨ (n ≠ 3 ∧ (nums l 5).isEmpty = false) then [] else outAll (rulesG l n q)
def SomeBr (L : List ByteArray) (w : World) (e : Ending) (w' : World) : Prop := ∃ v, e = .returned v ∧ IsSlice repString w' (all w') v L ∧ Ext w w'

set_option maxRecDepth 100000
section
theorem info_string : ElemInfo Try.prog 9 1 16 := elemInfo (z := .string ByteArray.empty) (by kernel_rfl) rfl
theorem prefixedB_any (v : Value) (xs : List Ev) (w : World) (h : IsSlice repEv w (all w) v xs) (hm : Mild xs) :
    Calls Try.prog 115 #[v] w (SomeB (PrefP xs) w) := (prefixed_any v xs w h hm).mono fun _ _ h => ⟨_, h.1, Iff.rfl, h.2⟩
set_option maxHeartbeats 3200000 in
theorem breaches3_any (v : Value) (xs : List Ev) (q : Int) (w : World) (h : IsSlice repEv w (all w) v xs) (hm : Mild xs) (h6 : (nums xs 6).isEmpty = true) :
    Calls Try.prog 75 #[v, .int .i64 3, .int .i64 q] w (SomeBr (outAll [(sOrder, pb (OrdP xs)), (sConf, pb (ConfP xs)), (sUnk, pb (UnkP xs)), (sSkip, pb (SkipP xs))]) w) := by
  have hl := hm.few
  have HM := hid hm
  have hcl := fun w1 (hx : Ext w w1) => clean_any v xs w1 (h.ext hx) (by omega)
  rw [h6] at hcl
  have HCL := hid hcl
  have hv := h
  clear hcl h6 hm
  obtain ⟨A0, n0, c0, rfl, _⟩ := h
  go_enter Try.func75, Try.ntmps75
  go_wp2_with fail
  refine (HCL.out _ (Below.refl _ _)).mono ?_
  rintro r w1 ⟨rfl, hx1⟩
  have hx02 := hx1
  go_wp2_with fail
  refine (rules3_any q _).mono ?_
  rintro r w3 ⟨g, rfl, hbk, hx3⟩
  have hx03 := Ext.trans hx02 hx3
  have hv3 := hv.ext hx03
  obtain ⟨L, hL⟩ : ∃ L : List (ByteArray × Bool), L = [(sOrder, pb (OrdP xs)), (sConf, pb (ConfP xs)), (sUnk, pb (UnkP xs)), (sSkip, pb (SkipP xs))] := ⟨_, rfl⟩
  have HL0 : Hid (L[0]? = some (sOrder, pb (OrdP xs))) := by rw [hL]; exact rfl
  have HL1 : Hid (L[1]? = some (sConf, pb (ConfP xs))) := by rw [hL]; exact rfl
  have HL2 : Hid (L[2]? = some (sUnk, pb (UnkP xs))) := by rw [hL]; exact rfl
  have HL3 : Hid (L[3]? = some (sSkip, pb (SkipP xs))) := by rw [hL]; exact rfl
  have HLL : Hid (L.length = 4) := by rw [hL]; exact rfl
  have HLEQ := hid hL
  clear hL
  go_wp2
  go_loopw [7, 26] (fun o i wr => ∃ k : Nat, k ≤ 4 ∧ i = .int .i64 k ∧ Own repString 9 w3.heap.size wr o (outTo L k) ∧ Ext w3 wr) (fun _ i _ => 4 - (intOf i).toNat)
  case atStart => exact ⟨0, Nat.zero_le _, rfl, own_nil _ _ _ _, Below.refl _ _⟩
  case round =>
    obtain ⟨k, hk, rfl, hown, hext⟩ := hrel
    have hbr := hbk.ext hext
    have hvr := hv3.ext hext
    have hlen := outTo_len L k
    have HLEN := hid hlen
    clear hlen
    by_cases hlt : k < 4
    · have h8 : k = 0 ∨ k = 1 ∨ k = 2 ∨ k = 3 := by omega
      clear hk hlt
      rcases h8 with rfl | rfl | rfl | rfl
      · have c0 : wr.cell? ⟨g, 0, none⟩ = some (.string sOrder) := hbr.cell 0
        have c1 : wr.cell? ⟨g, 1, none⟩ = some (.func (.func 65) #[] #[]) := hbr.cell 1
        have hxb := ext_alloc wr (.cells #[.string sOrder, .func (.func 65) #[] #[]] 128)
        have hcall := order_any _ _ _ (hvr.ext hxb) HM.out
        have HC := hid hcall
        clear hcall
        go_wp2_with fail
        refine HC.out.mono ?_
        rintro r w4 ⟨b, rfl, hb, hx4⟩
        have z0 : w4.cell? ⟨wr.heap.size, 0, none⟩ = some (.string sOrder) := Ext.box hx4 0
        have hown4 := hown.ext (Ext.of_alloc hx4)
        have hext4 := Ext.trans hext (Ext.of_alloc hx4)
        have hs4 := hext4.size
        have hst := outTo_step HL0.out
        rw [pb_eq hb] at hst
        clear hb
        cases b
        · have HST := hid hst
          clear hst
          go_wp2_with (at_builtin; refine wpl_app1 (r := repString) (base := w3.heap.size) (x := sOrder) _ _ rfl rfl Try.underlying100 info_string (by decide) hown4 rfl rfl rfl rfl (by have := HLEN.out; omega) (by have := HLEN.out; simp only [maxLen]; omega) hs4 ?_; intro v5 w5 hown5 hg5)
          go_roundw
          case rel => exact ⟨1, by omega, by go_num, by rw [HST.out]; exact hown5, Below.grown hext4 hg5 hs4 (fun j hj => (hown4.lt j hj).1)⟩
          case measure => simp [intOf]
        · have HST := hid hst
          clear hst
          go_wp2
          go_roundw
          case rel => exact ⟨1, by omega, by go_num, by rw [HST.out]; simpa [keepN] using hown4, hext4⟩
          case measure => simp [intOf]
      · have c0 : wr.cell? ⟨g, 2, none⟩ = some (.string sConf) := hbr.cell 2
        have c1 : wr.cell? ⟨g, 3, none⟩ = some (.func (.func 67) #[] #[]) := hbr.cell 3
        have hxb := ext_alloc wr (.cells #[.string sConf, .func (.func 67) #[] #[]] 128)
        have hcall := confirms_any _ _ _ (hvr.ext hxb) HM.out.few
        have HC := hid hcall
        clear hcall
        go_wp2_with fail
        refine HC.out.mono ?_
        rintro r w4 ⟨b, rfl, hb, hx4⟩
        have z0 : w4.cell? ⟨wr.heap.size, 0, none⟩ = some (.string sConf) := Ext.box hx4 0
        have hown4 := hown.ext (Ext.of_alloc hx4)
        have hext4 := Ext.trans hext (Ext.of_alloc hx4)
        have hs4 := hext4.size
        have hst := outTo_step HL1.out
        rw [pb_eq hb] at hst
        clear hb
        cases b
        · have HST := hid hst
          clear hst
          go_wp2_with (at_builtin; refine wpl_app1 (r := repString) (base := w3.heap.size) (x := sConf) _ _ rfl rfl Try.underlying100 info_string (by decide) hown4 rfl rfl rfl rfl (by have := HLEN.out; omega) (by have := HLEN.out; simp only [maxLen]; omega) hs4 ?_; intro v5 w5 hown5 hg5)
          go_roundw
          case rel => exact ⟨2, by omega, by go_num, by rw [HST.out]; exact hown5, Below.grown hext4 hg5 hs4 (fun j hj => (hown4.lt j hj).1)⟩
          case measure => simp [intOf]
        · have HST := hid hst
          clear hst
          go_wp2
          go_roundw
          case rel => exact ⟨2, by omega, by go_num, by rw [HST.out]; simpa [keepN] using hown4, hext4⟩
          case measure => simp [intOf]
      · have c0 : wr.cell? ⟨g, 4, none⟩ = some (.string sUnk) := hbr.cell 4
        have c1 : wr.cell? ⟨g, 5, none⟩ = some (.func (.func 69) #[] #[]) := hbr.cell 5
        have hxb := ext_alloc wr (.cells #[.string sUnk, .func (.func 69) #[] #[]] 128)
        have hcall := unknowns_any _ _ _ (hvr.ext hxb) HM.out.few
        have HC := hid hcall
        clear hcall
        go_wp2_with fail
        refine HC.out.mono ?_
        rintro r w4 ⟨b, rfl, hb, hx4⟩
        have z0 : w4.cell? ⟨wr.heap.size, 0, none⟩ = some (.string sUnk) := Ext.box hx4 0
        have hown4 := hown.ext (Ext.of_alloc hx4)
        have hext4 := Ext.trans hext (Ext.of_alloc hx4)
        have hs4 := hext4.size
        have hst := outTo_step HL2.out
        rw [pb_eq hb] at hst
        clear hb
        cases b
        · have HST := hid hst
          clear hst
          go_wp2_with (at_builtin; refine wpl_app1 (r := repString) (base := w3.heap.size) (x := sUnk) _ _ rfl rfl Try.underlying100 info_string (by decide) hown4 rfl rfl rfl rfl (by have := HLEN.out; omega) (by have := HLEN.out; simp only [maxLen]; omega) hs4 ?_; intro v5 w5 hown5 hg5)
          go_roundw
          case rel => exact ⟨3, by omega, by go_num, by rw [HST.out]; exact hown5, Below.grown hext4 hg5 hs4 (fun j hj => (hown4.lt j hj).1)⟩
          case measure => simp [intOf]
        · have HST := hid hst
          clear hst
          go_wp2
          go_roundw
          case rel => exact ⟨3, by omega, by go_num, by rw [HST.out]; simpa [keepN] using hown4, hext4⟩
          case measure => simp [intOf]
      · have c0 : wr.cell? ⟨g, 6, none⟩ = some (.string sSkip) := hbr.cell 6
        have c1 : wr.cell? ⟨g, 7, none⟩ = some (.func (.func 64) #[] #[]) := hbr.cell 7
        have hxb := ext_alloc wr (.cells #[.string sSkip, .func (.func 64) #[] #[]] 128)
        have hcall := skips_any _ _ _ (hvr.ext hxb) HM.out
        have HC := hid hcall
        clear hcall
        go_wp2_with fail
        refine HC.out.mono ?_
        rintro r w4 ⟨b, rfl, hb, hx4⟩
        have z0 : w4.cell? ⟨wr.heap.size, 0, none⟩ = some (.string sSkip) := Ext.box hx4 0
        have hown4 := hown.ext (Ext.of_alloc hx4)
        have hext4 := Ext.trans hext (Ext.of_alloc hx4)
        have hs4 := hext4.size
        have hst := outTo_step HL3.out
        rw [pb_eq hb] at hst
        clear hb
        cases b
        · have HST := hid hst
          clear hst
          go_wp2_with (at_builtin; refine wpl_app1 (r := repString) (base := w3.heap.size) (x := sSkip) _ _ rfl rfl Try.underlying100 info_string (by decide) hown4 rfl rfl rfl rfl (by have := HLEN.out; omega) (by have := HLEN.out; simp only [maxLen]; omega) hs4 ?_; intro v5 w5 hown5 hg5)
          go_roundw
          case rel => exact ⟨4, by omega, by go_num, by rw [HST.out]; exact hown5, Below.grown hext4 hg5 hs4 (fun j hj => (hown4.lt j hj).1)⟩
          case measure => simp [intOf]
        · have HST := hid hst
          clear hst
          go_wp2
          go_roundw
          case rel => exact ⟨4, by omega, by go_num, by rw [HST.out]; simpa [keepN] using hown4, hext4⟩
          case measure => simp [intOf]
    · obtain rfl : k = 4 := by omega
      go_wp2
      go_ret
      exact ⟨_, rfl, by rw [← HLEQ.out, ← outTo_all (show L.length ≤ 4 by rw [HLL.out]; omega)]; exact hown.slice, Ext.trans hx03 hext⟩
set_option maxHeartbeats 3200000 in
theorem breaches1_any (v : Value) (xs : List Ev) (q : Int) (w : World) (h : IsSlice repEv w (all w) v xs) (hm : Mild xs) (h6 : (nums xs 6).isEmpty = true) (h5 : (nums xs 5).isEmpty = true) :
    Calls Try.prog 75 #[v, .int .i64 1, .int .i64 q] w (SomeBr (outAll [(sPrefix, pb (PrefP xs))]) w) := by
  have hl := hm.few
  have HM := hid hm
  have hcl := fun w1 (hx : Ext w w1) => clean_any v xs w1 (h.ext hx) (by omega)
  rw [h6] at hcl
  have HCL := hid hcl
  have hca := fun w1 (hx : Ext w w1) => calm_any v xs w1 (h.ext hx) (by omega)
  rw [h5] at hca
  have HCA := hid hca
  clear hca h5
  have hv := h
  clear hcl h6 hm
  obtain ⟨A0, n0, c0, rfl, _⟩ := h
  go_enter Try.func75, Try.ntmps75
  go_wp2_with fail
  refine (HCL.out _ (Below.refl _ _)).mono ?_
  rintro r w1 ⟨rfl, hx1⟩
  go_wp2_with fail
  refine (HCA.out _ hx1).mono ?_
  rintro r w2 ⟨rfl, hx2⟩
  have hx02 := Ext.trans hx1 hx2
  go_wp2_with fail
  refine (rules1_any q _).mono ?_
  rintro r w3 ⟨g, rfl, hbk, hx3⟩
  have hx03 := Ext.trans hx02 hx3
  have hv3 := hv.ext hx03
  obtain ⟨L, hL⟩ : ∃ L : List (ByteArray × Bool), L = [(sPrefix, pb (PrefP xs))] := ⟨_, rfl⟩
  have HL0 : Hid (L[0]? = some (sPrefix, pb (PrefP xs))) := by rw [hL]; exact rfl
  have HLL : Hid (L.length = 1) := by rw [hL]; exact rfl
  have HLEQ := hid hL
  clear hL
  go_wp2
  go_loopw [7, 26] (fun o i wr => ∃ k : Nat, k ≤ 1 ∧ i = .int .i64 k ∧ Own repString 9 w3.heap.size wr o (outTo L k) ∧ Ext w3 wr) (fun _ i _ => 1 - (intOf i).toNat)
  case atStart => exact ⟨0, Nat.zero_le _, rfl, own_nil _ _ _ _, Below.refl _ _⟩
  case round =>
    obtain ⟨k, hk, rfl, hown, hext⟩ := hrel
    have hbr := hbk.ext hext
    have hvr := hv3.ext hext
    have hlen := outTo_len L k
    have HLEN := hid hlen
    clear hlen
    by_cases hlt : k < 1
    · have h8 : k = 0 := by omega
      clear hk hlt
      obtain rfl := h8
      have c0 : wr.cell? ⟨g, 0, none⟩ = some (.string sPrefix) := hbr.cell 0
      have c1 : wr.cell? ⟨g, 1, none⟩ = some (.func (.func 115) #[] #[]) := hbr.cell 1
      have hxb := ext_alloc wr (.cells #[.string sPrefix, .func (.func 115) #[] #[]] 128)
      have hcall := prefixedB_any _ _ _ (hvr.ext hxb) HM.out
      have HC := hid hcall
      clear hcall
      go_wp2_with fail
      refine HC.out.mono ?_
      rintro r w4 ⟨b, rfl, hb, hx4⟩
      have z0 : w4.cell? ⟨wr.heap.size, 0, none⟩ = some (.string sPrefix) := Ext.box hx4 0
      have hown4 := hown.ext (Ext.of_alloc hx4)
      have hext4 := Ext.trans hext (Ext.of_alloc hx4)
      have hs4 := hext4.size
      have hst := outTo_step HL0.out
      rw [pb_eq hb] at hst
      clear hb
      cases b
      · have HST := hid hst
        clear hst
        go_wp2_with (at_builtin; refine wpl_app1 (r := repString) (base := w3.heap.size) (x := sPrefix) _ _ rfl rfl Try.underlying100 info_string (by decide) hown4 rfl rfl rfl rfl (by have := HLEN.out; omega) (by have := HLEN.out; simp only [maxLen]; omega) hs4 ?_; intro v5 w5 hown5 hg5)
        go_roundw
        case rel => exact ⟨1, by omega, by go_num, by rw [HST.out]; exact hown5, Below.grown hext4 hg5 hs4 (fun j hj => (hown4.lt j hj).1)⟩
        case measure => simp [intOf]
      · have HST := hid hst
        clear hst
        go_wp2
        go_roundw
        case rel => exact ⟨1, by omega, by go_num, by rw [HST.out]; simpa [keepN] using hown4, hext4⟩
        case measure => simp [intOf]
    · obtain rfl : k = 1 := by omega
      go_wp2
      go_ret
      exact ⟨_, rfl, by rw [← HLEQ.out, ← outTo_all (show L.length ≤ 1 by rw [HLL.out]; omega)]; exact hown.slice, Ext.trans hx03 hext⟩
set_option maxHeartbeats 3200000 in
theorem breaches2_any (v : Value) (xs : List Ev) (q : Int) (w : World) (h : IsSlice repEv w (all w) v xs) (hm : Mild xs) (h6 : (nums xs 6).isEmpty = true) (h5 : (nums xs 5).isEmpty = true) :
    Calls Try.prog 75 #[v, .int .i64 2, .int .i64 q] w (SomeBr (outAll [(sPrefix, pb (PrefP xs)), (sWindow, pb (WinP xs q))]) w) := by
  have hl := hm.few
  have HM := hid hm
  have hcl := fun w1 (hx : Ext w w1) => clean_any v xs w1 (h.ext hx) (by omega)
  rw [h6] at hcl
  have HCL := hid hcl
  have hca := fun w1 (hx : Ext w w1) => calm_any v xs w1 (h.ext hx) (by omega)
  rw [h5] at hca
  have HCA := hid hca
  clear hca h5
  have hv := h
  clear hcl h6 hm
  obtain ⟨A0, n0, c0, rfl, _⟩ := h
  go_enter Try.func75, Try.ntmps75
  go_wp2_with fail
  refine (HCL.out _ (Below.refl _ _)).mono ?_
  rintro r w1 ⟨rfl, hx1⟩
  go_wp2_with fail
  refine (HCA.out _ hx1).mono ?_
  rintro r w2 ⟨rfl, hx2⟩
  have hx02 := Ext.trans hx1 hx2
  go_wp2_with fail
  refine (rules2_any q _).mono ?_
  rintro r w3 ⟨g, p, rfl, hbk, hpc, hpl, hx3⟩
  have hpw : ∀ {w4}, Ext w3 w4 → ∀ o, w4.cell? ⟨p, o, none⟩ = w3.cell? ⟨p, o, none⟩ := fun h o => h.cell hpl o
  have hx03 := Ext.trans hx02 hx3
  have hv3 := hv.ext hx03
  obtain ⟨L, hL⟩ : ∃ L : List (ByteArray × Bool), L = [(sPrefix, pb (PrefP xs)), (sWindow, pb (WinP xs q))] := ⟨_, rfl⟩
  have HL0 : Hid (L[0]? = some (sPrefix, pb (PrefP xs))) := by rw [hL]; exact rfl
  have HL1 : Hid (L[1]? = some (sWindow, pb (WinP xs q))) := by rw [hL]; exact rfl
  have HLL : Hid (L.length = 2) := by rw [hL]; exact rfl
  have HLEQ := hid hL
  clear hL
  go_wp2
  go_loopw [7, 26] (fun o i wr => ∃ k : Nat, k ≤ 2 ∧ i = .int .i64 k ∧ Own repString 9 w3.heap.size wr o (outTo L k) ∧ Ext w3 wr) (fun _ i _ => 2 - (intOf i).toNat)
  case atStart => exact ⟨0, Nat.zero_le _, rfl, own_nil _ _ _ _, Below.refl _ _⟩
  case round =>
    obtain ⟨k, hk, rfl, hown, hext⟩ := hrel
    have hbr := hbk.ext hext
    have hvr := hv3.ext hext
    have hlen := outTo_len L k
    have HLEN := hid hlen
    clear hlen
    by_cases hlt : k < 2
    · have h8 : k = 0 ∨ k = 1 := by omega
      clear hk hlt
      rcases h8 with rfl | rfl
      · have c0 : wr.cell? ⟨g, 0, none⟩ = some (.string sPrefix) := hbr.cell 0
        have c1 : wr.cell? ⟨g, 1, none⟩ = some (.func (.func 115) #[] #[]) := hbr.cell 1
        have hxb := ext_alloc wr (.cells #[.string sPrefix, .func (.func 115) #[] #[]] 128)
        have hcall := prefixedB_any _ _ _ (hvr.ext hxb) HM.out
        have HC := hid hcall
        clear hcall
        go_wp2_with fail
        refine HC.out.mono ?_
        rintro r w4 ⟨b, rfl, hb, hx4⟩
        have z0 : w4.cell? ⟨wr.heap.size, 0, none⟩ = some (.string sPrefix) := Ext.box hx4 0
        have hown4 := hown.ext (Ext.of_alloc hx4)
        have hext4 := Ext.trans hext (Ext.of_alloc hx4)
        have hs4 := hext4.size
        have hst := outTo_step HL0.out
        rw [pb_eq hb] at hst
        clear hb
        cases b
        · have HST := hid hst
          clear hst
          go_wp2_with (at_builtin; refine wpl_app1 (r := repString) (base := w3.heap.size) (x := sPrefix) _ _ rfl rfl Try.underlying100 info_string (by decide) hown4 rfl rfl rfl rfl (by have := HLEN.out; omega) (by have := HLEN.out; simp only [maxLen]; omega) hs4 ?_; intro v5 w5 hown5 hg5)
          go_roundw
          case rel => exact ⟨1, by omega, by go_num, by rw [HST.out]; exact hown5, Below.grown hext4 hg5 hs4 (fun j hj => (hown4.lt j hj).1)⟩
          case measure => simp [intOf]
        · have HST := hid hst
          clear hst
          go_wp2
          go_roundw
          case rel => exact ⟨1, by omega, by go_num, by rw [HST.out]; simpa [keepN] using hown4, hext4⟩
          case measure => simp [intOf]
      · have c0 : wr.cell? ⟨g, 2, none⟩ = some (.string sWindow) := hbr.cell 2
        have c1 : wr.cell? ⟨g, 3, none⟩ = some (.func (.func 114) #[] #[.pointer (some ⟨p, 0, none⟩)]) := hbr.cell 3
        have hxb := ext_alloc wr (.cells #[.string sWindow, .func (.func 114) #[] #[.pointer (some ⟨p, 0, none⟩)]] 128)
        have hcall := rulesFn_any p q _ _ _ ((hpw (Ext.trans hext hxb) 0).trans hpc) (hvr.ext hxb) HM.out.few
        have HC := hid hcall
        clear hcall
        go_wp2_with fail
        refine HC.out.mono ?_
        rintro r w4 ⟨b, rfl, hb, hx4⟩
        have z0 : w4.cell? ⟨wr.heap.size, 0, none⟩ = some (.string sWindow) := Ext.box hx4 0
        have hown4 := hown.ext (Ext.of_alloc hx4)
        have hext4 := Ext.trans hext (Ext.of_alloc hx4)
        have hs4 := hext4.size
        have hst := outTo_step HL1.out
        rw [pb_eq hb] at hst
        clear hb
        cases b
        · have HST := hid hst
          clear hst
          go_wp2_with (at_builtin; refine wpl_app1 (r := repString) (base := w3.heap.size) (x := sWindow) _ _ rfl rfl Try.underlying100 info_string (by decide) hown4 rfl rfl rfl rfl (by have := HLEN.out; omega) (by have := HLEN.out; simp only [maxLen]; omega) hs4 ?_; intro v5 w5 hown5 hg5)
          go_roundw
          case rel => exact ⟨2, by omega, by go_num, by rw [HST.out]; exact hown5, Below.grown hext4 hg5 hs4 (fun j hj => (hown4.lt j hj).1)⟩
          case measure => simp [intOf]
        · have HST := hid hst
          clear hst
          go_wp2
          go_roundw
          case rel => exact ⟨2, by omega, by go_num, by rw [HST.out]; simpa [keepN] using hown4, hext4⟩
          case measure => simp [intOf]
    · obtain rfl : k = 2 := by omega
      go_wp2
      go_ret
      exact ⟨_, rfl, by rw [← HLEQ.out, ← outTo_all (show L.length ≤ 2 by rw [HLL.out]; omega)]; exact hown.slice, Ext.trans hx03 hext⟩
theorem isEmpty_len {α : Type} {l : List α} (h : l.isEmpty = true) : l.length = 0 := by cases l with | nil => rfl | cons _ _ => cases h
theorem notEmpty_len {α : Type} {l : List α} (h : l.isEmpty = false) : 0 < l.length := by cases l with | nil => cases h | cons _ _ => simp
set_option maxHeartbeats 3200000 in
theorem breachesR3_any (v : Value) (xs : List Ev) (q : Int) (w : World) (h : IsSlice repEv w (all w) v xs) (hm : Mild xs) (h6 : (nums xs 6).isEmpty = true) :
    Calls Try.prog 76 #[v, .int .i64 3, .int .i64 q] w (SomeBr (outAll [(sOrder, pb (OrdP xs)), (sConf, pb (ConfP xs)), (sUnk, pb (UnkP xs)), (sSkip, pb (SkipP xs))]) w) := by
  have hl := hm.few
  have HM := hid hm
  have hl6 := isEmpty_len h6
  have hnr := numbersR_any v xs 6 w h (by omega)
  have HNR := hid hnr
  have hv := h
  clear h6 hm hnr
  obtain ⟨A0, n0, c0, rfl, _⟩ := h
  obtain ⟨L, hL⟩ : ∃ L : List (ByteArray × Bool), L = [(sOrder, pb (OrdP xs)), (sConf, pb (ConfP xs)), (sUnk, pb (UnkP xs)), (sSkip, pb (SkipP xs))] := ⟨_, rfl⟩
  have HL0 : Hid (L[0]? = some (sOrder, pb (OrdP xs))) := by rw [hL]; exact rfl
  have HL1 : Hid (L[1]? = some (sConf, pb (ConfP xs))) := by rw [hL]; exact rfl
  have HL2 : Hid (L[2]? = some (sUnk, pb (UnkP xs))) := by rw [hL]; exact rfl
  have HL3 : Hid (L[3]? = some (sSkip, pb (SkipP xs))) := by rw [hL]; exact rfl
  have HLL : Hid (L.length = 4) := by rw [hL]; exact rfl
  have HLEQ := hid hL
  clear hL
  go_enter Try.func76, Try.ntmps76
  go_wp2_with fail
  refine HNR.out.mono ?_
  rintro r w1 ⟨u, rfl, hu, hx1⟩
  obtain ⟨B, cb, rfl⟩ := hu.shape
  rw [hl6]
  clear hu hl6
  have hext : Ext w1 w1 := Below.refl _ _
  have hown : Own repString 9 w1.heap.size w1 (.slice none 0 0) (outTo L 0) := own_nil _ _ _ _
  obtain ⟨wx, hwx⟩ : ∃ wx : World, wx = w1 := ⟨_, rfl⟩
  rw [← hwx]
  have hextx : Ext w1 wx := by rw [hwx]; exact hext
  clear hext hwx hown
  have hc0 := orderR_any _ _ _ (hv.ext (Ext.trans hx1 hextx)) HM.out
  have HC0 := hid hc0
  clear hc0
  go_wp2_with fail
  refine HC0.out.mono ?_
  rintro r v0 ⟨b0, rfl, hb0, hx0'⟩
  have hst0 := outTo_step HL0.out
  rw [pb_eq hb0] at hst0
  have HST0 := hid hst0
  clear hst0 hb0
  have hextv0 := Ext.trans hextx hx0'
  have hsv0 := hextv0.size
  have hlen0 := outTo_len L 0
  have HLEN0 := hid hlen0
  clear hlen0
  have hownv0 : Own repString 9 w1.heap.size v0 (.slice none 0 0) (outTo L 0) := own_nil _ _ _ _
  go_upto_if 16 with fail
  go_cut [7] (fun o wx => Own repString 9 w1.heap.size wx o (outTo L 1) ∧ Ext w1 wx)
  case first =>
    cases b0
    · go_wp2_with (at_builtin; refine wpl_app1 (r := repString) (base := w1.heap.size) (x := sOrder) _ _ rfl rfl Try.underlying100 info_string (by decide) hownv0 rfl rfl rfl rfl (by have := HLEN0.out; omega) (by have := HLEN0.out; simp only [maxLen]; omega) hsv0 ?_; intro v5 w5 hown5 hg5)
      go_meet
      exact ⟨by rw [HST0.out]; exact hown5, Below.grown hextv0 hg5 hsv0 (fun j hj => (hownv0.lt j hj).1)⟩
    · go_wp2_with fail
      go_meet
      exact ⟨by rw [HST0.out]; simpa [keepN] using hownv0, hextv0⟩
  case rest =>
  obtain ⟨hown0x, hext0x⟩ := hcut
  have hc1 := confirmsR_any _ _ _ (hv.ext (Ext.trans hx1 hext0x)) HM.out
  have HC1 := hid hc1
  clear hc1
  go_wp2_with fail
  refine HC1.out.mono ?_
  rintro r v1 ⟨b1, rfl, hb1, hx1'⟩
  have hst1 := outTo_step HL1.out
  rw [pb_eq hb1] at hst1
  have HST1 := hid hst1
  clear hst1 hb1
  have hextv1 := Ext.trans hext0x hx1'
  have hsv1 := hextv1.size
  have hlen1 := outTo_len L 1
  have HLEN1 := hid hlen1
  clear hlen1
  have hownv1 := hown0x.ext hx1'
  go_upto_if 22 with fail
  go_cut [7] (fun o wx => Own repString 9 w1.heap.size wx o (outTo L 2) ∧ Ext w1 wx)
  case first =>
    cases b1
    · go_wp2_with (at_builtin; refine wpl_app1 (r := repString) (base := w1.heap.size) (x := sConf) _ _ rfl rfl Try.underlying100 info_string (by decide) hownv1 rfl rfl rfl rfl (by have := HLEN1.out; omega) (by have := HLEN1.out; simp only [maxLen]; omega) hsv1 ?_; intro v5 w5 hown5 hg5)
      go_meet
      exact ⟨by rw [HST1.out]; exact hown5, Below.grown hextv1 hg5 hsv1 (fun j hj => (hownv1.lt j hj).1)⟩
    · go_wp2_with fail
      go_meet
      exact ⟨by rw [HST1.out]; simpa [keepN] using hownv1, hextv1⟩
  case rest =>
  obtain ⟨hown1x, hext1x⟩ := hcut
  have hc2 := unknownsR_any _ _ _ (hv.ext (Ext.trans hx1 hext1x)) HM.out.few
  have HC2 := hid hc2
  clear hc2
  go_wp2_with fail
  refine HC2.out.mono ?_
  rintro r v2 ⟨b2, rfl, hb2, hx2'⟩
  have hst2 := outTo_step HL2.out
  rw [pb_eq hb2] at hst2
  have HST2 := hid hst2
  clear hst2 hb2
  have hextv2 := Ext.trans hext1x hx2'
  have hsv2 := hextv2.size
  have hlen2 := outTo_len L 2
  have HLEN2 := hid hlen2
  clear hlen2
  have hownv2 := hown1x.ext hx2'
  go_upto_if 28 with fail
  go_cut [7] (fun o wx => Own repString 9 w1.heap.size wx o (outTo L 3) ∧ Ext w1 wx)
  case first =>
    cases b2
    · go_wp2_with (at_builtin; refine wpl_app1 (r := repString) (base := w1.heap.size) (x := sUnk) _ _ rfl rfl Try.underlying100 info_string (by decide) hownv2 rfl rfl rfl rfl (by have := HLEN2.out; omega) (by have := HLEN2.out; simp only [maxLen]; omega) hsv2 ?_; intro v5 w5 hown5 hg5)
      go_meet
      exact ⟨by rw [HST2.out]; exact hown5, Below.grown hextv2 hg5 hsv2 (fun j hj => (hownv2.lt j hj).1)⟩
    · go_wp2_with fail
      go_meet
      exact ⟨by rw [HST2.out]; simpa [keepN] using hownv2, hextv2⟩
  case rest =>
  obtain ⟨hown2x, hext2x⟩ := hcut
  have hc3 := skipsR_any _ _ _ (hv.ext (Ext.trans hx1 hext2x)) HM.out
  have HC3 := hid hc3
  clear hc3
  go_wp2_with fail
  refine HC3.out.mono ?_
  rintro r v3 ⟨b3, rfl, hb3, hx3'⟩
  have hst3 := outTo_step HL3.out
  rw [pb_eq hb3] at hst3
  have HST3 := hid hst3
  clear hst3 hb3
  have hextv3 := Ext.trans hext2x hx3'
  have hsv3 := hextv3.size
  have hlen3 := outTo_len L 3
  have HLEN3 := hid hlen3
  clear hlen3
  have hownv3 := hown2x.ext hx3'
  go_upto_if 34 with fail
  go_cut [7] (fun o wx => Own repString 9 w1.heap.size wx o (outTo L 4) ∧ Ext w1 wx)
  case first =>
    cases b3
    · go_wp2_with (at_builtin; refine wpl_app1 (r := repString) (base := w1.heap.size) (x := sSkip) _ _ rfl rfl Try.underlying100 info_string (by decide) hownv3 rfl rfl rfl rfl (by have := HLEN3.out; omega) (by have := HLEN3.out; simp only [maxLen]; omega) hsv3 ?_; intro v5 w5 hown5 hg5)
      go_meet
      exact ⟨by rw [HST3.out]; exact hown5, Below.grown hextv3 hg5 hsv3 (fun j hj => (hownv3.lt j hj).1)⟩
    · go_wp2_with fail
      go_meet
      exact ⟨by rw [HST3.out]; simpa [keepN] using hownv3, hextv3⟩
  case rest =>
  obtain ⟨hown3x, hext3x⟩ := hcut
  go_wp2
  go_ret
  exact ⟨_, rfl, by rw [← HLEQ.out, ← outTo_all (show L.length ≤ 4 by rw [HLL.out]; omega)]; exact hown3x.slice, Ext.trans hx1 hext3x⟩

end
end Go.Proofs.Ytheopadakjojkaa
