/- The walks of a line's words: number, kind, message. -/
import Derived.Test.YtimlbebockfioaaDoorChartW
namespace Go.Proofs.YtimlbebockfioaaDoor
open Go.RowKit

def NumOut (l : List UInt8) (n : Int) (ok : Bool) : Prop := (ok = true ∧ numC l = some n) ∨ (ok = false ∧ numC l = none)
def KindOut (l : List UInt8) (k : Int) (ok : Bool) : Prop := (ok = true ∧ kindG l = some k) ∨ (ok = false ∧ kindG l = none)
def MsgOut (l : List UInt8) (bs : List UInt8) (ok : Bool) : Prop := (ok = true ∧ msgG l = some bs) ∨ (ok = false ∧ msgG l = none)
def KindRes (l : List UInt8) (w : World) : Ending → World → Prop := fun e w' => ∃ k ok, e = .returned (.tuple #[.int .i64 k, .bool ok]) ∧ KindOut l k ok ∧ Ext w w'
theorem kindFrom_none : ∀ (s : List UInt8) (i : Nat) (l : List (List UInt8)), (∀ k, k < l.length → l.getD k [] ≠ s) → kindFrom s i l = none
  | _, _, [], _ => rfl
  | s, i, x :: r, h => by
    unfold kindFrom
    rw [if_neg (show ¬ x = s from h 0 (by simp))]
    exact kindFrom_none s (i + 1) r fun k hk => h (k + 1) (by simp; omega)
theorem kindG_none {s : List UInt8} (h : ∀ k : Nat, k < 8 → wordK (k : Int) ≠ s) : kindG s = none := by
  refine kindFrom_none s 0 wordsAll fun k hk => ?_
  have hk8 : k < 8 := hk
  have := h k hk8
  unfold wordK knownI at this
  rw [decide_eq_true (by omega), decide_eq_true (by omega)] at this
  exact this
theorem knownN {k : Nat} (h : k < 8) : knownI (k : Int) = true := by
  unfold knownI
  rw [decide_eq_true (by omega), decide_eq_true (by omega)]
  rfl
set_option maxRecDepth 100000
section
set_option maxHeartbeats 1000000 in
theorem kindOf_any (l : List UInt8) (w : World) : Calls Tryd.prog 26 #[.string (bstr l)] w (KindRes l w) := by
  obtain ⟨S, hS⟩ : ∃ S, S = bstr l := ⟨_, rfl⟩
  have hSl : S.toList = l := by rw [hS, bstr_list]
  rw [← hS]
  have HSL := hid hSl
  clear hS hSl
  have HR := hid fun (k : Nat) (hk : k < 8) => run_name (knownN hk)
  have HN := hid names_any
  obtain ⟨NA, hNA⟩ : ∃ NA, NA = namesA := ⟨_, rfl⟩
  rw [← hNA] at HN HR
  clear hNA
  go_enter Tryd.func26, Tryd.ntmps26
  go_wp2_with (go_at_call 36; refine (HN.out _).mono ?_; rintro e w2 ⟨rfl, hx2⟩)
  go_loop [7] (fun i => ∃ j : Nat, j ≤ 8 ∧ i = .int .i64 (j : Int) ∧ Wall (∀ k : Nat, k < j → wordK (k : Int) ≠ l)) (fun i => 8 - (intOf i).toNat)
  case atStart => exact ⟨0, by omega, rfl, hid fun k h => absurd h (Nat.not_lt_zero _)⟩
  case round =>
    obtain ⟨j, hj, rfl, HP⟩ := hrel
    by_cases hjl : j < 8
    · have i1 := HR.out j hjl
      obtain ⟨WK, hWK⟩ : ∃ WK, WK = bstr (wordK (j : Int)) := ⟨_, rfl⟩
      rw [← hWK] at i1
      by_cases he : wordK (j : Int) = l
      · have e0 : WK.toList = S.toList := by rw [hWK, bstr_list, HSL.out, he]
        have e1 : (WK.toList == S.toList) = true := by rw [e0]; simp
        have HK := hid (kindG_word _ (knownN hjl))
        rw [he] at HK
        clear he hWK e0
        go_wp2
        go_ret2
        exact ⟨_, _, rfl, .inl ⟨rfl, HK.out⟩, hx2⟩
      · have e0 : WK.toList ≠ S.toList := by rw [hWK, bstr_list, HSL.out]; exact he
        have e1 : (WK.toList == S.toList) = false := by rw [beq_eq_false_iff_ne]; exact e0
        have HN2 : Wall (∀ k : Nat, k < j + 1 → wordK (k : Int) ≠ l) := hid fun k hk => by
          by_cases hkj : k = j
          · subst hkj; exact he
          · exact HP.out k (by omega)
        clear he hWK e0
        go_wp2
        go_round
        case rel => exact ⟨j + 1, by omega, by go_num, HN2⟩
        case measure => simp [intOf]; omega
    · obtain rfl : j = 8 := by omega
      have HNO := hid (kindG_none HP.out)
      go_wp2
      go_ret2
      exact ⟨_, _, rfl, .inr ⟨rfl, HNO.out⟩, hx2⟩
set_option maxHeartbeats 1000000 in
theorem number_any (l : List UInt8) (w : World) (HL : Laid w) (hl : l.length ≤ 1000) : Calls Tryd.prog 25 #[.string (bstr l)] w fun e w' => ∃ n ok, e = .returned (.tuple #[.int .i64 n, .bool ok]) ∧ NumOut l n ok ∧ Ext w w' := by
  have HA := hid (HL.atoi w (Below.refl _ _) l hl)
  have HI := hid HL.itoa
  have HRG := hid ranged_any
  obtain ⟨S, hS⟩ : ∃ S, S = bstr l := ⟨_, rfl⟩
  have hSl : S.toList = l := by rw [hS, bstr_list]
  rw [← hS] at HA ⊢
  have HSL := hid hSl
  clear hS hSl HL
  go_enter Tryd.func25, Tryd.ntmps25
  go_upto_region 2 with (go_at_call 43; refine HA.out.mono ?_; rintro e w2 ⟨n, ev, rfl, hao, hx2⟩)
  rcases hao with ⟨rfl, ha⟩ | ⟨⟨te, pe, rfl⟩, ha⟩
  · by_cases hrg : rangedI n = true
    · obtain ⟨r0, r1⟩ := ranged_iff.1 hrg
      have HRN := hid (fun W => hrg ▸ HRG.out n W)
      have HIN := hid (HI.out w2 hx2 n r0 r1)
      obtain ⟨IS, hIS⟩ : ∃ IS, IS = bstr (Lib.itoa n) := ⟨_, rfl⟩
      rw [← hIS] at HIN
      by_cases he : Lib.itoa n = l
      · have e0 : IS.toList = S.toList := by rw [hIS, bstr_list, HSL.out, he]
        have e1 : (IS.toList == S.toList) = true := by rw [e0]; simp
        have HO : Wall (numC l = some n) := hid (by unfold numC; rw [ha]; simp only; rw [if_pos ⟨hrg, he⟩])
        clear he hIS e0 ha hrg HI HRG
        go_wp2_with (first
          | (go_at_call 32; refine (HRN.out _).mono ?_; rintro e w3 ⟨rfl, rfl⟩)
          | (go_at_call 35; refine HIN.out.mono ?_; rintro e w3 ⟨rfl, hx3⟩))
        go_ret2
        exact ⟨_, _, rfl, .inl ⟨rfl, HO.out⟩, Ext.trans hx2 hx3⟩
      · have e0 : IS.toList ≠ S.toList := by rw [hIS, bstr_list, HSL.out]; exact he
        have e1 : (IS.toList == S.toList) = false := by rw [beq_eq_false_iff_ne]; exact e0
        have HO : Wall (numC l = none) := hid (by unfold numC; rw [ha]; simp only; rw [if_neg (fun h => he h.2)])
        clear he hIS e0 ha hrg HI HRG
        go_wp2_with (first
          | (go_at_call 32; refine (HRN.out _).mono ?_; rintro e w3 ⟨rfl, rfl⟩)
          | (go_at_call 35; refine HIN.out.mono ?_; rintro e w3 ⟨rfl, hx3⟩))
        go_ret2
        exact ⟨_, _, rfl, .inr ⟨rfl, HO.out⟩, Ext.trans hx2 hx3⟩
    · have hrg : rangedI n = false := by simpa using hrg
      have HRN := hid (fun W => hrg ▸ HRG.out n W)
      have HO : Wall (numC l = none) := hid (by unfold numC; rw [ha]; simp only; rw [if_neg (fun h => by rw [hrg] at h; cases h.1)])
      clear ha hrg HI HRG
      go_wp2_with (go_at_call 32; refine (HRN.out _).mono ?_; rintro e w3 ⟨rfl, rfl⟩)
      go_ret2
      exact ⟨_, _, rfl, .inr ⟨rfl, HO.out⟩, hx2⟩
  · have HO : Wall (numC l = none) := hid (by
      unfold numC
      split
      · rename_i v hv; exact absurd hv (ha v)
      · rfl)
    clear ha HI HRG
    go_wp2
    go_ret2
    exact ⟨_, _, rfl, .inr ⟨rfl, HO.out⟩, hx2⟩
set_option maxHeartbeats 1000000 in
theorem message_any (l : List UInt8) (w : World) (hl : l.length ≤ 1000) : Calls Tryd.prog 27 #[.string (bstr l)] w fun e w' => ∃ u ok bs, e = .returned (.tuple #[u, .bool ok]) ∧ MsgOut l bs ok ∧ IsSlice repByte w' (fresh w w') u bs ∧ Ext w w' := by
  have HU := hid (unhex_any l w hl)
  obtain ⟨S, hS⟩ : ∃ S, S = bstr l := ⟨_, rfl⟩
  have hSl : S.toList = l := by rw [hS, bstr_list]
  rw [← hS] at HU ⊢
  clear hS
  by_cases h45 : l = [45]
  · have e0 : S.toList = [45] := by rw [hSl, h45]
    have e1 : (S.toList == [45]) = true := by rw [e0]; rfl
    have HO : Wall (msgG l = some []) := hid (by rw [h45]; rfl)
    clear hSl h45
    go_enter Tryd.func27, Tryd.ntmps27
    go_wp2
    go_ret2
    exact ⟨_, _, [], rfl, .inl ⟨rfl, HO.out⟩, isSlice_nil _ _ _, Below.refl _ _⟩
  · have e0 : S.toList ≠ [45] := by rw [hSl]; exact h45
    have e1 : (S.toList == [45]) = false := by rw [beq_eq_false_iff_ne]; exact e0
    have HM : Wall (msgG l = (match unhexL l with | some b => if b = [] then none else some b | none => none)) := hid (by unfold msgG; rw [if_neg h45]; rfl)
    clear hSl h45
    go_enter Tryd.func27, Tryd.ntmps27
    go_upto_region 4 with (go_at_call 44; refine HU.out.mono ?_; rintro e w2 ⟨u, ok, bs, rfl, huo, hsl, hx2⟩)
    obtain ⟨A, c, rfl⟩ := hsl.shape
    rcases huo with ⟨rfl, hu⟩ | ⟨rfl, hu, rfl⟩
    · by_cases hb : bs = []
      · subst hb
        have HO : Wall (msgG l = none) := hid (by rw [HM.out, hu]; rfl)
        have HS := hid hsl
        clear hu hsl HM
        simp only [List.length_nil]
        go_wp2
        go_ret2
        exact ⟨_, _, [], rfl, .inr ⟨rfl, HO.out⟩, HS.out, hx2⟩
      · have HO : Wall (msgG l = some bs) := hid (by rw [HM.out, hu]; simp only; rw [if_neg hb])
        have hbl : 0 < bs.length := List.length_pos_iff.2 hb
        have HS := hid hsl
        obtain ⟨bl, hbl2⟩ : ∃ bl, bl = bs.length := ⟨_, rfl⟩
        rw [← hbl2] at HS hbl ⊢
        clear hu hsl HM hbl2 hb
        go_wp2
        go_ret2
        exact ⟨_, _, bs, rfl, .inl ⟨rfl, HO.out⟩, HS.out, hx2⟩
    · have HO : Wall (msgG l = none) := hid (by rw [HM.out, hu])
      have HS := hid hsl
      clear hu hsl HM
      simp only [List.length_nil]
      go_wp2
      go_ret2
      exact ⟨_, _, [], rfl, .inr ⟨rfl, HO.out⟩, HS.out, hx2⟩
end
end Go.Proofs.YtimlbebockfioaaDoor
