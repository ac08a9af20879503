/- The walk of judge.Skips. -/
import Derived.Deep.RegionHeld3
import Derived.Test.YtjchobncmogcpaaOrderR3x
namespace Go.Proofs.Ytjchobncmogcpaa
open Go.RowKit

/-- 'x' is the first place behind the (k - 1)'th one. -/
def NextIs (p : List Int) (k : Nat) (x : Nat) : Prop := (k = 0 ∧ x = 0) ∨ (0 < k ∧ p[k - 1]? = some ((x : Int) - 1) ∧ 0 < x)
/-- Of the first k: wherever something was left out, a station crashed. -/
def SkTo (l : List Ev) (p : List Int) (k : Nat) : Prop := ∀ (j : Nat) (a d : Int), j < k → p[j]? = some a → (nums l 2)[j]? = some d → ∀ (q : Nat) (s : Int), (j = 0 ∨ ∃ b, p[j - 1]? = some b ∧ b < q) → (q : Int) < a → (nums l 0)[q]? = some s → crB l s d (-1) = true
def SkFrom (l : List Ev) (x y : Nat) (d : Int) : Prop := ∀ (q : Nat) (s : Int), x ≤ q → q < y → (nums l 0)[q]? = some s → crB l s d (-1) = true
theorem nextIs_le {p : List Int} {k x q : Nat} (h : NextIs p k x) : (k = 0 ∨ ∃ b, p[k - 1]? = some b ∧ b < q) ↔ x ≤ q := by
  rcases h with ⟨rfl, rfl⟩ | ⟨h0, h1, h2⟩
  · simp
  · rw [h1]
    constructor
    · rintro (h | ⟨b, hb, hq⟩)
      · omega
      · injection hb with hb; omega
    · intro h; exact .inr ⟨_, rfl, by omega⟩
theorem skTo_step {l : List Ev} {p : List Int} {k x a : Nat} {d : Int} (hn : NextIs p k x) (ha : p[k]? = some (a : Int)) (hd : (nums l 2)[k]? = some d) (h : SkTo l p k) (hf : SkFrom l x a d) : SkTo l p (k + 1) := by
  intro j a' d' hj h1 h2 q s h3 h4 h5
  rcases Nat.lt_or_ge j k with hk | hk
  · exact h j a' d' hk h1 h2 q s h3 h4 h5
  · obtain rfl : j = k := by omega
    rw [ha] at h1
    rw [hd] at h2
    injection h1 with h1
    injection h2 with h2
    subst h1 h2
    exact hf q s ((nextIs_le hn).1 h3) (by omega) h5
theorem skip_no {l : List Ev} {p : List Int} {k x a q : Nat} {s d : Int} (hr : retPlaces l = some p) (hn : NextIs p k x) (ha : p[k]? = some (a : Int)) (hd : (nums l 2)[k]? = some d) (hx : x ≤ q) (hq : q < a) (hs : (nums l 0)[q]? = some s) (hc : crB l s d (-1) = false) : ¬ SkipP l := by
  rintro ⟨_, h⟩
  have := h p hr k a d ha hd q s ((nextIs_le hn).2 hx) (by omega) hs
  rw [hc] at this
  cases this
theorem getD_some {l : List Ev} {k : Nat} {a : Int} (h : ((retPlaces l).getD [])[k]? = some a) : ∃ p, retPlaces l = some p := by
  cases hr : retPlaces l with
  | none => rw [hr] at h; simp at h
  | some p => exact ⟨p, rfl⟩

set_option maxRecDepth 100000
section
set_option maxHeartbeats 1600000 in
theorem skips_any (v : Value) (xs : List Ev) (w : World) (h : IsSlice repEv w (all w) v xs) (hm : Mild xs) :
    Calls Try.prog 67 #[v] w (SomeB (SkipP xs) w) := by
  go_enter Try.func67, Try.ntmps67
  go_wp2_with fail
  refine (brought_any _ _ _ h hm).mono ?_
  rintro e w1 ⟨p, s, d, rfl, hp, hs, hd, hx1⟩
  have hv1 := h.ext hx1
  go_wp2_with fail
  refine (order_any _ _ _ hv1 hm).mono ?_
  rintro e w2 ⟨b0, rfl, hb0, hx2⟩
  have hv2 := hv1.ext hx2
  have hx12 := Ext.trans hx1 hx2
  cases b0
  · have hno : ¬ SkipP xs := fun hk => by have := hb0.2 hk.1; cases this
    have HNO := hid hno
    clear hb0 hno
    go_wp2
    go_ret
    exact ⟨false, rfl, ⟨(fun h => by cases h), fun h => absurd h HNO.out⟩, hx12⟩
  · have hord := hb0.1 rfl
    have hr0 := (ordP_iff.1 hord).1
    obtain ⟨pl, hpl⟩ : ∃ pl, retPlaces xs = some pl := by
      cases hr : retPlaces xs with
      | none => rw [hr] at hr0; cases hr0
      | some p => exact ⟨p, rfl⟩
    have HO := hid hord
    have HP := hid hpl
    have hA := places_are hpl
    have hlen := hA.len
    rw [texts_len] at hlen
    rw [show (retPlaces xs).getD [] = pl from by rw [hpl]; rfl] at hp
    obtain ⟨A, n, c, rfl, hnc, hcm, hrp⟩ := hp.ext hx2
    obtain ⟨B, m, c', rfl, hmc, hcm', hrs⟩ := hs.ext hx2
    obtain ⟨D, q, c'', rfl, hqc, hcm'', hrd⟩ := hd.ext hx2
    have hn := hrp.1
    have hms := hrs.1
    have hqd := hrd.1
    have hmax : n ≤ 9223372036854775807 := by unfold maxLen at hcm; omega
    have hmax' : m ≤ 9223372036854775807 := by unfold maxLen at hcm'; omega
    have hnq : n = q := by omega
    have HN := hid hn
    have HM := hid hms
    have HQ := hid hqd
    have HAt : ∀ k, k < n → ∃ a : Nat, pl[k]? = some (a : Int) ∧ a < m := fun k hk => by
      obtain ⟨a, h1, _, h3, _⟩ := hA.at_ k _ (List.getElem?_eq_getElem (by omega))
      rw [texts_len] at h3
      exact ⟨a, by rw [List.getElem?_eq_getElem (by omega), h1], by omega⟩
    have HAT := hid HAt
    clear hb0 hord hr0 hpl hA hlen hn hms hqd h hm HAt hv1 hp hs hd
    subst hnq
    go_wp2
    go_loopw [7, 22] (fun x i wr => ∃ (k y : Nat), k ≤ n ∧ i = .int .i64 k ∧ x = .int .i64 y ∧ y ≤ m ∧ NextIs pl k y ∧ SkTo xs pl k ∧ Ext w2 wr) (fun _ i _ => n - (intOf i).toNat)
    case atStart => exact ⟨0, 0, Nat.zero_le _, rfl, rfl, Nat.zero_le _, .inl ⟨rfl, rfl⟩, fun _ _ _ h => absurd h (by omega), Below.refl _ _⟩
    case round =>
      obtain ⟨k, y, hk, rfl, rfl, hym, hnx, hsk, hext⟩ := hrel
      by_cases hlt : k < n
      · obtain ⟨a, ha, ham⟩ := HAT.out k hlt
        obtain ⟨gb, go, a', rfl, ha', hca, _⟩ := hrp.intE hext hlt
        obtain rfl : a' = (a : Int) := by rw [ha] at ha'; injection ha' with e; exact e.symm
        have HA' := hid ha
        clear ha ha'
        have hltk : k < n := hlt
        have am := ham
        have hkk := hk
        go_wp2
        obtain ⟨wo, rfl⟩ : ∃ wo : World, wo = wr := ⟨_, rfl⟩
        obtain ⟨d, hd⟩ : ∃ d, (nums xs 2)[k]? = some d := ⟨_, List.getElem?_eq_getElem (by rw [HQ.out]; exact hltk)⟩
        have HD := hid hd
        clear hd
        go_loopw [7] (fun x wr => ∃ z : Nat, y ≤ z ∧ z ≤ m ∧ x = .int .i64 z ∧ SkFrom xs y z d ∧ Ext wo wr) (fun x _ => a - (intOf x).toNat)
        case atStart => exact ⟨y, Nat.le_refl _, hym, rfl, fun q s h1 h2 => absurd h2 (by omega), Below.refl _ _⟩
        case round =>
          obtain ⟨z, hyz, hzm, rfl, hsf, hext2⟩ := hrel
          have hex3 := Ext.trans hext hext2
          by_cases hza : z < a
          · have hzm2 : z < m := by omega
            obtain ⟨gs, os, s', rfl, hs', hcs, _⟩ := hrs.intE hex3 hzm2
            obtain ⟨gd, od, d', rfl, hd', hcd, _⟩ := hrd.intE hex3 hltk
            obtain rfl : d' = d := by rw [HD.out] at hd'; injection hd' with e; exact e.symm
            have HS := hid hs'
            clear hs' hd'
            have hbs : gs < wr.heap.size := lt_of_cell' hcs
            have hbd : gd < wr.heap.size := lt_of_cell' hcd
            have xd : Ext w2 wr.drew := Below.drew hex3
            have cs := hcs
            have cd := hcd
            obtain ⟨bc, hbc⟩ : ∃ bc, crB xs s' d' (-1) = bc := ⟨_, rfl⟩
            have HBC := hid hbc
            clear hbc
            go_wp2
            go_region_held3 (fun w' => w'.cell? ⟨gs, os + z, none⟩ = some (.int .i64 s') ∧ w'.cell? ⟨gd, od + k, none⟩ = some (.int .i64 d') ∧ Ext w2 w')
              (first | exact ⟨by assumption, by assumption, by assumption⟩)
              (first
                | (go_at_call 116; refine (crashed_any _ _ _ _ _ _ (hv2.ext (by assumption))).mono ?_; rw [HBC.out]; rintro e w3 ⟨rfl, hx3⟩; have xb3 := Ext.trans xd hx3; have c0 := (Ext.cell hx3 hbs _).trans cs; have c1 := (Ext.cell hx3 hbd _).trans cd))
            cases bc
            · go_wp2
              go_ret
              exact ⟨false, rfl, ⟨(fun h => by cases h), fun h => absurd h (skip_no HP.out hnx HA'.out HD.out hyz hza HS.out HBC.out)⟩, Ext.trans hx12 xb3⟩
            · go_wp2
              go_roundw
              case rel =>
                refine ⟨z + 1, by omega, by omega, by go_num, fun q s h1 h2 h3 => ?_, Ext.trans (Below.drew hext2) hx3⟩
                rcases Nat.lt_or_ge q z with h4 | h4
                · exact hsf q s h1 h4 h3
                · obtain rfl : q = z := by omega
                  rw [HS.out] at h3
                  injection h3 with h3
                  subst h3
                  exact HBC.out
              case measure => simp [intOf]; omega
          · go_wp2
            go_roundw
            case rel => exact ⟨k + 1, a + 1, by omega, by go_num, by go_num, by omega, .inr ⟨by omega, by rw [show k + 1 - 1 = k from rfl, HA'.out]; congr 1; omega, by omega⟩, skTo_step hnx HA'.out HD.out hsk (fun q s h1 h2 => hsf q s h1 (by omega)), hex3⟩
            case measure => simp [intOf]; omega
      · go_wp2
        go_ret
        refine ⟨true, rfl, ⟨fun _ => ⟨HO.out, fun p hp j a d h1 h2 => ?_⟩, fun _ => rfl⟩, Ext.trans hx12 hext⟩
        rw [HP.out] at hp
        injection hp with hp
        subst hp
        exact hsk j a d (by have := lt_of_get h1; have := HN.out; omega) h1 h2
end
end Go.Proofs.Ytjchobncmogcpaa
