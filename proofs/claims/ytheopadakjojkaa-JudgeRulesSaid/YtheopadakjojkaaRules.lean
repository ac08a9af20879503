/- The walks of the reference's Confirms, Unknowns; of Window on both sides. -/
import Derived.Test.YtheopadakjojkaaConfirms
namespace Go.Proofs.Ytheopadakjojkaa
open Go.RowKit

def EachTo (l : List Ev) (kind : Int) (A : Nat → Nat → Prop) (k : Nat) : Prop := ∀ (i : Nat) (x : Ev), i < k → l[i]? = some x → x.kind = kind → OkAt l A i
theorem eachTo_step {l : List Ev} {kind : Int} {A : Nat → Nat → Prop} {k : Nat} {x : Ev} (hx : l[k]? = some x) (h : EachTo l kind A k) (ho : x.kind = kind → OkAt l A k) : EachTo l kind A (k + 1) := by
  intro i y hi hy hk
  rcases Nat.lt_or_ge i k with h1 | h1
  · exact h i y h1 hy hk
  · obtain rfl : i = k := by omega
    rw [hx] at hy
    injection hy with e
    subst e
    exact ho hk
theorem eachTo_all {l : List Ev} {kind : Int} {A : Nat → Nat → Prop} {k : Nat} (hk : l.length ≤ k) (h : EachTo l kind A k) : EachP l kind A := fun i x hx => h i x (by have := lt_of_get hx; omega) hx
theorem texts_at {l : List Ev} {kind : Int} {p s : Nat} {y : Ev} (hs : (nums l kind)[p]? = some (s : Int)) (hy : l[s]? = some y) : (texts l kind)[p]? = some y.data := by
  unfold texts
  rw [List.getElem?_map, hs]
  simp [dataAt_nat hy]
/-- Of the first k events one has that text, and was returned. -/
def HasTo (l : List Ev) (d : List UInt8) (k : Nat) : Prop := ∃ (j : Nat) (x : Ev), j < k ∧ l[j]? = some x ∧ RetD d x
theorem hasTo_step {l : List Ev} {d : List UInt8} {k : Nat} {x : Ev} (hx : l[k]? = some x) : HasTo l d (k + 1) ↔ HasTo l d k ∨ RetD d x := by
  constructor
  · rintro ⟨j, y, hj, hy, hr⟩
    rcases Nat.lt_or_ge j k with h1 | h1
    · exact .inl ⟨j, y, h1, hy, hr⟩
    · obtain rfl : j = k := by omega
      rw [hx] at hy
      injection hy with e
      subst e
      exact .inr hr
  · rintro (⟨j, y, hj, hy, hr⟩ | hr)
    · exact ⟨j, y, by omega, hy, hr⟩
    · exact ⟨k, x, by omega, hx, hr⟩
theorem confA_to {l : List Ev} {i s : Nat} {y : Ev} (hy : l[s]? = some y) : ConfA l i s ↔ HasTo l y.data i := by
  constructor
  · rintro ⟨j, x, y', hj, hx, hk, hy', hd⟩
    rw [hy] at hy'
    injection hy' with e
    subst e
    exact ⟨j, x, hj, hx, hk, hd⟩
  · rintro ⟨j, x, hj, hx, hk, hd⟩
    exact ⟨j, x, y, hj, hx, hk, hy, hd⟩

/-- Nothing of the first k was sent too far ahead. -/
def WinTo (l : List Ev) (w : Int) (k : Nat) : Prop := ∀ (i : Nat) (x : Ev), i < k → l[i]? = some x → x.kind = 7 → w ≤ x.place → wrap64 (x.place - w) < ((nums (l.take i) 1).length : Int)
def WinP (l : List Ev) (w : Int) : Prop := WinTo l w l.length
theorem winTo_step {l : List Ev} {w : Int} {k : Nat} {x : Ev} (hx : l[k]? = some x) (h : WinTo l w k) (ho : x.kind = 7 → w ≤ x.place → wrap64 (x.place - w) < ((nums (l.take k) 1).length : Int)) : WinTo l w (k + 1) := by
  intro i y hi hy hk hp
  rcases Nat.lt_or_ge i k with h1 | h1
  · exact h i y h1 hy hk hp
  · obtain rfl : i = k := by omega
    rw [hx] at hy
    injection hy with e
    subst e
    exact ho hk hp
theorem win_no {l : List Ev} {w : Int} {k : Nat} {x : Ev} (hx : l[k]? = some x) (h1 : x.kind = 7) (h2 : w ≤ x.place) (h3 : ((nums (l.take k) 1).length : Int) ≤ wrap64 (x.place - w)) : ¬ WinP l w := fun h => by
  have := h k x (lt_of_get hx) hx h1 h2
  omega
theorem numsTake_len {l : List Ev} {kind : Int} {k : Nat} {x : Ev} (hx : l[k]? = some x) : (nums (l.take (k + 1)) kind).length = (nums (l.take k) kind).length + if x.kind = kind then 1 else 0 := by
  rw [nums_step kind hx, List.length_append]
  split <;> rfl

set_option maxRecDepth 100000
section
set_option maxHeartbeats 1600000 in
theorem unknownsR_any (v : Value) (xs : List Ev) (w : World) (h : IsSlice repEv w (all w) v xs) (hl : xs.length ≤ 100) :
    Calls Try.prog 70 #[v] w (SomeB (UnkP xs) w) := by
  have hv := h
  obtain ⟨A, n, c, rfl, hnc, hcm, hrow⟩ := h
  have hn := hrow.1
  have hmax : n ≤ 100 := by omega
  have HN := hid hn
  go_enter Try.func70, Try.ntmps70
  go_wp2_with fail
  refine (numbersR_any _ _ _ _ hv (by omega)).mono ?_
  rintro e w1 ⟨s, rfl, hs, hx1⟩
  obtain ⟨B, m, c', rfl, hmc, hcm', hrs⟩ := hs.any
  have hms := hrs.1
  have hmaxm : m ≤ 9223372036854775807 := by unfold maxLen at hcm'; omega
  have HM := hid hms
  clear hn hms hs hl
  go_wp2
  go_loopw [4] (fun i wr => ∃ k : Nat, k ≤ n ∧ i = .int .i64 k ∧ EachTo xs 4 (UnkA xs) k ∧ Ext w1 wr) (fun i _ => n - (intOf i).toNat)
  case atStart => exact ⟨0, Nat.zero_le _, rfl, fun _ _ h => absurd h (by omega), Below.refl _ _⟩
  case round =>
    obtain ⟨k, hk, rfl, hE, hext⟩ := hrel
    have HE := hid hE
    clear hE
    have hwr := Ext.trans hx1 hext
    by_cases hlt : k < n
    · obtain ⟨be, oe, x, A', mm, cc, rfl, hx, hd, hdl, e0, e1, e2, e3⟩ := hrow.evE hwr hlt
      have HX := hid hx
      generalize hkd : x.kind = kd at *
      generalize hpl : x.place = pl at *
      have HKD := hid hkd
      have HPL := hid hpl
      clear hx hd hdl hkd hpl e0 e3
      by_cases hk4 : kd = 4
      · subst hk4
        by_cases hneg : pl < 0
        · go_wp2
          go_ret
          exact ⟨false, rfl, ⟨(fun h => by cases h), fun h => absurd (h k x HX.out HKD.out) (okAt_neg HX.out (by rw [HPL.out]; exact hneg))⟩, hwr⟩
        · by_cases hfar : (m : Int) ≤ pl
          · go_wp2
            go_ret
            exact ⟨false, rfl, ⟨(fun h => by cases h), fun h => absurd (h k x HX.out HKD.out) (okAt_far HX.out (by rw [HPL.out, HM.out]; exact hfar))⟩, hwr⟩
          · obtain ⟨p, rfl⟩ : ∃ p : Nat, pl = (p : Int) := ⟨pl.toNat, by omega⟩
            have hpm : p < m := by omega
            obtain ⟨gs, os, s0, rfl, hs, hcs, _⟩ := hrs.intE hext hpm
            obtain ⟨s, es, rfl, hes, hek⟩ := nums_at hs
            have hsk : s ≠ k := fun e => by
              subst e
              rw [HX.out] at hes
              injection hes with e
              subst e
              rw [HKD.out] at hek
              cases hek
            have HOK := hid (okAt_iff (A := UnkA xs) HX.out HPL.out hs)
            have hcr := crashedR_any _ xs s k 1 wr (hv.ext hwr)
            obtain ⟨bc, hbc⟩ : ∃ bc, crB xs s k 1 = bc := ⟨_, rfl⟩
            rw [hbc] at hcr
            have HC := hid hcr
            have HB := hid hbc
            have HUA : Hid (UnkA xs k s ↔ s < k ∧ bc = true) := by
              show _ ↔ _
              unfold UnkA
              rw [hbc]
            clear hs hes hek hcr hbc
            by_cases hsgt : k < s
            · have hb1 : decide ((k : Int) < (s : Int)) = true := decide_eq_true (by omega)
              go_wp2
              go_ret
              exact ⟨false, rfl, ⟨(fun h => by cases h), fun h => absurd (HOK.out.1 (h k x HX.out HKD.out)) (fun h => by have := (HUA.out.1 h).1; omega)⟩, hwr⟩
            · have hb1 : decide ((k : Int) < (s : Int)) = false := decide_eq_false (by omega)
              go_wp2_with fail
              refine HC.out.mono ?_
              rintro r w2 ⟨rfl, hx2⟩
              cases bc
              · go_wp2
                go_ret
                exact ⟨false, rfl, ⟨(fun h => by cases h), fun h => absurd (HOK.out.1 (h k x HX.out HKD.out)) (fun h => by have := (HUA.out.1 h).2; cases this)⟩, Ext.trans hwr hx2⟩
              · go_wp2
                go_roundw
                case rel => exact ⟨k + 1, by omega, by go_num, eachTo_step HX.out HE.out (fun _ => HOK.out.2 (HUA.out.2 ⟨by omega, by first | rfl | trivial⟩)), Ext.trans hext hx2⟩
                case measure => simp [intOf]; omega
      · have hkb : (kd != 4) = true := by simpa using hk4
        go_wp2
        go_roundw
        case rel => exact ⟨k + 1, by omega, by go_num, eachTo_step HX.out HE.out (fun h => absurd (HKD.out ▸ h) hk4), hext⟩
        case measure => simp [intOf]; omega
    · go_wp2
      go_ret
      exact ⟨true, rfl, ⟨fun _ => eachTo_all (by have := HN.out; omega) HE.out, fun _ => rfl⟩, hwr⟩

set_option maxHeartbeats 1600000 in
theorem confirmsR_any (v : Value) (xs : List Ev) (w : World) (h : IsSlice repEv w (all w) v xs) (hm : Mild xs) :
    Calls Try.prog 68 #[v] w (SomeB (ConfP xs) w) := by
  have hv := h
  have hl := hm.few
  have HDD := hid hm.data
  obtain ⟨A, n, c, rfl, hnc, hcm, hrow⟩ := h
  have hn := hrow.1
  have hmax : n ≤ 100 := by omega
  have HN := hid hn
  clear hm
  go_enter Try.func68, Try.ntmps68
  go_wp2_with fail
  refine (ofR_any _ _ _ _ hv (by omega) HDD.out).mono ?_
  rintro e w1 ⟨s, rfl, hs, hx1⟩
  obtain ⟨B, m, c', rfl, hmc, hcm', hrs⟩ := hs.any
  have hms := hrs.1
  rw [texts_len] at hms
  have hmaxm : m ≤ 9223372036854775807 := by unfold maxLen at hcm'; omega
  have HM := hid hms
  clear hn hms hs hl
  go_wp2
  go_loopw [4] (fun i wr => ∃ k : Nat, k ≤ n ∧ i = .int .i64 k ∧ EachTo xs 3 (ConfA xs) k ∧ Ext w1 wr) (fun i _ => n - (intOf i).toNat)
  case atStart => exact ⟨0, Nat.zero_le _, rfl, fun _ _ h => absurd h (by omega), Below.refl _ _⟩
  case round =>
    obtain ⟨k, hk, rfl, hE, hext⟩ := hrel
    have HE := hid hE
    clear hE
    have hwr := Ext.trans hx1 hext
    by_cases hlt : k < n
    · obtain ⟨be, oe, x, A', mm, cc, rfl, hx, hd, hdl, e0, e1, e2, e3⟩ := hrow.evE hwr hlt
      have HX := hid hx
      generalize hkd : x.kind = kd at *
      generalize hpl : x.place = pl at *
      have HKD := hid hkd
      have HPL := hid hpl
      clear hx hd hdl hkd hpl e0 e3
      by_cases hk3 : kd = 3
      · subst hk3
        by_cases hneg : pl < 0
        · go_wp2
          go_ret
          exact ⟨false, rfl, ⟨(fun h => by cases h), fun h => absurd (h k x HX.out HKD.out) (okAt_neg HX.out (by rw [HPL.out]; exact hneg))⟩, hwr⟩
        · by_cases hfar : (m : Int) ≤ pl
          · go_wp2
            go_ret
            exact ⟨false, rfl, ⟨(fun h => by cases h), fun h => absurd (h k x HX.out HKD.out) (okAt_far HX.out (by rw [HPL.out, HM.out]; exact hfar))⟩, hwr⟩
          · obtain ⟨p, rfl⟩ : ∃ p : Nat, pl = (p : Int) := ⟨pl.toNat, by omega⟩
            have hpm : p < m := by omega
            obtain ⟨s0, hs0⟩ : ∃ s0, (nums xs 0)[p]? = some s0 := ⟨_, List.getElem?_eq_getElem (by rw [HM.out]; exact hpm)⟩
            obtain ⟨s, y, rfl, hy, hyk⟩ := nums_at hs0
            have HOK := hid (okAt_iff (A := ConfA xs) HX.out HPL.out hs0)
            have HTX := hid (texts_at hs0 hy)
            have HCA := hid (confA_to (i := k) hy)
            clear hs0 hy hyk
            have hkn : k < n := hlt
            go_wp2
            obtain ⟨wo, rfl⟩ : ∃ wo : World, wo = wr := ⟨_, rfl⟩
            go_loopw [6, 7] (fun b i wr => ∃ (q : Nat) (bb : Bool), q ≤ k ∧ i = .int .i64 q ∧ b = .bool bb ∧ Says bb (HasTo xs y.data q) ∧ Ext wo wr) (fun _ i _ => k - (intOf i).toNat)
            case atStart => exact ⟨0, false, Nat.zero_le _, rfl, rfl, (⟨(fun h => by cases h), fun ⟨j, _, h, _⟩ => absurd h (by omega)⟩ : _ ↔ _), Below.refl _ _⟩
            case round =>
              obtain ⟨q, bb, hq, rfl, rfl, hb, hext2⟩ := hrel
              have HB := hid hb
              clear hb
              have hw3 := Ext.trans hwr hext2
              have hw4 := Ext.trans hext hext2
              by_cases hqk : q < k
              · have hqn : q < n := by omega
                obtain ⟨b2, o2, z, Z', zm, zc, hbo, hz, hzd, hzl, z0, z1, z2, z3⟩ := hrow.evE hw3 hqn
                simp only [Option.some.injEq, Addr.mk.injEq, and_true] at hbo
                obtain ⟨rfl, rfl⟩ := hbo
                have HZ := hid (hasTo_step (d := y.data) hz)
                obtain ⟨gt, ot, T', tm, tc, t, rfl, ht, hts, htl, tc0⟩ := hrs.sliceE hw4 hpm
                rw [HTX.out] at ht
                injection ht with ht
                subst ht
                have hzs := hzd.ext hw3
                have hts' := hts.ext hw4
                have hsq := fun k => sameB_any _ _ _ _ _ (hzs.ext (ext_drewN wr k)) (hts'.ext (ext_drewN wr k))
                obtain ⟨qq, hqq⟩ : ∃ qq : Bool, decide (z.data = y.data) = qq := ⟨_, rfl⟩
                rw [hqq] at hsq
                have HSQ := hid hsq
                have HQQ := hid hqq
                generalize hzk : z.kind = zk at *
                have HZK := hid hzk
                clear hz hzd hzl hts htl hzs hts' hsq hqq hzk z0 z2
                have hq64 : (q : Int) + 1 ≤ 9223372036854775807 := by omega
                cases bb
                · by_cases hz2 : zk = 2
                  · subst hz2
                    go_wp2
                    go_quiet ((first | (go_at_call 51; exact Calls.quiet_of (HSQ.out _))))
                    go_wp2
                    go_roundw
                    case rel =>
                      refine ⟨q + 1, qq, by omega, by go_num, rfl, ?_, below_drewN hext2 _⟩
                      unfold Says
                      rw [HZ.out]
                      unfold RetD
                      rw [← HQQ.out, decide_eq_true_iff]
                      exact ⟨fun h => .inr ⟨HZK.out, h⟩, fun h => h.elim (fun h => by have := HB.out.out.2 h; cases this) (fun h => h.2)⟩
                    case measure => simp [intOf]; omega
                  · have hz2b : (zk == 2) = false := by simpa using hz2
                    go_wp2
                    go_quiet (fail)
                    go_wp2
                    go_roundw
                    case rel =>
                      refine ⟨q + 1, false, by omega, by go_num, rfl, ?_, below_drewN hext2 _⟩
                      unfold Says
                      rw [HZ.out]
                      exact ⟨(fun h => by cases h), fun h => h.elim (fun h => HB.out.out.2 h) (fun h => absurd (HZK.out ▸ h.1) hz2)⟩
                    case measure => simp [intOf]; omega
                · go_wp2
                  go_quiet (fail)
                  go_wp2
                  go_roundw
                  case rel => exact ⟨q + 1, true, by omega, by go_num, rfl, (⟨fun _ => HZ.out.2 (.inl (HB.out.out.1 rfl)), fun _ => rfl⟩ : _ ↔ _), below_drewN hext2 _⟩
                  case measure => simp [intOf]; omega
              · obtain rfl : q = k := by omega
                cases bb
                · go_wp2
                  go_ret
                  exact ⟨false, rfl, ⟨(fun h => by cases h), fun h => absurd (HCA.out.1 (HOK.out.1 (h q x HX.out HKD.out))) (fun h => by have := HB.out.out.2 h; cases this)⟩, hw3⟩
                · go_wp2
                  go_roundw
                  case rel => exact ⟨q + 1, by omega, by go_num, eachTo_step HX.out HE.out (fun _ => HOK.out.2 (HCA.out.2 (HB.out.out.1 rfl))), hw4⟩
                  case measure => simp [intOf]; omega
      · have hkb : (kd != 3) = true := by simpa using hk3
        go_wp2
        go_roundw
        case rel => exact ⟨k + 1, by omega, by go_num, eachTo_step HX.out HE.out (fun h => absurd (HKD.out ▸ h) hk3), hext⟩
        case measure => simp [intOf]; omega
    · go_wp2
      go_ret
      exact ⟨true, rfl, ⟨fun _ => eachTo_all (by have := HN.out; omega) HE.out, fun _ => rfl⟩, hwr⟩
end
end Go.Proofs.Ytheopadakjojkaa
