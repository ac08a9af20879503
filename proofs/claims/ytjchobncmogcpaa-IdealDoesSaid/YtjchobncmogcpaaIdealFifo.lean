/- The walk of IdealFifo. -/
import Derived.Test.YtjchobncmogcpaaFifo
import Derived.Test.YtjchobncmogcpaaIdealLive
namespace Go.Proofs.Ytjchobncmogcpaa
open Go.RowKit

def wantF (evs : List Ev) (j : Nat) : Bool := preB (texts (evs.take j) 2) (texts (evs.take j) 0)
theorem info_event : ElemInfo Try.prog 119 4 48 := elemInfo (z := .agg #[.int .i64 0, .int .i64 0, .int .i64 0, .slice none 0 0]) (by kernel_rfl) rfl
set_option maxRecDepth 100000
section
set_option maxHeartbeats 1000000 in
theorem idealFifo_any (v : Value) (evs : List Ev) (W : World) (o0 : IsSlice repEv W (all W) v evs) :
    Calls Try.prog 12 #[v] W fun e w' => e = .returned (.bool true) ∧ Ext W w' := by
  have HH := hid (huge_any v evs W o0)
  have HLV := hid idealLive_any
  obtain ⟨A, n, c, rfl, hnc, hcm, hrow⟩ := id o0
  have hn := hrow.1
  cases hhg : hugeB evs with
  | true =>
    rw [hhg] at HH
    clear hrow hn o0
    go_enter Try.func12, Try.ntmps12
    go_wp2_with (first
      | (go_at_call 54; refine HH.out.mono ?_; rintro e w2 ⟨rfl, rfl⟩)
      | (go_at_call 55; refine (HLV.out _).mono ?_; rintro e w2 ⟨rfl, hx2⟩))
    go_ret
    exact ⟨rfl, hx2⟩
  | false =>
    rw [hhg] at HH
    obtain ⟨hl100, hd100⟩ := hugeB_no hhg
    have HACC := hid (fun (W1 : World) (he : Ext W W1) => accepts_any _ evs false W1 (o0.ext he) (by omega) (fun x hx => by have := hd100 x hx; omega))
    have HLAW := hid (fifo_law evs)
    obtain ⟨R, hR⟩ : ∃ R, R = accI (iq0 false) evs 0 := ⟨_, rfl⟩
    rw [← hR] at HACC HLAW
    rw [hn] at hl100
    have HN := hid hn
    have HD := hid hd100
    clear hhg hR hn hd100
    go_enter Try.func12, Try.ntmps12
    go_wp2_with (first
      | (go_at_call 54; refine HH.out.mono ?_; rintro e w2 ⟨rfl, rfl⟩))
    go_loopw [3, 4] (fun wv i wr => ∃ (k : Nat) (wb : Bool), k ≤ n + 1 ∧ i = .int .i64 k ∧ wv = .bool wb ∧ (wb = true → ∀ j, j < k → wantF evs j = true) ∧ (wb = false → ∃ j, j ≤ n ∧ wantF evs j = false) ∧ Ext W wr) (fun _ i _ => n + 1 - (intOf i).toNat)
    case atStart => exact ⟨0, true, Nat.zero_le _, rfl, rfl, fun _ j hj => absurd hj (by omega), (fun h => by cases h), Below.refl _ _⟩
    case round =>
      obtain ⟨k, wb, hk, rfl, rfl, hw1, hw0, hxr⟩ := hrel
      cases wb with
      | false =>
        have hwf : R.2 = false := by
          obtain ⟨j, hj, hjf⟩ := hw0 rfl
          cases hr : R.2 with
          | false => rfl
          | true =>
            have := HLAW.out.1 hr j (by rw [HN.out]; exact hj)
            unfold wantF at hjf
            rw [this] at hjf
            cases hjf
        have HWF := hid hwf
        clear hw1 hw0 hwf
        go_wp2_with (first
          | (go_at_call 61; refine (HACC.out _ hxr).mono ?_; rw [HWF.out]; rintro e w2 ⟨rfl, hx2⟩)
          | (go_at_call 55; refine (HLV.out _).mono ?_; rintro e w3 ⟨rfl, hx3⟩))
        all_goals
          go_ret
          exact ⟨rfl, Ext.trans (Ext.trans hxr hx2) hx3⟩
      | true =>
        by_cases hlt : k ≤ n
        · obtain ⟨A', hcut, hsc⟩ := cut_to (P := Try.prog) Try.underlying111 info_event o0 (k := k) hlt
          have hdt : ∀ x ∈ evs.take k, x.data.length ≤ 1000 := fun x hx => by have := HD.out x (List.mem_of_mem_take hx); omega
          have htl : (evs.take k).length ≤ 1000 := by rw [List.length_take]; omega
          have HO2 := hid (fun (W1 : World) (he : Ext W W1) => ofR_any _ (evs.take k) 2 W1 (hsc.ext he) htl hdt)
          have HO0 := hid (fun (W1 : World) (he : Ext W W1) => ofR_any _ (evs.take k) 0 W1 (hsc.ext he) htl hdt)
          have xd : Ext W wr.drew := Below.drew hxr
          obtain ⟨wf, hwf⟩ : ∃ wf, wf = wantF evs k := ⟨_, rfl⟩
          have HWF := hid hwf
          have HW1 := hid hw1
          clear hwf hsc hdt htl hw1 hw0 o0 hrow
          go_wp2
          go_region_law (first
            | (go_simp; go_at_call 64; refine (HO0.out _ hx2').mono ?_; rintro r w3 ⟨u0, rfl, hu0, hx3⟩; have hx3' := Ext.trans hx2' hx3; have hu0a := hu0.any; clear hu0; have hu2b := hu2a.ext hx3; dsimp only)
            | (go_simp; go_at_call 64; refine (HO2.out _ xd).mono ?_; rintro r w2 ⟨u2, rfl, hu2, hx2⟩; have hx2' := Ext.trans xd hx2; have hu2a := hu2.any; clear hu2; dsimp only)
            | (go_simp; go_at_call 63; refine (prefixR_any _ _ _ _ _ hu2b hu0a).mono ?_; rintro r w4 ⟨rfl, kd4, hw4⟩; have hx4 : Ext w3 w4 := hw4 ▸ ext_drewN _ _; clear hw4; dsimp only))
          all_goals
            go_wp2
            refine ⟨⟨k + 1, wantF evs k, by omega, by go_num, rfl, fun hwt j hj => ?_, fun hwf => ⟨k, hlt, hwf⟩, Ext.trans hx3' hx4⟩, ?_⟩
            · rcases Nat.lt_or_ge j k with h | h
              · first | exact HW1.out rfl j h | exact HW1.out trivial j h
              · obtain rfl : j = k := by omega
                exact hwt
            · simp [intOf]
              omega
        · have hwt : R.2 = true := HLAW.out.2 fun j hj => by
            have := hw1 rfl j (by rw [HN.out] at hj; omega)
            exact this
          have HWT := hid hwt
          clear hw1 hw0 hwt
          go_wp2_with (first
            | (go_at_call 61; refine (HACC.out _ hxr).mono ?_; rw [HWT.out]; rintro e w2 ⟨rfl, hx2⟩)
            | (go_at_call 55; refine (HLV.out _).mono ?_; rintro e w3 ⟨rfl, hx3⟩))
          go_ret
          exact ⟨rfl, Ext.trans (Ext.trans hxr hx2) hx3⟩
end
end Go.Proofs.Ytjchobncmogcpaa
