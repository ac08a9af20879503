/- The walk of IdealDoes. -/
import Derived.Test.YtjchobncmogcpaaIdealTwo
namespace Go.Proofs.Ytjchobncmogcpaa
open Go.RowKit

set_option maxRecDepth 100000
section
set_option maxHeartbeats 2000000 in
theorem idealDoes_any (v : Value) (evs : List Ev) (lossy : Bool) (W : World) (o0 : IsSlice repEv W (all W) v evs) :
    Calls Try.prog 11 #[v, .bool lossy] W fun e w' => e = .returned (.bool true) ∧ Ext W w' := by
  have HH := hid (huge_any v evs W o0)
  have HLV := hid idealLive_any
  obtain ⟨A, n, c, rfl, hnc, hcm, hrow⟩ := id o0
  have hn := hrow.1
  cases hhg : hugeB evs with
  | true =>
    rw [hhg] at HH
    clear hrow hn o0
    go_enter Try.func11, Try.ntmps11
    go_wp2_with (first
      | (go_at_call 54; refine HH.out.mono ?_; rintro e w2 ⟨rfl, rfl⟩)
      | (go_at_call 55; refine (HLV.out _).mono ?_; rintro e w2 ⟨rfl, hx2⟩))
    go_ret
    exact ⟨rfl, hx2⟩
  | false =>
    rw [hhg] at HH
    obtain ⟨hl100, hd100⟩ := hugeB_no hhg
    have HACC := hid (fun (W1 : World) (he : Ext W W1) => accepts_any _ evs lossy W1 (o0.ext he) (by omega) (fun x hx => by have := hd100 x hx; omega))
    have HACR := hid (fun (W1 : World) (he : Ext W W1) => acceptsR_any _ evs lossy W1 (o0.ext he) (by omega) (fun x hx => by have := hd100 x hx; omega))
    obtain ⟨r1, hr1⟩ : ∃ r1, r1 = ((accI (iq0 lossy) evs 0).1 : Int) := ⟨_, rfl⟩
    obtain ⟨r2, hr2⟩ : ∃ r2, r2 = (accI (iq0 lossy) evs 0).2 := ⟨_, rfl⟩
    rw [← hr1, ← hr2] at HACC HACR
    rw [hn] at hl100
    have HN := hid hn
    have HD := hid hd100
    have HNQ := hid (newI_any lossy W)
    have HNR := hid (fun W1 => newIR_any lossy W1)
    clear hhg hr1 hr2 hn hd100
    go_enter Try.func11, Try.ntmps11
    go_wp2_with (first
      | (go_at_call 54; refine HH.out.mono ?_; rintro e w2 ⟨rfl, rfl⟩)
      | (go_at_call 56; refine HNQ.out.mono ?_; rintro e w1 ⟨gq, gm, bq, rfl, hiq, hx1, lq, lm⟩)
      | (go_at_call 57; refine (HNR.out _).mono ?_; rintro e w2 ⟨gr, br, rfl, hrq, hx2, lr⟩))
    have hqs := qs_new hx1 hx2 hiq lq lm hrq lr
    clear hiq hrq hx1 hx2 lq lm lr
    go_loopw [7] (fun i wr => ∃ (k : Nat) (s : Iq), k ≤ n ∧ i = .int .i64 k ∧ Qs W wr gq gm bq gr br s s ∧ s.Ok ∧ s.sent.length ≤ k) (fun i _ => n - (intOf i).toNat)
    case atStart => exact ⟨0, iq0 lossy, Nat.zero_le _, rfl, hqs, iq0_ok lossy, by simp [iq0]⟩
    case round =>
      clear hqs
      obtain ⟨k, s, hk, rfl, hq, hok, hsl⟩ := hrel
      have hxr := hq.ext0
      by_cases hlt : k < n
      · obtain ⟨b, off, x, A', m, c', rfl, hx, hs1, hm1, e0, e1, e2, e3⟩ := hrow.evE hxr hlt
        have hdx : x.data.length ≤ 16777216 := by have := HD.out x (List.mem_of_getElem? hx); omega
        have hbW : b < W.heap.size := by obtain ⟨b1, o1, _, _, _, _, hA, hb1, _⟩ := hrow.ev hlt; injection hA with hA; injection hA with hA _; rw [hA]; exact hb1
        have HS := hid (fun (w1 : World) (h1 : Qs W w1 gq gm bq gr br s s) => qs_step h1 hok (by omega) x.step x.kind x.place (.slice A' m c') x.data hs1 hdx)
        have HR := hid (fun (w1 : World) (h1 : Qs W w1 gq gm bq gr br (stepS s x.kind x.data) s) => qs_stepR h1 hok (by omega) x.step x.kind x.place (.slice A' m c') x.data hs1 hdx)
        have hok' := stepS_ok hok x.kind x.data
        have hsl' : (stepS s x.kind x.data).sent.length ≤ k + 1 := by have := stepS_len s x.kind x.data; omega
        generalize stepS s x.kind x.data = s' at *
        obtain ⟨bb, hbb⟩ : ∃ bb, bb = !s'.stuck := ⟨_, rfl⟩
        rw [← hbb] at HS HR
        have HE := hid (fun (w1 : World) (he : Ext W w1) => (⟨(he.cell hbW _).trans ((hxr.cell hbW _).symm.trans e0), (he.cell hbW _).trans ((hxr.cell hbW _).symm.trans e1), (he.cell hbW _).trans ((hxr.cell hbW _).symm.trans e2), (he.cell hbW _).trans ((hxr.cell hbW _).symm.trans e3), he⟩ :
          w1.cell? ⟨b, off + k * 4, none⟩ = some (.int .i64 x.step) ∧ w1.cell? ⟨b, off + k * 4 + 1, none⟩ = some (.int .i64 x.kind) ∧ w1.cell? ⟨b, off + k * 4 + 2, none⟩ = some (.int .i64 x.place) ∧ w1.cell? ⟨b, off + k * 4 + 3, none⟩ = some (.slice A' m c') ∧ Ext W w1))
        have hqd : Qs W wr.drew gq gm bq gr br s s := hq.ext (Below.drew (Below.refl _ _))
        clear hx hs1 hm1 hbb hok hsl hdx hq
        go_wp2
        go_region_held3 (fun w' => w'.cell? ⟨b, off + k * 4, none⟩ = some (.int .i64 x.step) ∧ w'.cell? ⟨b, off + k * 4 + 1, none⟩ = some (.int .i64 x.kind) ∧ w'.cell? ⟨b, off + k * 4 + 2, none⟩ = some (.int .i64 x.place) ∧ w'.cell? ⟨b, off + k * 4 + 3, none⟩ = some (.slice A' m c') ∧ Ext W w')
          (first | with_reducible exact HE.out _ hqd.ext0 | with_reducible exact HE.out _ hq2.ext0 | with_reducible exact HE.out _ hq3.ext0)
          (first
            | (go_at_call 58; refine (HS.out _ hqd).mono ?_; rintro e w2 ⟨rfl, hq2⟩)
            | (go_at_call 59; refine (HR.out _ hq2).mono ?_; rintro e w3 ⟨rfl, hq3⟩))
        all_goals
          have HP := hid (placesI_any w3 gq gm bq s' hq3.iq hok' (by omega))
          have hlen : s'.at_.length ≤ 1000 := by have := asc_len (n := s'.sent.length) (xs := s'.at_) (a := 0) hok'.asc hok'.bnd (by omega) (by omega); omega
          clear HE HS HR
          go_upto_region 9 with (first
            | (go_at_call 60; refine HP.out.mono ?_; rintro e w4 ⟨up, rfl, hup, hx4⟩; obtain ⟨Ap, cp, rfl⟩ := hup.shape))
          have hq4 := hq3.ext hx4
          obtain ⟨_, _, vr, ur, hbr, _, hur⟩ := hq4.rq
          obtain ⟨Ar, cr, rfl⟩ := hur.shape
          have cr4 := (rqCells hbr).2.2.2.2
          have hpa := hup.any
          clear hbr hup
          generalize hL : s'.at_.length = L at *
          have HL := hid hL
          clear hL
          obtain ⟨A1, n1, c1, hv1, _, _, hrp⟩ := hpa
          injection hv1 with e1 e2 e3
          subst e1 e2 e3
          obtain ⟨A1, n1, c1, hv1, _, _, hrr⟩ := hur
          injection hv1 with e1 e2 e3
          subst e1 e2 e3
          have hLb : L ≤ 1000 := hlen
          clear hlen
          go_wp2
          go_loopw [11] (fun i wd => ∃ j : Nat, j ≤ L ∧ i = .int .i64 j ∧ ∃ d, wd = w4.drewN d) (fun i _ => L - (intOf i).toNat)
          case atStart => exact ⟨0, Nat.zero_le _, rfl, 0, rfl⟩
          case round =>
            obtain ⟨j, hj, rfl, d, rfl⟩ := hrel
            by_cases hjl : j < L
            · obtain ⟨b1, o1, z, rfl, _, hz1, hc1, _⟩ := hrp.int hjl
              obtain ⟨b2, o2, z2, rfl, _, hz2, hc2, _⟩ := hrr.int hjl
              obtain rfl : z = z2 := by rw [hz1] at hz2; injection hz2
              clear hz1 hz2
              have hzz : (z != z) = false := by simp
              go_wp2
              go_quiet (fail)
              go_wp2
              go_roundw
              case rel => exact ⟨j + 1, by omega, by go_num, _, by first | exact World.drewN_drewN _ _ _ | rfl⟩
              case measure => simp [intOf]; omega
            · have hq5 : Qs W (w4.drewN d) gq gm bq gr br s' s' := hq4.ext (ext_drewN _ _)
              go_wp2
              refine ⟨⟨k + 1, s', by omega, by go_num, hq5, hok', hsl'⟩, ?_⟩
              simp [intOf]
              omega
      · have hxW := hq.ext0
        clear hq hok
        go_wp2_with (first
          | (go_at_call 61; refine (HACC.out _ hxW).mono ?_; rintro e w2 ⟨rfl, hx2⟩)
          | (go_at_call 62; refine (HACR.out _ (Ext.trans hxW hx2)).mono ?_; rintro e w3 ⟨rfl, hx3⟩)
          | (go_at_call 58; refine (stepZ_any _ _ _ _ _ _ _).mono ?_; rintro e w4 ⟨rfl, hx4⟩)
          | (go_at_call 60; refine (placesZ_any _).mono ?_; rintro e w5 ⟨rfl, rfl⟩)
          | (go_at_call 55; refine (HLV.out _).mono ?_; rintro e w6 ⟨rfl, hx6⟩))
        all_goals
          go_ret
          exact ⟨rfl, Ext.trans (Ext.trans (Ext.trans (Ext.trans hxW hx2) hx3) hx4) hx6⟩
end
end Go.Proofs.Ytjchobncmogcpaa
