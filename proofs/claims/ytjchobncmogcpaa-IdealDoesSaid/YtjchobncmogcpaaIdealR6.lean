/- The walk of the reference's Accepts. -/
import Derived.Test.YtjchobncmogcpaaIdealR5
namespace Go.Proofs.Ytjchobncmogcpaa
open Go.RowKit

set_option maxRecDepth 100000
section
set_option maxHeartbeats 1000000 in
theorem acceptsR_any (v : Value) (evs : List Ev) (lossy : Bool) (W : World) (o1 : IsSlice repEv W (all W) v evs) (hl : evs.length ≤ 800) (hd : ∀ x ∈ evs, x.data.length ≤ 16777216) :
    Calls Try.prog 62 #[v, .bool lossy] W fun e w' => e = .returned (.tuple #[.int .i64 ((accI (iq0 lossy) evs 0).1 : Int), .bool (accI (iq0 lossy) evs 0).2]) ∧ Ext W w' := by
  obtain ⟨A, n, c, rfl, hnc, hcm, hrow⟩ := o1
  have hn := hrow.1
  have HN := hid hn
  rw [hn] at hl
  have HNW := hid (newIR_any lossy W)
  obtain ⟨R, hR⟩ : ∃ R, R = accI (iq0 lossy) evs 0 := ⟨_, rfl⟩
  rw [← hR]
  have HR := hid hR
  have HD := hid hd
  clear hn hR hd
  go_enter Try.func62, Try.ntmps62
  go_wp2_with (go_at_call 57; refine HNW.out.mono ?_; rintro e w1 ⟨gr, base, rfl, hq1, hx1, hgq⟩)
  go_loopw [7] (fun i wr => ∃ (k : Nat) (s : Iq), k ≤ n ∧ i = .int .i64 k ∧ RqAt wr gr base s ∧ s.Ok ∧ s.sent.length ≤ k ∧ accI s (evs.drop k) k = R ∧ Ext W wr) (fun i _ => n - (intOf i).toNat)
  case atStart => exact ⟨0, iq0 lossy, Nat.zero_le _, rfl, hq1, iq0_ok lossy, by simp [iq0], by rw [HR.out]; rfl, hx1⟩
  case round =>
    obtain ⟨k, s, hk, rfl, hq, hok, hsl, hacc, hxr⟩ := hrel
    by_cases hlt : k < n
    · obtain ⟨b, off, x, A', m, c', rfl, hx, hs1, hm1, e0, e1, e2, e3⟩ := hrow.evE hxr hlt
      have hdx : evs.drop k = x :: evs.drop (k + 1) := by rw [List.drop_eq_getElem_cons (by rw [HN.out]; exact hlt)]; congr 1; exact (List.getElem?_eq_some_iff.1 hx).2
      rw [hdx] at hacc
      unfold accI at hacc
      have hxd := HD.out x (List.mem_of_getElem? hx)
      have hsv := hs1.ext hxr
      have HSTP := hid (stepR_any wr gr base s hq hok (by omega) x.step x.kind x.place _ x.data hsv hxd)
      have hok2 := stepS_ok hok x.kind x.data
      have hln2 := stepS_len s x.kind x.data
      obtain ⟨S2, hS2⟩ : ∃ S2, S2 = stepS s x.kind x.data := ⟨_, rfl⟩
      rw [← hS2] at hacc HSTP hok2 hln2
      have HACC := hid hacc
      clear hS2 hacc hdx hx hxd hm1
      generalize x.step = xs at *
      generalize x.kind = xk at *
      generalize x.place = xp at *
      cases hst : S2.stuck with
      | true =>
        rw [hst] at HSTP
        rw [hst, if_pos rfl] at HACC
        go_wp2_with (first
          | (go_at_call 59; refine HSTP.out.mono ?_; rintro e w2 ⟨rfl, hq2, hlow2⟩))
        go_ret2
        rw [← HACC.out]
        have hx2 : Ext W w2 := ⟨hlow2.os.trans hxr.os, hlow2.tape.trans hxr.tape, hlow2.output.trans hxr.output, Nat.le_trans hxr.size hlow2.size, fun b hb => (hlow2.block b (by omega)).trans (hxr.block b hb)⟩
        exact ⟨rfl, hx2⟩
      | false =>
        rw [hst] at HSTP
        rw [hst, if_neg (by simp)] at HACC
        go_wp2_with (first
          | (go_at_call 59; refine HSTP.out.mono ?_; rintro e w2 ⟨rfl, hq2, hlow2⟩))
        have hx2 : Ext W w2 := ⟨hlow2.os.trans hxr.os, hlow2.tape.trans hxr.tape, hlow2.output.trans hxr.output, Nat.le_trans hxr.size hlow2.size, fun b hb => (hlow2.block b (by omega)).trans (hxr.block b hb)⟩
        refine ⟨⟨k + 1, S2, by omega, by go_num, hq2, hok2, by omega, HACC.out, hx2⟩, ?_⟩
        simp [intOf]
        omega
    · obtain rfl : k = n := by omega
      have hdn : evs.drop k = [] := List.drop_of_length_le (by rw [HN.out]; exact Nat.le_refl _)
      rw [hdn] at hacc
      have hR2 : R = (k, true) := hacc.symm
      have HR2 := hid hR2
      clear hacc hR2 hdn
      go_wp2
      go_ret2
      rw [HR2.out]
      exact ⟨rfl, hxr⟩
end
end Go.Proofs.Ytjchobncmogcpaa
