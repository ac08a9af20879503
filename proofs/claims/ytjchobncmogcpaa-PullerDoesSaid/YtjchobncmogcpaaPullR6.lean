/- The puller's reference: Receive. -/
import Derived.Test.YtjchobncmogcpaaPullR5
import Derived.Test.YtjchobncmogcpaaRecv
namespace Go.Proofs.Ytjchobncmogcpaa
open Go.RowKit

set_option maxRecDepth 100000
section
theorem recvRNil_any (w : World) (gn gr : Nat) (c : Cfg) (s : Pu) (h : PrAt w gn gr c s) (hq : s.q = []) :
    Calls Try.prog 26 #[.pointer (some ⟨gr, 0, none⟩)] w fun e w' => e = .returned (.tuple #[.slice none 0 0, .slice none 0 0, .bool false]) ∧ w = w' := by
  obtain ⟨hlt0, qv, lv, hb, hbn, hown, hl⟩ := h
  rw [hq] at hown
  have HP := hid (popNilR_any w gn (gr + 1) c.room qv hbn hown)
  obtain ⟨_, _, c7, _, _, _, _, _, _⟩ := prCellsAt hb
  clear hb hbn hown hl hq
  go_enter Try.func26, Try.ntmps26
  go_wp2_with (go_at_call 84; refine HP.out.mono ?_; rintro e w2 ⟨rfl, rfl⟩)
  exact bodyPost_ret (results3 rfl _ _ _) rfl ⟨rfl, rfl⟩
set_option maxHeartbeats 2000000 in
theorem recvR_any (w : World) (gn gr : Nat) (c : Cfg) (s : Pu) (h : PrAt w gn gr c s) (hc : c.Ok) (hok : PuOk c s) (hs : s.ent ≤ 100000) (hret : s.ret ≤ 100000) (x : List UInt8) (s' : Pu) (hrec : recvS c.room.toNat s = some (x, s')) :
    Calls Try.prog 26 #[.pointer (some ⟨gr, 0, none⟩)] w fun e w' => ∃ u v, e = .returned (.tuple #[u, v, .bool true]) ∧ IsSlice repByte w' (fun b => gr < b ∧ b < w'.heap.size) u x ∧ IsSlice repSl w' (fresh w w') v (recvTell c s s') ∧ PrAt w' gn gr c s' ∧ Below gn w w' := by
  obtain ⟨q, hq, hs'⟩ : ∃ q, s.q = x :: q ∧ s' = enterS c.room.toNat ⟨s.ent, s.ret + 1, q, s.ah⟩ := by
    unfold recvS at hrec
    cases hq : s.q with
    | nil => rw [hq] at hrec; cases hrec
    | cons y q =>
      rw [hq] at hrec
      injection hrec with hrec
      injection hrec with e1 e2
      exact ⟨q, by rw [e1], e2.symm⟩
  have hok1 : PuOk c ⟨s.ent, s.ret + 1, q, s.ah⟩ := by
    have hcp := hok.cap
    rw [hq, List.length_cons] at hcp
    exact ⟨hok.asc, hok.bnd, by simp only; push_cast at hcp; omega, fun z hz => hok.short z (by rw [hq]; simp [hz])⟩
  have hok2 : PuOk c s' := by rw [hs']; exact enterS_ok hok1 hc.r1
  have hen := enterS_ent c.room.toNat ⟨s.ent, s.ret + 1, q, s.ah⟩
  rw [← hs'] at hen
  simp only at hen
  have hr1 := hc.r1
  have hr2 := hc.r2
  have hcap := hok.cap
  have hal := hok.ahLen hc
  obtain ⟨hlt0, qv, lv, hb, hbn, hown, hl⟩ := h
  rw [hq] at hown hcap
  have hql : q.length ≤ 100 := by simp only [List.length_cons] at hcap; push_cast at hcap; omega
  have hgr := hb.lt
  have HPOP := hid (popR_any w gn (gr + 1) c.room qv x q hbn hown (by omega) (by omega) (fun y hy => hok.short y (by rw [hq]; exact hy)) hql)
  have HEN := hid (fun (W : World) (hW : PrAt W gn gr c ⟨s.ent, s.ret + 1, q, s.ah⟩) (hqb : QB W gn c.room w.heap.size) (hBs : w.heap.size ≤ W.heap.size) => enterR_any W gn gr c ⟨s.ent, s.ret + 1, q, s.ah⟩ hW hc hok1 (by simp only; omega) (by simp only; omega) w.heap.size hqb hBs)
  rw [← hs'] at HEN
  have HTL := hid (fun (W : World) (hW : PrAt W gn gr c s') => tellsR_any W gn gr c s' hW hc hok2 (by omega))
  have HRT : Wall (recvTell c s s' = if s.ent < s'.ent then [tellS c s'] else []) := hid rfl
  obtain ⟨_, _, c7, _, _, c10, _, _, z10⟩ := prCellsAt hb
  obtain ⟨R, hR⟩ : ∃ R : Int, R = (s.ret : Int) := ⟨_, rfl⟩
  rw [← hR] at c10
  have HR := hid hR
  have hRb : 0 ≤ R ∧ R ≤ 100000 := by omega
  obtain ⟨D, hD⟩ : ∃ D : Int, D = (s'.ent : Int) - s.ent := ⟨_, rfl⟩
  simp only at HEN
  rw [← hD] at HEN
  have hDb : 0 ≤ D := by omega
  have HD := hid hD
  have HB := hid hb
  have HL := hid hl
  clear hrec hok1 hok2 hs' hok hc hcap hb hbn hown hl hq hR hD hen
  go_enter Try.func26, Try.ntmps26
  go_upto_region 5 with (go_at_call 84; refine HPOP.out.mono ?_; rintro e w2 ⟨mv, rfl, hmv, ho2, qv', hbn2, hown2, hq2⟩; have hb2 := HB.out.grown ho2 (fun e => by injection e with e; omega); obtain ⟨_, _, d7, _, _, d10, _, _, y10⟩ := prCellsAt hb2; rw [← HR.out] at d10)
  have hl2 : IsSlice repLate w2 (LateIn gr w2 qv') lv s.ah := HL.out.keep fun b hb => ⟨⟨hb.1, Nat.lt_of_lt_of_le hb.2.1 ho2.size, fun e => by have := hq2 b e; have := hb.2.1; omega⟩, fun o => ho2.cell hb.2.1 (by have := hb.1; omega) o⟩
  have hR1 : R + 1 = ((s.ret + 1 : Nat) : Int) := by have := HR.out; push_cast; omega
  have hb3 := hb2.set_ 10 (.int .i64 (R + 1))
  have ho3 : Only gr w2 (w2.setCell ⟨gr, 10, none⟩ (.int .i64 (R + 1))) := (Only.refl _ _).set_ _ _
  have hp3 : PrAt (w2.setCell ⟨gr, 10, none⟩ (.int .i64 (R + 1))) gn gr c ⟨s.ent, s.ret + 1, q, s.ah⟩ := by
    rw [hR1] at hb3 ho3 ⊢
    exact ⟨hlt0, qv', lv, hb3, hbn2.grown ho3 (fun e => by injection e with e; omega), hown2.out (X := fun b => b = gr) (Out.of_only ho3 rfl) (fun b hb => by omega), hl2.keep fun b hb => ⟨⟨hb.1, Nat.lt_of_lt_of_le hb.2.1 ho3.size, hb.2.2⟩, fun o => ho3.cell hb.2.1 (by have := hb.1; omega) o⟩⟩
  have hqb3 : QB (w2.setCell ⟨gr, 10, none⟩ (.int .i64 (R + 1))) gn c.room w.heap.size := qb_of (hbn2.grown ho3 (fun e => by injection e with e; omega)) hq2
  have hmv3 : IsSlice repByte (w2.setCell ⟨gr, 10, none⟩ (.int .i64 (R + 1))) (fun b => gr + 1 ≤ b ∧ b < w.heap.size) mv x := hmv.keep fun b hb => ⟨hb, fun o => ho3.cell (Nat.lt_of_lt_of_le hb.2 ho2.size) (by omega) o⟩
  have hs3 : w.heap.size ≤ (w2.setCell ⟨gr, 10, none⟩ (.int .i64 (R + 1))).heap.size := Nat.le_trans ho2.size ho3.size
  have hb03 : Below gn w (w2.setCell ⟨gr, 10, none⟩ (.int .i64 (R + 1))) := ⟨ho3.os.trans ho2.os, ho3.tape.trans ho2.tape, ho3.output.trans ho2.output, Nat.le_trans ho2.size ho3.size, fun i hi => (ho3.block i (by have := ho2.size; omega) (fun e => by injection e with e; omega)).trans (ho2.block i (by omega) (fun e => by injection e with e; omega))⟩
  have HP3 := hid hp3
  have HQ3 := hid hqb3
  have HM3 := hid hmv3
  have HB03 := hid hb03
  obtain ⟨Am, cm, rfl⟩ := hmv.shape
  clear hR1 hb3 ho3 hp3 hqb3 hmv3 hb03 hl2 hb2 hbn2 hown2 hq2 hmv d7 d10 y10 ho2 c7 c10 z10
  generalize w2.setCell ⟨gr, 10, none⟩ (.int .i64 (R + 1)) = w3 at *
  by_cases hpos : 0 < D
  · have hRT := HRT.out
    rw [if_pos (by have := HD.out; omega)] at hRT
    have HRT2 := hid hRT
    have hd1 : decide (0 < D) = true := decide_eq_true hpos
    clear hRT HRT
    go_wp2_with (first
      | (go_at_call 82; refine (HEN.out _ HP3.out HQ3.out hs3).mono ?_; rintro e w4 ⟨rfl, hp4, ho4⟩; have hp4 := hid hp4)
      | (go_at_call 83; refine (HTL.out _ hp4.out).mono ?_; rintro e w5 ⟨u, rfl, hu, hx5⟩))
    refine bodyPost_ret (results3 rfl _ _ _) rfl ⟨_, _, rfl, ?_, ?_, hp4.out.ext hx5, ?_⟩
    · exact HM3.out.keep fun b hb => ⟨⟨by have := hb.1; omega, by have := hb.2; have := ho4.size; have := hx5.size; omega⟩, fun o => (hx5.cell (by have := hb.2; have := ho4.size; omega) o).trans (ho4.cell (by have := hb.2; omega) (fun hh => by have h1 := hb.1; have h2 := hb.2; rcases hh with e | e | e <;> omega) o)⟩
    · rw [HRT2.out]
      exact hu.sinceSz (Nat.le_trans hs3 ho4.size)
    · exact HB03.out.trans ((ho4.lowEnt hlt0 (by omega) (by omega)).trans (hx5.mono (by have := hp4.out.gsz; omega)))
  · have hRT := HRT.out
    rw [if_neg (by have := HD.out; omega)] at hRT
    have HRT2 := hid hRT
    have hd1 : decide (0 < D) = false := decide_eq_false hpos
    clear hRT HRT
    go_wp2_with (first
      | (go_at_call 82; refine (HEN.out _ HP3.out HQ3.out hs3).mono ?_; rintro e w4 ⟨rfl, hp4, ho4⟩; have hp4 := hid hp4))
    refine bodyPost_ret (results3 rfl _ _ _) rfl ⟨_, _, rfl, ?_, ?_, hp4.out, ?_⟩
    · exact HM3.out.keep fun b hb => ⟨⟨by have := hb.1; omega, by have := hb.2; have := ho4.size; omega⟩, fun o => ho4.cell (by have := hb.2; omega) (fun hh => by have h1 := hb.1; have h2 := hb.2; rcases hh with e | e | e <;> omega) o⟩
    · rw [HRT2.out]
      exact isSlice_nil _ _ _
    · exact HB03.out.trans (ho4.lowEnt hlt0 (by omega) (by omega))
end
end Go.Proofs.Ytjchobncmogcpaa
