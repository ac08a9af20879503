/- The walks of puller's functions. -/
import Derived.Test.YtjchobncmogcpaaAhead
namespace Go.Proofs.Ytjchobncmogcpaa
open Go.RowKit

set_option maxRecDepth 100000
section
theorem isP_any (X : Nat → Prop) (w : World) (gp gq gm : Nat) (c : Cfg) (s : Pu) (h : PuAt X w gp gq gm c s) :
    Calls Try.prog 70 #[.pointer (some ⟨gp, 0, none⟩)] w fun e w' => e = .returned (.bool true) ∧ w = w' := by
  obtain ⟨c1, c2, c3, c7, c8, c9, c10, f9, f10⟩ := puCellsAt h.blk
  clear h
  go_enter Try.func70, Try.ntmps70
  go_wp2
  go_ret
  exact ⟨rfl, rfl⟩
theorem isPNil_any (w : World) :
    Calls Try.prog 70 #[.pointer none] w fun e w' => e = .returned (.bool false) ∧ w = w' := by
  go_enter Try.func70, Try.ntmps70
  go_wp2
  go_ret
  exact ⟨rfl, rfl⟩

/-- What is looked up. -/
theorem puLook {X : Nat → Prop} {w : World} {gp gq gm : Nat} {c : Cfg} {s : Pu} (h : PuAt X w gp gq gm c s) (k : Int) :
    ∃ v, (Instr.lookup 130 (.map (some gm)) (.int .i64 k) true).run Try.prog w = .ok (.tuple #[v, .bool (hlook s.ah k).isSome]) w ∧
      ∀ x, hlook s.ah k = some x → IsSlice repByte w (outOf X w) v x ∧ x.length ≤ 64 := by
  obtain ⟨L, hm, hL⟩ := h.map
  have hz : (zeroValue 33).run Try.prog w = .ok (.slice none 0 0) w := by rfl
  have hl := hm.is.lookup_ok (P := Try.prog) Try.underlying130 Try.underlying3 hz k
  cases hk : hlook s.ah k with
  | none => rw [hL.none hk] at hl; exact ⟨_, hl, fun x hx => by cases hx⟩
  | some x =>
    obtain ⟨v, hv, hs⟩ := hL.some hk
    rw [hv] at hl
    exact ⟨v, hl, fun y hy => by injection hy with e; subst e; exact hs⟩

theorem puLook_none {X : Nat → Prop} {w : World} {gp gq gm : Nat} {c : Cfg} {s : Pu} {k : Int} (h : PuAt X w gp gq gm c s) (hk : hlook s.ah k = none) :
    ∃ v, (Instr.lookup 130 (.map (some gm)) (.int .i64 k) true).run Try.prog w = .ok (.tuple #[v, .bool false]) w := by
  obtain ⟨v, h1, _⟩ := puLook h k
  rw [hk] at h1
  exact ⟨v, h1⟩
theorem puLook_some {X : Nat → Prop} {w : World} {gp gq gm : Nat} {c : Cfg} {s : Pu} {k : Int} {x : List UInt8} (h : PuAt X w gp gq gm c s) (hk : hlook s.ah k = some x) :
    ∃ A m, (Instr.lookup 130 (.map (some gm)) (.int .i64 k) true).run Try.prog w = .ok (.tuple #[.slice A x.length m, .bool true]) w ∧ IsSlice repByte w (outOf X w) (.slice A x.length m) x ∧ x.length ≤ 64 := by
  obtain ⟨v, h1, h2⟩ := puLook h k
  rw [hk] at h1
  obtain ⟨h3, h4⟩ := h2 x hk
  obtain ⟨A, m, rfl⟩ := h3.shape
  exact ⟨A, m, h1, h3, h4⟩
theorem enterS_full {room : Nat} {s : Pu} (h : room ≤ s.q.length) : enterS room s = s := by
  unfold enterS
  rw [show room - s.q.length = 0 from by omega]
  rfl
theorem enterS_none {room : Nat} {s : Pu} (h : hlook s.ah s.ent = none) : enterS room s = s := by
  unfold enterS
  cases room - s.q.length with
  | zero => rfl
  | succ n => unfold enterF; rw [h]
theorem enterS_step {room : Nat} {s : Pu} {x : List UInt8} (hr : s.q.length < room) (h : hlook s.ah s.ent = some x) : enterS room s = enterS room ⟨s.ent + 1, s.ret, s.q ++ [x], hdel s.ah s.ent⟩ := by
  unfold enterS
  rw [List.length_append, show room - s.q.length = (room - (s.q.length + [x].length)) + 1 from by simp; omega]
  conv => lhs; unfold enterF
  rw [h]
theorem QAt.count {X : Nat → Prop} {w : World} {g : Nat} {room : Int} {q : List (List UInt8)} (h : QAt X w g room q) : w.cell? ⟨g, 0, none⟩ = some (.int .i64 room) ∧ w.cell? ⟨g, 2, none⟩ = some (.int .i64 (q.length : Int)) := by
  obtain ⟨_, _, _, _, first, vs, h5, _⟩ := h
  exact ⟨(qCells h5).1, (qCells h5).2.2.1⟩
theorem region_still_tail {P : Program} {id : Nat} {Q : Exit → Act → World → Prop} {a : Act} {w : World} {l : List Oper} (n : Nat) (hm : P.follows .mixedOrders = true) (hB : Region.lexTailB .any l.toArray n = true)
    (h : ∀ w', w' = w.drewN 1 → wpStill P l.toArray w' (fun a' => wpList P l.toArray Q (l.drop n) a' w') (l.take n) a) : (Code.region id l.toArray true).wp P Q a w := wp_region_still_tail n hm hB (h _ rfl)
def cellNat (w : World) (p : Addr) : Nat := (intOf ((w.cell? p).getD undef)).toNat

set_option maxHeartbeats 1000000 in
theorem enter_any (X : Nat → Prop) (w : World) (gp gq gm : Nat) (c : Cfg) (s : Pu) (h : PuAt X w gp gq gm c s) (hs : s.ent ≤ 1000000) :
    Calls Try.prog 72 #[.pointer (some ⟨gp, 0, none⟩)] w fun e w' => e = .returned (.bool (decide (s.ent < (enterS c.room.toNat s).ent))) ∧ PuAt X w' gp gq gm c (enterS c.room.toNat s) ∧ Out (own3 gp gq gm) w w' := by
  obtain ⟨c1, c2, c3, c7, c8, c9, c10, f9, f10⟩ := puCellsAt h.blk
  have hr1 := h.q.r1
  have hr2 := h.q.r2
  have hcap0 := h.q.cap
  obtain ⟨E, hE⟩ : ∃ E, E = enterS c.room.toNat s := ⟨_, rfl⟩
  rw [← hE]
  have HE := hid hE
  obtain ⟨n0, hn0⟩ : ∃ n0, n0 = s.ent := ⟨_, rfl⟩
  obtain ⟨nq0, hnq0⟩ : ∃ nq0, nq0 = s.q.length := ⟨_, rfl⟩
  have HN0 := hid hn0
  rw [← hn0] at c9 hs ⊢
  clear hE c1 c2 c3 c10 f10
  have hst : ∃ sj : Pu, PuAt X w gp gq gm c sj ∧ Out (own3 gp gq gm) w w ∧ enterS c.room.toNat sj = E ∧ n0 ≤ sj.ent ∧ sj.ent + nq0 = n0 + sj.q.length := ⟨s, h, Out.refl _ _, HE.out.symm, by omega, by omega⟩
  have HST := hid hst
  clear hst hn0 hnq0 h
  go_enter Try.func72, Try.ntmps72
  go_wp2
  go_loopw [] (fun wr => ∃ sj : Pu, PuAt X wr gp gq gm c sj ∧ Out (own3 gp gq gm) w wr ∧ enterS c.room.toNat sj = E ∧ n0 ≤ sj.ent ∧ sj.ent + nq0 = n0 + sj.q.length) (fun wr => 16 - cellNat wr ⟨gq, 2, none⟩)
  case atStart => exact HST.out
  case round =>
    clear c7 c8 c9 f9
    obtain ⟨sj, hj, hout, hEj, hlo, hcnt⟩ := hrel
    obtain ⟨d1, d2, d3, d7, d8, d9, d10, g9, g10⟩ := puCellsAt hj.blk
    obtain ⟨q0, q2⟩ := hj.q.count
    have hcap := hj.q.cap
    have HFR := hid (freeQ_any wr gq c.room sj.q.length q0 q2 hr1 hr2 (by omega))
    clear d1 d2 d3 d10 g10 q0
    by_cases hfull : c.room ≤ (sj.q.length : Int)
    · have hse : sj = E := by rw [← hEj]; exact (enterS_full (by omega)).symm
      have HSE := hid hse
      clear hse hEj
      obtain ⟨nj, hnj⟩ : ∃ nj, nj = sj.ent := ⟨_, rfl⟩
      rw [← hnj] at d9
      have HNJ := hid hnj
      clear hnj
      generalize sj.q.length = nq at *
      go_wp2_with (go_at_call 119; refine HFR.out.mono ?_; rintro r w2 ⟨rfl, nd, rfl⟩)
      go_ret
      have e1 := HSE.out
      subst e1
      exact ⟨ret_bool (by rw [HNJ.out]), hj.drewN nd, hout.then (ext_drewN _ _)⟩
    · have hlt : (sj.q.length : Int) < c.room := by omega
      cases hlk : hlook sj.ah sj.ent with
      | none =>
        have hse : sj = E := by rw [← hEj]; exact (enterS_none hlk).symm
        have HSE := hid hse
        have HL := hid (fun (W : World) (hW : PuAt X W gp gq gm c sj) => puLook_none hW hlk)
        clear hse hEj hlk
        obtain ⟨nj, hnj⟩ : ∃ nj, nj = sj.ent := ⟨_, rfl⟩
        rw [← hnj] at d9 HL
        have HNJ := hid hnj
        clear hnj
        generalize sj.q.length = nq at *
        go_wp2_with (go_at_call 119; refine HFR.out.mono ?_; rintro r w2 ⟨rfl, nd, rfl⟩; obtain ⟨v, hv⟩ := HL.out _ (hj.drewN (nd + 1)))
        go_region_law (fail)
        all_goals
          go_wp2
          go_ret
          have e1 := HSE.out
          subst e1
          exact ⟨ret_bool (by rw [HNJ.out]), hj.drewN (nd + 1), hout.then (ext_drewN _ _)⟩
      | some x =>
        have hEs := enterS_step (room := c.room.toNat) (by omega) hlk
        rw [hEj] at hEs
        have HL := hid (fun (W : World) (hW : PuAt X W gp gq gm c sj) => puLook_some hW hlk)
        have HLK := hid hlk
        have HES := hid hEs
        clear hEj hlk hEs
        have hx64 : x.length ≤ 64 := by obtain ⟨A, m, _, _, hv⟩ := HL.out _ hj; exact hv
        have HPU := hid (fun (W : World) (hq : QAt X W gq c.room sj.q) (hX : ∀ b, X b → b < W.heap.size) (v : Value) (hv : IsSlice repByte W (all W) v x) => pushQ_any X W gq c.room sj.q v x hq hX hv hx64 hlt)
        have hncj : sj.ent ≤ 2000000 := by have := hj.q.cap; omega
        obtain ⟨nj, hnj⟩ : ∃ nj, nj = sj.ent := ⟨_, rfl⟩
        rw [← hnj] at d9 HL hncj
        have HNJ := hid hnj
        clear hnj
        generalize hnq : sj.q.length = nq at *
        have HNQ := hid hnq
        clear hnq
        go_wp2_with (go_at_call 119; refine HFR.out.mono ?_; rintro r w2 ⟨rfl, nd, rfl⟩; obtain ⟨Av, cv, hv, hvs, _⟩ := HL.out _ (hj.drewN (nd + 1)))
        go_region_law (fail)
        all_goals
          go_wp2
          have hp3 := hj.drewN (nd + 1)
          have ho3 : Out (own3 gp gq gm) w (wr.drewN (nd + 1)) := hout.then (ext_drewN _ _)
          generalize wr.drewN (nd + 1) = w3 at *
          refine region_still_tail 9 (by kernel_rfl) (by kernel_rfl) ?_
          intro w4 hw4
          have hp4 : PuAt X w4 gp gq gm c sj := by rw [hw4]; exact hp3.drewN 1
          have ho4 : Out (own3 gp gq gm) w w4 := by rw [hw4]; exact ho3.then (ext_drewN _ _)
          have hvs4 : IsSlice repByte w4 (outOf X w4) (.slice Av x.length cv) x := by rw [hw4]; exact hvs.outExt (ext_drewN _ 1)
          clear hw4 hp3 ho3
          obtain ⟨_, _, _, e7, e8, e9, _, _, _⟩ := puCellsAt hp4.blk
          rw [← HNJ.out] at e9
          simp only [List.take_succ_cons, List.take_zero, List.drop_succ_cons, List.drop_zero]
          repeat still_step
          refine wpStill_nil ?_
          obtain ⟨L, hm4, hL4⟩ := hp4.map
          refine wpl_delSt (K := keyInt .i64) (k := (nj : Int)) _ _ rfl rfl Try.underlying130 Try.underlying3 hm4 rfl rfl rfl ?_
          intro w5 hm5 hg5
          have hp5 := hp4.turn hg5 hm5 (hL4.del (nj : Int))
          have ho5 := ho4.trans (Out.of_only hg5 (.inr (.inr rfl)))
          have hvs5 := (hvs4.out (Out.of_only hg5 hp4.inm)).outAll
          have HQ5 := hid (HPU.out w5 hp5.q hp5.ltX _ hvs5)
          clear hm4 hL4 hm5 hvs4 hp4
          obtain ⟨_, _, _, i7, _, _, _, _, _⟩ := puCellsAt hp5.blk
          go_wp2_with (go_at_call 120; refine HQ5.out.mono ?_; rintro r w6 ⟨rfl, hq6, hg6⟩; have hp6 := hp5.queue hg6 hq6; obtain ⟨_, _, _, _, _, j9, _, k9, _⟩ := puCellsAt hp6.blk)
          have e1 := HNJ.out
          subst e1
          have hp7 := hp6.ent (sj.ent + 1) ((sj.ent : Int) + 1) (by push_cast; rfl)
          have k2 := hp7.q.count.2
          have hnq := HNQ.out
          refine ⟨⟨_, hp7, (ho5.trans (Out.of_only hg6 (.inr (.inl rfl)))).trans (Out.of_only ((Only.refl gp w6).set_ _ _) (.inl rfl)), HES.out.symm, ?_, ?_⟩, ?_⟩
          · show n0 ≤ sj.ent + 1
            omega
          · show sj.ent + 1 + nq0 = n0 + (sj.q ++ [x]).length
            rw [List.length_append, List.length_singleton]
            omega
          · unfold cellNat
            rw [k2, q2]
            show 16 - (((sj.q ++ [x]).length : Nat) : Int).toNat < 16 - ((nq : Nat) : Int).toNat
            rw [List.length_append, List.length_singleton]
            omega
end
end Go.Proofs.Ytjchobncmogcpaa
