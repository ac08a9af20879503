/- The puller's reference: Take, Receive. -/
import Derived.Test.YtjchobncmogcpaaPullR4
namespace Go.Proofs.Ytjchobncmogcpaa
open Go.RowKit

theorem PrAt.qb {w : World} {gn gr : Nat} {c : Cfg} {s : Pu} (h : PrAt w gn gr c s) : QB w gn c.room (gr + 1) := by
  obtain ⟨qv, lv, _, h2, h3, _⟩ := h.is
  exact qb_of h2 fun k hk => (h3.lt k hk).1
theorem PuOk.ahLen {c : Cfg} {s : Pu} (h : PuOk c s) (hc : c.Ok) : s.ah.length ≤ 64 := by
  have h1 : ∀ (n : Nat) (a : Int) (l : List (Int × List UInt8)), l.Pairwise (fun a b => a.1 < b.1) → (∀ p ∈ l, a ≤ p.1 ∧ p.1 < a + n) → l.length ≤ n := by
    intro n
    induction n with
    | zero =>
      intro a l _ hb
      cases l with
      | nil => simp
      | cons p l => have := hb p (by simp); simp at this; omega
    | succ n ih =>
      intro a l hp hb
      cases l with
      | nil => simp
      | cons p l =>
        have hp' := List.pairwise_cons.1 hp
        have := ih (a + 1) l hp'.2 fun q hq => by
          have h1 := hp'.1 q hq
          have h2 := hb p (by simp)
          have h3 := hb q (by simp [hq])
          push_cast at h3
          omega
        simp
        exact this
  have := h1 64 s.ent s.ah h.asc fun p hp => by
    have := h.bnd p hp
    have := hc.w64
    push_cast
    omega
  exact this
set_option maxRecDepth 100000
section
theorem takeRAck_any (w : World) (gr : Nat) (seq bt : Int) (v : Value) :
    Calls Try.prog 25 #[.pointer (some ⟨gr, 0, none⟩), .agg #[.bool true, .int .i64 seq, .int .u64 bt, v]] w fun e w' => e = .returned (.slice none 0 0) ∧ Ext w w' := by
  go_enter Try.func25, Try.ntmps25
  go_wp2
  go_ret
  exact ⟨rfl, ext_alloc _ _⟩
set_option maxHeartbeats 2000000 in
theorem takeR_any (w : World) (gn gr : Nat) (c : Cfg) (s : Pu) (h : PrAt w gn gr c s) (hc : c.Ok) (hok : PuOk c s) (hs : s.ent ≤ 100000) (seq bt : Int) (v : Value) (data : List UInt8) (hv : IsSlice repByte w (all w) v data) (hd : data.length ≤ 16777216) :
    Calls Try.prog 25 #[.pointer (some ⟨gr, 0, none⟩), .agg #[.bool false, .int .i64 seq, .int .u64 bt, v]] w fun e w' => ∃ u, e = .returned u ∧ IsSlice repSl w' (fresh w w') u [tellS c (takeS c.w c.m c.room.toNat s seq data)] ∧ PrAt w' gn gr c (takeS c.w c.m c.room.toNat s seq data) ∧ Below gn w w' := by
  rw [takeS_eq]
  have hkok := keepS_ok hok seq data (by have := hc.m1; have := hc.w1; have := hc.wl; omega)
  have hke := keepS_ent c.w c.m s seq data
  have hlt0 := h.lt
  have hgz := h.gsz
  have hx1 := ext_alloc w (.cells #[.bool false, .int .i64 seq, .int .u64 bt, v] 42)
  have hb1 := Blk.new w 42 #[.bool false, .int .i64 seq, .int .u64 bt, v]
  have hrest : ∀ (W : World), PrAt W gn gr c (keepS c.w c.m s seq data) → Calls Try.prog 82 #[.pointer (some ⟨gr, 0, none⟩)] W fun e w' => ∃ q : Int, e = .returned (.int .i64 q) ∧ PrAt w' gn gr c (enterS c.room.toNat (keepS c.w c.m s seq data)) ∧ Below gn W w' := fun W hW => by
    refine (enterR_any W gn gr c _ hW hc hkok (by rw [hke]; omega) (by have := hkok.ahLen hc; omega) (gr + 1) hW.qb hW.gsz).mono ?_
    rintro e w' ⟨rfl, h1, h2⟩
    exact ⟨_, rfl, h1, h2.lowEnt hlt0 (by omega) (by have := hW.gsz; omega)⟩
  have HEN := hid hrest
  have hen := enterS_ent c.room.toNat (keepS c.w c.m s seq data)
  rw [hke] at hen
  have hr2 := hc.r2
  have HTL := hid (fun (W : World) (hW : PrAt W gn gr c (enterS c.room.toNat (keepS c.w c.m s seq data))) => tellsR_any W gn gr c _ hW hc (enterS_ok hkok hc.r1) (by omega))
  have hK : keepS c.w c.m s seq data = if (nearV s.ent c.w seq c.m).2 = true ∧ hlook s.ah (nearV s.ent c.w seq c.m).1 = none ∧ data.length ≤ 64 then ⟨s.ent, s.ret, s.q, hins s.ah (nearV s.ent c.w seq c.m).1 data⟩ else s := rfl
  have hfi := hfound_is hok.asc (nearV s.ent c.w seq c.m).1
  have hal := hok.ahLen hc
  obtain ⟨S1, hS1⟩ : ∃ S1, S1 = keepS c.w c.m s seq data := ⟨_, rfl⟩
  rw [← hS1] at HEN HTL hK ⊢
  have HKP := hid (fun (W : World) (place : Int) (hW : PrAt W gn gr c s) (u : Value) (hu : IsSlice repByte W (all W) u data) => keepR_any W gn gr c s hW (by omega) place u data hu hd)
  have h1 := h.ext hx1
  obtain ⟨_, qv, lv, hbr, _⟩ := id h1
  obtain ⟨c1, c2, _, _, c9, _, _, _, _⟩ := prCellsAt hbr
  obtain ⟨E, hEe⟩ : ∃ E : Int, E = (s.ent : Int) := ⟨_, rfl⟩
  rw [← hEe] at c9 hK hfi
  have HNR := hid (fun W => nearR_any E c.w seq c.m W)
  have hv1 := hv.ext hx1
  obtain ⟨Av, cv, rfl⟩ := hv.shape
  obtain ⟨nr, hnr⟩ : ∃ nr, nr = nearV E c.w seq c.m := ⟨_, rfl⟩
  rw [← hnr] at HNR hK hfi
  have b0 := hb1.cell 0
  have b1 := hb1.cell 1
  have b3 := hb1.cell 3
  have H1 := hid h1
  have HB1 := hid hb1
  have HV1 := hid hv1
  have HK := hid hK
  have HFI := hid hfi
  have hgr1 := h1.gsz
  have hgx := hb1.lt
  clear hrest hkok hke hS1 hEe hnr h1 hb1 hv1 hv hbr hok hc h hK hfi hen
  go_enter Try.func25, Try.ntmps25
  go_upto_region 3 with (fail)
  generalize w.alloc (.cells #[.bool false, .int .i64 seq, .int .u64 bt, .slice Av data.length cv] 42) = w1 at *
  go_cut [5, 6] (fun s5 s6 wx => s5 = .int .i64 nr.1 ∧ s6 = .bool nr.2 ∧ Ext w1 wx)
  case first =>
    go_region_law (go_simp; go_at_call 80; refine (HNR.out _).mono ?_; rintro r w2 ⟨rfl, rfl⟩; dsimp only)
    all_goals
      go_wp2_with fail
      go_meet
      exact ⟨rfl, rfl, Below.drew (Below.refl _ _)⟩
  case rest =>
    obtain ⟨rfl, rfl, hx2⟩ := hcut
    obtain ⟨gx, hgxe⟩ : ∃ gx, gx = w.heap.size := ⟨_, rfl⟩
    have HGX := hid hgxe
    rw [← hgxe] at HB1 hgx b0 b1 b3 ⊢
    have d3 := (hx2.cell hgx 3).trans b3
    have H2 := hid (H1.out.ext hx2)
    have HV2 := hid (HV1.out.ext hx2)
    have hw12 : Below gn w wc := by
      have h1 : Ext w w1 := hx1
      exact (h1.mono (by omega)).trans (hx2.mono (by omega))
    have HW12 := hid hw12
    have hszc : w.heap.size ≤ wc.heap.size := by have := hx1.size; have := hx2.size; omega
    obtain ⟨place, okb⟩ := nr
    simp only at HK HFI ⊢
    obtain ⟨dl, hdl⟩ : ∃ dl, dl = data.length := ⟨_, rfl⟩
    rw [← hdl] at HK HV2 d3 ⊢
    have HDL := hid hdl
    clear hw12 hgxe b0 b1 b3 c1 c2 c9 H1 HV1 HB1 HNR hx1 hx2 hdl
    by_cases hA : okb = true ∧ dl ≤ 64
    · obtain ⟨rfl, h64⟩ := hA
      have hS1 : keepR s place data = S1 := by
        unfold keepR
        rw [HFI.out, HK.out]
        cases hlk : hlook s.ah place with
        | none => rw [if_neg (by simp), if_pos ⟨rfl, rfl, h64⟩]
        | some y => rw [if_pos (by simp), if_neg (by simp)]
      have HS1 := hid hS1
      have hd1 : decide (dl ≤ 64) = true := decide_eq_true h64
      have hd2 : decide ((dl : Int) ≤ 64) = true := decide_eq_true (by omega)
      clear hS1
      go_wp2_with (first
        | (go_at_call 81; refine (HKP.out _ _ H2.out _ HV2.out).mono ?_; rintro e w3 ⟨rfl, hp3, hb3⟩; rw [HS1.out] at hp3; have hp3 := hid hp3)
        | (go_at_call 82; refine (HEN.out _ hp3.out).mono ?_; rintro e w4 ⟨q, rfl, hp4, hb4⟩; have hp4 := hid hp4)
        | (go_at_call 83; refine (HTL.out _ hp4.out).mono ?_; rintro e w5 ⟨u, rfl, hu, hx5⟩))
      go_ret
      exact ⟨_, rfl, hu.sinceSz (Nat.le_trans hszc (Nat.le_trans hb3.size hb4.size)), hp4.out.ext hx5, (HW12.out.trans hb3).trans (hb4.trans (hx5.mono (by have := hp4.out.gsz; omega)))⟩
    · have hS1 : S1 = s := by rw [HK.out, if_neg (fun h => hA ⟨h.1, h.2.2⟩)]
      have H3 : Wall (PrAt wc gn gr c S1) := by rw [hS1]; exact H2
      clear hS1
      cases okb with
      | false =>
        clear hA
        go_wp2_with (first
          | (go_at_call 82; refine (HEN.out _ H3.out).mono ?_; rintro e w4 ⟨q, rfl, hp4, hb4⟩; have hp4 := hid hp4)
          | (go_at_call 83; refine (HTL.out _ hp4.out).mono ?_; rintro e w5 ⟨u, rfl, hu, hx5⟩))
        go_ret
        exact ⟨_, rfl, hu.sinceSz (Nat.le_trans hszc hb4.size), hp4.out.ext hx5, HW12.out.trans (hb4.trans (hx5.mono (by have := hp4.out.gsz; omega)))⟩
      | true =>
        have h64 : ¬ dl ≤ 64 := fun h => hA ⟨rfl, h⟩
        have hd1 : decide (dl ≤ 64) = false := decide_eq_false h64
        have hd2 : decide ((dl : Int) ≤ 64) = false := decide_eq_false (by omega)
        clear hA
        go_wp2_with (first
          | (go_at_call 82; refine (HEN.out _ H3.out).mono ?_; rintro e w4 ⟨q, rfl, hp4, hb4⟩; have hp4 := hid hp4)
          | (go_at_call 83; refine (HTL.out _ hp4.out).mono ?_; rintro e w5 ⟨u, rfl, hu, hx5⟩))
        go_ret
        exact ⟨_, rfl, hu.sinceSz (Nat.le_trans hszc hb4.size), hp4.out.ext hx5, HW12.out.trans (hb4.trans (hx5.mono (by have := hp4.out.gsz; omega)))⟩
end
end Go.Proofs.Ytjchobncmogcpaa
