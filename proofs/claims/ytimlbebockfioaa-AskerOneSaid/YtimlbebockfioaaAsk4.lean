/- The asker: on. -/
import Derived.Test.YtimlbebockfioaaAsk3
namespace Go.Proofs.Ytimlbebockfioaa
open Go.RowKit

theorem info_intA : ElemInfo Try.prog 3 1 8 := elemInfo (z := .int .i64 0) (by kernel_rfl) rfl
set_option maxRecDepth 100000
section
variable {col : Nat → Nat} {w : World} {ga gq gt b gs : Nat} {most room : Int} {s : Ak}
set_option maxHeartbeats 4000000 in
theorem akOn_any (h : AkAt col w ga gq gt b gs most room s) (ok : AkOk most room s) (hD : s.D.length ≤ 1000) (hacc : s.acc ≤ 900) (x : List UInt8) (q : List (List UInt8)) (hq : s.q = x :: q) (o : Int) (hwo : (Lit.int .i64 o).wf = true) :
    Calls Try.prog 56 #[.pointer (some ⟨ga, 0, none⟩), .int .i64 o] w fun e w' => ∃ u, e = .returned u ∧ AkRes col w ga gq gt b gs most room (onK s o).1 u (onK s o).2 w' := by
  have hqF := h.q
  rw [hq] at hqF
  have HP := hid (popF_any hqF)
  obtain ⟨tv, hb, htold⟩ := h.is
  have HB := hid hb
  have HTD := hid htold
  obtain ⟨c0, c1, _, _, c4, _, _, _, c8⟩ := akCellsAt hb
  obtain ⟨At, ct, rfl, _⟩ := htold.len
  have hag : ga ≠ gq := fun e => by have h1 := h.ca; rw [e, h.cq] at h1; omega
  have HA := hid h
  have hud := ok.ud
  have hT := ok.tm.asc
  have hwd := ok.wd
  have hka := ok.acc
  have HWO := hid hwo
  have HBG := hid fun (w1 : World) (s1 : Ak) (c1 : Nat → Nat) (h1 : AkAt c1 w1 ga gq gt b gs most room s1) (e1 : s1.T = s.T) (e2 : s1.D = s.D) (e3 : s1.U = s.U) => akBegin_any h1 (by rw [e1]; exact hT) (by rw [e2]; exact hD) (by rw [e3]; omega) (by rw [e2]; exact hwd)
  have HCL := hid fun w1 (ht : TmAt w1 gt b most s.T) => tmClear_any w1 gt b most s.T ht hT 0
  have HLN := hid fun (w1 : World) (hq1 : QF (fun k => recol col w w1 6 k = 6) w1 gq room q) => lenF_any hq1
  obtain ⟨TN, hTN⟩ : ∃ TN, TN = s.told.length := ⟨_, rfl⟩
  have htn : TN ≤ 900 := by omega
  have hon : onK s o = if q = [] then (⟨q, tdel s.T 0, s.D, s.U, s.acc, 0, 0, false, s.told ++ [o]⟩, []) else (beginK ⟨q, s.T, s.D, s.U, s.acc, s.t, s.r, s.bound, s.told ++ [o]⟩, asksK (beginK ⟨q, s.T, s.D, s.U, s.acc, s.t, s.r, s.bound, s.told ++ [o]⟩)) := by
    unfold onK
    rw [hq]
    rfl
  rw [← hTN] at c4 c8 HB HTD
  have HTN := hid hTN
  obtain ⟨QL, hQL⟩ : ∃ QL, QL = q.length := ⟨_, rfl⟩
  have HQL := hid hQL
  -- what holds behind region 3
  have hfin : ∀ w2 v5 w5, QF (grow (fun k => col k = 6) w w2) w2 gq room q → Only gq w w2 → RowF (grow (fun k => col k = 9) w2 w5) (repInt .i64) 3 w5 v5 (s.told ++ [o]) → Out (fun k => (Value.slice At TN ct).ownBlock = some k ∧ col k = 9) w2 w5 → (∃ A c, v5 = .slice A (TN + 1) c) →
      AkAt (recol (recol col w w2 6) w2 ((w5.setCell ⟨ga, 8, none⟩ v5).setCell ⟨ga, 4, none⟩ (.int .i64 ((TN : Int) + 1))) 9) ((w5.setCell ⟨ga, 8, none⟩ v5).setCell ⟨ga, 4, none⟩ (.int .i64 ((TN : Int) + 1))) ga gq gt b gs most room ⟨q, s.T, s.D, s.U, s.acc, s.t, s.r, s.bound, s.told ++ [o]⟩ ∧ Out (fun k => col k ≠ 0) w ((w5.setCell ⟨ga, 8, none⟩ v5).setCell ⟨ga, 4, none⟩ (.int .i64 ((TN : Int) + 1))) := fun w2 v5 w5 hq2 ho2 hr5 o5 _ => by
    have hA2 := HA.out.queue hq2 ho2
    have hb2 := HB.out.out (Out.of_only (X := fun q => q = gq) ho2 rfl) hag
    have hb5 := hb2.out o5 (fun hy => by have h1 := HA.out.ca; omega)
    have ho6 : Only ga w5 ((w5.setCell ⟨ga, 8, none⟩ v5).setCell ⟨ga, 4, none⟩ (.int .i64 ((TN : Int) + 1))) := ((Only.refl _ _).set_ _ _).set_ _ _
    have hb6 : Blk ((w5.setCell ⟨ga, 8, none⟩ v5).setCell ⟨ga, 4, none⟩ (.int .i64 ((TN : Int) + 1))) ga 112 (akCells gq gt gs s.acc (s.told ++ [o]).length s.t s.r s.bound v5) := by
      have h6 := (hb5.set_ 8 v5).set_ 4 (.int .i64 ((TN : Int) + 1))
      have e1 : ((s.told ++ [o]).length : Int) = (TN : Int) + 1 := by rw [HTN.out]; simp
      unfold akCells
      rw [e1]
      exact h6
    have hz2 := ho2.size
    have hz5 := o5.size
    have hr9 : ∀ k, col k = 9 → recol col w w2 6 k = 9 := fun k hk => recol_is HA.out.lt (by omega) hk
    have ho26 : Out (fun k => k = ga ∨ recol col w w2 6 k = 9) w2 ((w5.setCell ⟨ga, 8, none⟩ v5).setCell ⟨ga, 4, none⟩ (.int .i64 ((TN : Int) + 1))) := (o5.mono fun k hk => .inr (hr9 k hk.2)).trans (Out.of_only ho6 (.inl rfl))
    have hrow6 : RowF (grow (fun k => recol col w w2 6 k = 9) w2 ((w5.setCell ⟨ga, 8, none⟩ v5).setCell ⟨ga, 4, none⟩ (.int .i64 ((TN : Int) + 1)))) (repInt .i64) 3 ((w5.setCell ⟨ga, 8, none⟩ v5).setCell ⟨ga, 4, none⟩ (.int .i64 ((TN : Int) + 1))) v5 (s.told ++ [o]) := by
      refine RowF.mono (hr5.frame ho6.size fun k hk hF => ho6.block k hk fun e => ?_) fun k hk hF => hF.elim (fun e => .inl (hr9 k e)) fun e => .inr ⟨e.1, hk⟩
      injection e with e
      subst e
      rcases hF with hF | hF
      · have h1 := HA.out.ca; omega
      · have := HB.out.lt; omega
    refine ⟨hA2.tell hrow6 ho26 hb6, (Out.of_only (X := fun k => col k ≠ 0) ho2 (by rw [HA.out.cq]; omega)).trans2 ho26 fun k hk hy => ?_⟩
    rcases hy with e | e
    · rw [e, HA.out.ca]; omega
    · have := recol_from (col := col) (w := w) (w' := w2) (n := 6) (by omega) e
      omega
  have HFIN := hid hfin
  have hrc : ∀ w2 w6 k, w.heap.size ≤ w2.heap.size → w2.heap.size ≤ w6.heap.size → recol (recol col w w2 6) w2 w6 9 k = col k ∨ Proofs.Ytimlbebockfioaa.fresh w w6 k := fun w2 w6 k h1 h2 => by
    rcases recol_fresh (col := recol col w w2 6) (w := w2) (w' := w6) (n := 9) k with e | e
    · rw [e]
      exact (recol_fresh (col := col) (w := w) (w' := w2) (n := 6) k).imp id fun e => ⟨e.1, Nat.lt_of_lt_of_le e.2 h2⟩
    · exact .inr ⟨Nat.le_trans h1 e.1, e.2⟩
  have HRC := hid hrc
  have HON := hid hon
  have hbd : 0 ≤ (TN : Int) ∧ (TN : Int) + 1 ≤ 1000 := by omega
  have HTNl := hid (show (TN + 1) * 8 ≤ 140737488355328 ∧ TN + 1 ≤ maxLen by unfold maxLen; omega)
  clear h hb htold ok hq hqF hfin hrc hud hT hwd hwo hon hTN hQL hka
  go_enter Try.func56, Try.ntmps56
  go_upto_region 4 with (first
    | (go_at_call 80; refine HP.out.mono ?_; rintro e w2 ⟨u, rfl, _, hq2, ho2⟩; have hb2 := HB.out.out (Out.of_only (X := fun q => q = gq) ho2 rfl) hag; have i8 := (akCellsAt hb2).2.2.2.2.2.2.2.2; have hrow2 := HTD.out.frame ho2.size (fun k hk hF => ho2.block k hk fun e => by injection e with e; have h1 := HA.out.cq; rw [← e] at h1; omega))
    | (at_builtin; refine wpl_rowF (S := fun k => col k = 9) (r := repInt .i64) (x := o) (cs := #[.int .i64 o]) _ _ rfl rfl Try.underlying44 info_intA (by decide) hrow2 rfl rfl rfl ⟨rfl, HWO.out⟩ (by rw [← HTN.out]; exact HTNl.out.1) (by rw [← HTN.out]; exact HTNl.out.2) ?_; intro v5 w5 hrow5 hg5 hsh5; rw [← HTN.out] at hsh5; have HSH := hid hsh5; obtain ⟨A5, c5, rfl⟩ := hsh5; have hb5 := hb2.out hg5 (fun hy => by have h1 := HA.out.ca; omega); have f8 := (akCellsAt hb5).2.2.2.2.2.2.2.2; have y8 := hb5.frozen 8; have f4 : w5.cell? ⟨ga, 4, none⟩ = some (.int .i64 (TN : Int)) := hb5.cell 4; have y4 := hb5.frozen 4))
  obtain ⟨hA6, ho6⟩ := HFIN.out _ _ _ hq2 ho2 hrow5 hg5 HSH.out
  have hz2 := ho2.size
  have hz26 : w2.heap.size ≤ ((w5.setCell ⟨ga, 8, none⟩ (.slice A5 (TN + 1) c5)).setCell ⟨ga, 4, none⟩ (.int .i64 ((TN : Int) + 1))).heap.size := by have := hg5.size; simp; omega
  generalize (w5.setCell ⟨ga, 8, none⟩ (.slice A5 (TN + 1) c5)).setCell ⟨ga, 4, none⟩ (.int .i64 ((TN : Int) + 1)) = w6 at *
  clear hrow5 hg5 hb5 f8 y8 f4 y4 hb2 i8 hrow2 hq2 c0 c1 c4 c8
  obtain ⟨tv6, hb6, _⟩ := hA6.is
  obtain ⟨d0, d1, _, _, _, _, _, _, _⟩ := akCellsAt hb6
  have hcol6 : ∀ k, recol (recol col w w2 6) w2 w6 9 k = col k ∨ Proofs.Ytimlbebockfioaa.fresh w w6 k := fun k => HRC.out w2 w6 k hz2 hz26
  generalize recol (recol col w w2 6) w2 w6 9 = col6 at *
  have HA6 := hid hA6
  have HC6 := hid hcol6
  have HO6 := hid ho6
  have HB6 := hid hb6
  have HLN6 := hid (lenF_any hA6.q)
  have HLNQ := hid (show ((⟨q, s.T, s.D, s.U, s.acc, s.t, s.r, s.bound, s.told ++ [o]⟩ : Ak).q.length) = QL from HQL.out.symm)
  rw [HLNQ.out] at HLN6
  by_cases hq0 : q = []
  · have hz : QL = 0 := by rw [HQL.out, hq0]; rfl
    subst hz
    have HQ0 := hid hq0
    have HCL6 := hid (HCL.out _ hA6.tm)
    clear hA6 hcol6 ho6 hb6 hq0
    go_upto_region 7 with (first
      | (go_at_call 52; refine HLN6.out.mono ?_; rintro e w7 ⟨rfl, rfl⟩)
      | (go_at_call 47; refine HCL6.out.mono ?_; rintro e w8 ⟨rfl, ht8, ho8⟩))
    have hA8 := HA6.out.timer ho8 ht8
    have hb8 := HB6.out.out (Out.of_only (X := fun k => k = b) ho8 rfl) (fun e => by have h1 := HA6.out.ca; rw [e, HA6.out.cb] at h1; omega)
    have y5 := hb8.frozen 5
    have y6 := hb8.frozen 6
    have y7 := hb8.frozen 7
    have i5 := (akCellsAt hb8).2.2.2.2.2.1
    have i6 := (akCellsAt hb8).2.2.2.2.2.2.1
    have i7 := (akCellsAt hb8).2.2.2.2.2.2.2.1
    have ho9 : Only ga w8 (((w8.setCell ⟨ga, 5, none⟩ (.int .u64 0)).setCell ⟨ga, 6, none⟩ (.int .u64 0)).setCell ⟨ga, 7, none⟩ (.bool false)) := (((Only.refl _ _).set_ _ _).set_ _ _).set_ _ _
    have hb9 : Blk (((w8.setCell ⟨ga, 5, none⟩ (.int .u64 0)).setCell ⟨ga, 6, none⟩ (.int .u64 0)).setCell ⟨ga, 7, none⟩ (.bool false)) ga 112 (akCells gq gt gs s.acc (s.told ++ [o]).length 0 0 false tv6) := ((hb8.set_ 5 (.int .u64 0)).set_ 6 (.int .u64 0)).set_ 7 (.bool false)
    have HA9 := hid (hA8.own ho9 (akCellsAt hb8).2.2.2.2.2.2.2.2 hb9)
    have HO9 := hid ((HO6.out.trans2 (Out.of_only (X := fun k => col6 k ≠ 0 ∧ (col k ≠ 0 ∨ w.heap.size ≤ k)) ho8 ⟨by rw [HA6.out.cb]; omega, by
      rcases HC6.out b with e | e
      · left; rw [← e, HA6.out.cb]; omega
      · exact .inr e.1⟩) fun q hq hy => hy.2.elim id fun e => by omega).trans2 (Out.of_only (X := fun k => k = ga) ho9 rfl) fun q _ hy => by rw [hy, HA.out.ca]; omega)
    have hz9 : w6.heap.size ≤ (((w8.setCell ⟨ga, 5, none⟩ (.int .u64 0)).setCell ⟨ga, 6, none⟩ (.int .u64 0)).setCell ⟨ga, 7, none⟩ (.bool false)).heap.size := Nat.le_trans ho8.size ho9.size
    clear hA8 hb8 hb9 ht8
    go_wp2
    go_ret
    rw [HON.out, if_pos HQ0.out]
    exact ⟨_, rfl, AkRes.nil HA9.out (fun k => (HC6.out k).imp id fun e => ⟨e.1, Nat.lt_of_lt_of_le e.2 hz9⟩) HO9.out⟩
  · have hz : 0 < QL := by rw [HQL.out]; exact List.length_pos_iff.2 hq0
    have hzB : decide (0 < QL) = true := decide_eq_true hz
    have hzB2 : decide ((0 : Int) < (QL : Int)) = true := decide_eq_true (by omega)
    have HQ0 := hid hq0
    have HBG6 := hid (HBG.out _ _ _ hA6 rfl rfl rfl)
    clear hA6 hcol6 ho6 hb6 hq0 hz
    go_wp2_with (first
      | (go_at_call 52; refine HLN6.out.mono ?_; rintro e w7 ⟨rfl, rfl⟩)
      | (go_at_call 54; refine HBG6.out.mono ?_; rintro e w8 ⟨u8, rfl, hres⟩))
    go_ret
    rw [HON.out, if_neg HQ0.out]
    exact ⟨_, rfl, hres.after HA.out.lt HC6.out HO6.out⟩
end
end Go.Proofs.Ytimlbebockfioaa
