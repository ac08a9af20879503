/- The walk of span's outcomes. -/
import Derived.Test.YtmllkniloalgoaaSteps
namespace Go.Proofs.Ytmllkniloalgoaa
open Go.RowKit

theorem evCells {w : World} {g : Nat} {t : TypeId} {x y z u : Value} (h : Blk w g t #[x, y, z, u]) : w.cell? ⟨g, 0, none⟩ = some x ∧ w.cell? ⟨g, 1, none⟩ = some y ∧ w.cell? ⟨g, 2, none⟩ = some z ∧ w.cell? ⟨g, 3, none⟩ = some u :=
  ⟨h.cell 0, h.cell 1, h.cell 2, h.cell 3⟩
def IsTold (l : List Ev) (L : List (Int × Value)) : Prop := ∀ p, alook L p = (toldF l p).map (Value.int .i64)
theorem alook_append {L : List (Int × Value)} {p q : Int} {v : Value} : alook (L ++ [(q, v)]) p = (alook L p).or (if p = q then some v else none) := by
  unfold alook
  rw [List.find?_append]
  cases hf : L.find? (fun r => decide (p = r.1)) with
  | some y => simp
  | none =>
    by_cases hpq : p = q
    · simp [hpq]
    · simp [hpq]
theorem isTold_skip {l : List Ev} {k : Nat} {x : Ev} {L : List (Int × Value)} (hx : l[k]? = some x) (h : IsTold (l.take k) L) (hs : ¬ (x.kind = 3 ∨ x.kind = 4) ∨ (alook L x.place).isSome = true) : IsTold (l.take (k + 1)) L := by
  intro p
  rw [toldF_step hx, h p]
  by_cases hi : isOut x p = true
  · have hp : (x.kind = 3 ∨ x.kind = 4) ∧ x.place = p := by simpa [isOut] using hi
    rcases hs with hs | hs
    · exact absurd hp.1 hs
    · rw [hp.2, h p] at hs
      cases ht : toldF (l.take k) p with
      | none => rw [ht] at hs; cases hs
      | some y => rfl
  · rw [if_neg hi, Option.or_none]
theorem isTold_new {l : List Ev} {k : Nat} {x : Ev} {L : List (Int × Value)} (hx : l[k]? = some x) (h : IsTold (l.take k) L) (hk : x.kind = 3 ∨ x.kind = 4) (hn : alook L x.place = none) : IsTold (l.take (k + 1)) (aput L x.place (.int .i64 (stepE x))) := by
  intro p
  rw [aput_new hn, alook_append, toldF_step hx, h p]
  by_cases hp : p = x.place
  · subst hp
    rw [h x.place] at hn
    have ht : toldF (l.take k) x.place = none := by
      cases ht : toldF (l.take k) x.place with
      | none => rfl
      | some y => rw [ht] at hn; cases hn
    rw [ht, if_pos rfl]
    have hi : isOut x x.place = true := by simp [isOut, hk]
    rw [if_pos hi]
    rfl
  · rw [if_neg hp]
    have hi : ¬ isOut x p = true := by simp [isOut]; intro _ e; exact hp e.symm
    rw [if_neg hi, Option.or_none, Option.or_none]

set_option maxRecDepth 100000
section
def SomeMap (xs : List Ev) (w : World) (e : Ending) (w' : World) : Prop := ∃ b L, e = .returned (.map (some b)) ∧ MapIs (keyInt .i64) w' b L ∧ IsTold xs L ∧ Ext w w'
set_option maxHeartbeats 1600000 in
theorem outcomes_any (v : Value) (xs : List Ev) (w : World) (h : IsSlice repEv w (all w) v xs) (hl : xs.length ≤ 1000) :
    Calls Try.prog 24 #[v] w (SomeMap xs w) := by
  obtain ⟨A, n, c, rfl, hnc, hcm, hrow⟩ := h
  have hn := hrow.1
  have hnb : n ≤ 1000 := by omega
  have HN := hid hn
  clear hn
  have hmm := @run_makeMap Try.prog
  have hz : ∀ W : World, (zeroValue 3).run Try.prog W = .ok (.int .i64 0) W := fun _ => by kernel_rfl
  have HZ := hid hz
  clear hz
  go_enter Try.func24, Try.ntmps24
  go_wp2
  go_loopw [11] (fun i wr => ∃ (k : Nat) (L : List (Int × Value)), k ≤ n ∧ i = .int .i64 k ∧ MapIs (keyInt .i64) wr w.heap.size L ∧ Hid (IsTold (xs.take k) L) ∧ Ext w wr) (fun i _ => n - (intOf i).toNat)
  case atStart => exact ⟨0, [], Nat.zero_le _, rfl, mapIs_made _ _, hid (fun p => by simp [alook, toldF]), ext_alloc _ _⟩
  case round =>
    obtain ⟨k, L, hk, rfl, hmap, HT, hext⟩ := hrel
    by_cases hlt : k < n
    · obtain ⟨b, off, x, A', m, c', rfl, hb, hx, hm1, hm2, hd, c0, c1, c2, c3⟩ := (hrow.ext hext).ev hlt
      have HX := hid hx
      have hst := fun w1 => step_any x (.slice A' m c') w1
      have HST := hid hst
      have HM := hid hmap
      have hmlt := hmap.lt
      clear hx hd hst
      generalize hkd : x.kind = kd at *
      have HKD := hid hkd
      clear hkd
      have hmap1 := fun o => hmap.ext (ext_alloc wr o)
      have HM1 := hid hmap1
      clear hmap1 hmap
      by_cases hkk : kd = 3 ∨ kd = 4
      · have hbx := Blk.new wr 52 #[.int .i64 x.step, .int .i64 kd, .int .i64 x.place, .slice A' m c']
        have hlk := (HM1.out (.cells #[.int .i64 x.step, .int .i64 kd, .int .i64 x.place, .slice A' m c'] 52)).lookup_ok (P := Try.prog) Try.underlying53 Try.underlying3 (HZ.out _) x.place
        have hextm : Ext w (wr.alloc (.cells #[.int .i64 x.step, .int .i64 kd, .int .i64 x.place, .slice A' m c'] 52)) := Ext.trans hext (ext_alloc _ _)
        cases hal : alook L x.place with
        | some val =>
          rw [hal] at hlk
          have hlk' : (Instr.lookup 53 (.map (some w.heap.size)) (.int .i64 x.place) true).run Try.prog (wr.alloc (.cells #[.int .i64 x.step, .int .i64 kd, .int .i64 x.place, .slice A' m c'] 52)) = .ok (.tuple #[val, .bool true]) (wr.alloc (.cells #[.int .i64 x.step, .int .i64 kd, .int .i64 x.place, .slice A' m c'] 52)) := hlk
          have HSK := hid (isTold_skip HX.out HT.out (.inr (by rw [hal]; rfl)))
          clear hlk hal hbx
          rcases hkk with rfl | rfl
          all_goals
            go_wp2
            go_roundw
            case rel => exact ⟨k + 1, L, by omega, by go_num, HM1.out _, HSK, hextm⟩
            case measure => simp [intOf]; omega
        | none =>
          rw [hal] at hlk
          have hlk' : (Instr.lookup 53 (.map (some w.heap.size)) (.int .i64 x.place) true).run Try.prog (wr.alloc (.cells #[.int .i64 x.step, .int .i64 kd, .int .i64 x.place, .slice A' m c'] 52)) = .ok (.tuple #[.int .i64 0, .bool false]) (wr.alloc (.cells #[.int .i64 x.step, .int .i64 kd, .int .i64 x.place, .slice A' m c'] 52)) := hlk
          have HNEW := hid (isTold_new HX.out HT.out (by rw [HKD.out]; exact hkk) hal)
          have hmo := HM1.out (.cells #[.int .i64 x.step, .int .i64 kd, .int .i64 x.place, .slice A' m c'] 52)
          have HMO := hid hmo
          generalize stepE x = se at *
          have hns : wr.heap.size ≠ w.heap.size := by omega
          clear hlk hal hmo
          rcases hkk with rfl | rfl
          · go_upto_region 8 with fail
            have hmo := HMO.out
            clear hlk' HMO HM1 HM
            generalize (wr.alloc (.cells #[.int .i64 x.step, .int .i64 3, .int .i64 x.place, .slice A' m c'] 52)) = wo at *
            generalize wr.heap.size = gx at *
            have hbd : Blk wo.drew gx 52 #[.int .i64 x.step, .int .i64 3, .int .i64 x.place, .slice A' m c'] := hbx
            have hmd : MapIs (keyInt .i64) wo.drew w.heap.size L := hmo
            obtain ⟨y0, y1, y2, y3⟩ := evCells hbd
            obtain ⟨y0o, y1o, y2o, y3o⟩ := evCells hbx
            go_region_law (first
              | (go_simp; go_at_call 34; refine (HST.out _).mono ?_; rintro r w2 ⟨rfl, hx2⟩; have hb2 := hbd.ext hx2; obtain ⟨z0, z1, z2, z3⟩ := evCells hb2; have hm2 := hmd.ext hx2; obtain ⟨w3, hrun, hmap3, hg3⟩ := hm2.update (P := Try.prog) Try.underlying53 Try.underlying3 x.place (.int .i64 se); have hrun' : (Instr.mapUpdate 53 (.map (some w.heap.size)) (.int .i64 x.place) (.int .i64 se)).run Try.prog w2 = .ok () w3 := hrun; dsimp only))
            all_goals
              go_wp2
              go_roundw
              case rel => exact ⟨k + 1, _, by omega, by go_num, hmap3, HNEW, Below.grown (Ext.trans hextm (Below.trans (Below.drew (Below.refl _ _)) (hx2.mono (Nat.le_refl _)))) hg3 (Nat.le_trans hextm.size (by simpa using hx2.size)) (fun j hj => by injection hj with e; omega)⟩
              case measure => simp [intOf]; omega
          · go_upto_region 8 with fail
            have hmo := HMO.out
            clear hlk' HMO HM1 HM
            generalize (wr.alloc (.cells #[.int .i64 x.step, .int .i64 4, .int .i64 x.place, .slice A' m c'] 52)) = wo at *
            generalize wr.heap.size = gx at *
            have hbd : Blk wo.drew gx 52 #[.int .i64 x.step, .int .i64 4, .int .i64 x.place, .slice A' m c'] := hbx
            have hmd : MapIs (keyInt .i64) wo.drew w.heap.size L := hmo
            obtain ⟨y0, y1, y2, y3⟩ := evCells hbd
            obtain ⟨y0o, y1o, y2o, y3o⟩ := evCells hbx
            go_region_law (first
              | (go_simp; go_at_call 34; refine (HST.out _).mono ?_; rintro r w2 ⟨rfl, hx2⟩; have hb2 := hbd.ext hx2; obtain ⟨z0, z1, z2, z3⟩ := evCells hb2; have hm2 := hmd.ext hx2; obtain ⟨w3, hrun, hmap3, hg3⟩ := hm2.update (P := Try.prog) Try.underlying53 Try.underlying3 x.place (.int .i64 se); have hrun' : (Instr.mapUpdate 53 (.map (some w.heap.size)) (.int .i64 x.place) (.int .i64 se)).run Try.prog w2 = .ok () w3 := hrun; dsimp only))
            all_goals
              go_wp2
              go_roundw
              case rel => exact ⟨k + 1, _, by omega, by go_num, hmap3, HNEW, Below.grown (Ext.trans hextm (Below.trans (Below.drew (Below.refl _ _)) (hx2.mono (Nat.le_refl _)))) hg3 (Nat.le_trans hextm.size (by simpa using hx2.size)) (fun j hj => by injection hj with e; omega)⟩
              case measure => simp [intOf]; omega
      · have HSK := hid (isTold_skip HX.out HT.out (.inl (by rw [HKD.out]; exact hkk)))
        have h3 : (kd != 3) = true := by simp; omega
        have h4 : (kd != 4) = true := by simp; omega
        go_wp2
        go_roundw
        case rel => exact ⟨k + 1, L, by omega, by go_num, HM1.out _, HSK, Ext.trans hext (ext_alloc _ _)⟩
        case measure => simp [intOf]; omega
    · go_wp2
      go_ret
      have hkn : k = xs.length := by have := HN.out; omega
      exact ⟨_, L, rfl, hmap, by have := HT.out; rwa [hkn, List.take_length] at this, hext⟩
end
end Go.Proofs.Ytmllkniloalgoaa
