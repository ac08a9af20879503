/- The reference's queue (kedgeref19), CopyAll. -/
import Derived.Test.YtjchobncmogcpaaPullRPlain
import Derived.Test.YtjchobncmogcpaaPullNil
namespace Go.Proofs.Ytjchobncmogcpaa
open Go.RowKit

section
variable {P : Program} {α : Type} {r : Rep α} {w : World} {ops : Array Oper} {o : Oper} {a : Act} {K : Act → World → Prop} {Q : Exit → Act → World → Prop} {E : Prop}
/-- 'append(out, x)' behind the new block, as a step of a region; and where the row lies. -/
theorem step_app1q {base g : Nat} {t e : TypeId} {bytes : Nat} {v : Value} {xs : List α} {x : α} {cs : Array Value} (s y : Operand) (hgd : o.guard = none)
    (ho : o.op = .call { callee := .builtin .append, args := #[s, y], argTypes := #[t, t] }) (ht : P.underlying t = some (.slice e)) (hi : ElemInfo P e r.size bytes) (hsz : 0 < r.size)
    (hown : Own r e base w v xs) (hs : a.eval s = v) (hx : a.eval y = .slice (some ⟨g, 0, none⟩) 1 1) (hg : g = w.heap.size) (hu : r.holds w (el base w v) cs.toList x)
    (hbytes : (xs.length + 1) * bytes ≤ 140737488355328) (h63 : xs.length + 1 ≤ maxLen) (hbase : base ≤ w.heap.size)
    (h : ∀ v' w', Own r e base w' v' (xs ++ [x]) → w.grownBy w' v.ownBlock → (v'.ownBlock = v.ownBlock ∨ v'.ownBlock = some (w.heap.size + 1)) → K (a.put o.dst v') w') : if Region.wanted o (yielded ops a.tmps) = true then o.wp P a (w.alloc (.cells cs e)) K Q else E := by
  have hw : Region.wanted o (yielded ops a.tmps) = true := by simp [Region.wanted, hgd]
  rw [if_pos hw]
  subst hg
  refine wp_app s y ho ht hi hsz (hown.ext (ext_alloc w _)) (isSlice_one hu fun k hk => (hown.lt k hk).2) hs hx hbytes h63 (by simp; omega) fun v' w' h1 h2 h3 => h v' w' h1 ?_ (by simpa using h3)
  refine ⟨h2.os, h2.tape, h2.output, Nat.le_trans (by simp) h2.size, fun k hk hne => (h2.block k (by simp; omega) hne).trans (Below.heap_alloc w _ k hk)⟩
end
/-- The queue's block and its own row may have turned. -/
def qOwn (gn : Nat) (qv : Value) : Nat → Prop := fun b => b = gn ∨ qv.ownBlock = some b
set_option maxRecDepth 100000
section
set_option maxHeartbeats 1000000 in
theorem copyAllR_any (v : Value) (xss : List (List UInt8)) (w : World) (h : IsSlice (repSlice repByte) w (all w) v xss) (hl : ∀ x ∈ xss, x.length ≤ 16777216) (hn0 : xss.length ≤ 100000) :
    Calls Try.prog 126 #[v] w fun e w' => ∃ u, e = .returned u ∧ Own (repSlice repByte) 33 w.heap.size w' u xss ∧ Ext w w' := by
  obtain ⟨A, n, c, rfl, hnc, hcm, hrow⟩ := h
  have hn := hrow.1
  have HN := hid hn
  rw [hn] at hn0
  have HL := hid hl
  clear hn hl
  go_enter Try.func126, Try.ntmps126
  go_wp2
  go_loopw [3, 4] (fun ov i wr => ∃ k : Nat, k ≤ n ∧ i = .int .i64 k ∧ Own (repSlice repByte) 33 w.heap.size wr ov (xss.take k) ∧ Ext w wr) (fun _ i _ => n - (intOf i).toNat)
  case atStart => exact ⟨0, Nat.zero_le _, rfl, own_nil _ _ _ _, Below.refl _ _⟩
  case round =>
    obtain ⟨k, hk, rfl, hown, hxr⟩ := hrel
    by_cases hlt : k < n
    · obtain ⟨b, off, A1, m1, c1, x, rfl, hx, hs1, hm1, hcx⟩ := hrow.sliceE hxr hlt
      have hsr := hs1.ext hxr
      have hxl := HL.out x (List.mem_of_getElem? hx)
      have htk := take_succ_of hx
      have HC := hid (copyB_any _ _ wr hsr hxl)
      have HTK := hid htk
      have hlen : (xss.take k).length = k := by rw [List.length_take]; have := HN.out; omega
      have HLEN := hid hlen
      have hsz := hxr.size
      clear hx hs1 hm1 hsr hxl htk hlen
      go_wp2_with (first
        | (go_at_call 112; refine HC.out.mono ?_; rintro e w3 ⟨u, rfl, hu, hx3⟩; have hu4 := hu.newer (fun q hq => hown.lt q hq) hsz; have hown3 := hown.ext hx3; obtain ⟨Au, cu, rfl⟩ := hu.shape; clear hu)
        | (at_builtin; refine wpl_app1 (r := repSlice repByte) (base := w.heap.size) (x := x) (cs := #[.slice Au x.length cu]) _ _ rfl rfl Try.underlying25 info_bytes (by decide) hown3 rfl rfl rfl (isSlice_single hu4) (by rw [HLEN.out]; omega) (by rw [HLEN.out]; simp only [maxLen]; omega) (Nat.le_trans hsz hx3.size) ?_; intro v5 w5 hown5 hg5))
      go_roundw
      case rel =>
        exact ⟨k + 1, by omega, by go_num, by rw [HTK.out]; exact hown5, Below.grown (Ext.trans hxr hx3) hg5 (Nat.le_trans hsz hx3.size) (fun q hq => (hown3.lt q hq).1)⟩
      case measure => simp [intOf]; omega
    · obtain rfl : k = n := by omega
      go_wp2
      go_ret
      refine ⟨_, rfl, ?_, hxr⟩
      rwa [List.take_of_length_le (by rw [HN.out]; exact Nat.le_refl _)] at hown
set_option maxHeartbeats 1000000 in
theorem pushR_any (w : World) (gn lo : Nat) (room : Int) (qv : Value) (qs : List (List UInt8)) (hb : Blk w gn 61 #[.int .i64 room, qv]) (hown : Own (repSlice repByte) 33 lo w qv qs) (hgn : gn < lo) (hlo : lo ≤ w.heap.size) (hq : (qs.length : Int) < room) (hr : room ≤ 16)
    (v : Value) (x : List UInt8) (hv : IsSlice repByte w (all w) v x) (hx : x.length ≤ 64) :
    Calls Try.prog 125 #[.pointer (some ⟨gn, 0, none⟩), v] w fun e w' => e = .returned (.int .i64 0) ∧ Out (qOwn gn qv) w w' ∧
      ∃ qv', Blk w' gn 61 #[.int .i64 room, qv'] ∧ Own (repSlice repByte) 33 lo w' qv' (qs ++ [x]) ∧ ∀ b, qv'.ownBlock = some b → qv.ownBlock = some b ∨ w.heap.size ≤ b := by
  obtain ⟨Av, cv, rfl⟩ := hv.shape
  obtain ⟨dl, hdle⟩ : ∃ dl, dl = x.length := ⟨_, rfl⟩
  rw [← hdle] at hv hx ⊢
  have HDL := hid hdle
  obtain ⟨Aq, cq, rfl, hcq1, hcq2, _⟩ := hown.form
  obtain ⟨qn, hqn⟩ : ∃ qn, qn = qs.length := ⟨_, rfl⟩
  rw [← hqn] at hb hown hcq1 hq ⊢
  have HQN := hid hqn
  have c0 := hb.cell 0
  have c1 := hb.cell 1
  have hgl := hb.lt
  have hd1 : decide ((room : Int) ≤ (qn : Int)) = false := decide_eq_false (by omega)
  have hd2 : decide (64 < dl) = false := decide_eq_false (by omega)
  have hd3 : decide ((64 : Int) < (dl : Int)) = false := decide_eq_false (by omega)
  have HOW := hid hown
  have HBB := hid hb
  have HV := hid hv
  clear hdle hqn hown hb hv
  go_enter Try.func125, Try.ntmps125
  go_wp2
  go_quiet (fail)
  go_upto_region 7 with (fail)
  have hx1 : Ext w (w.drewN nq) := ext_drewN _ _
  generalize w.drewN nq = w1 at *
  have HC := hid (fun (W : World) (he : Ext w1 W) => copyB_any _ _ W (HV.out.ext (Ext.trans hx1 he)) (by have := HDL.out; omega))
  have xd : Ext w1 w1.drew := Below.drew (Below.refl _ _)
  have hlt := HOW.out.lt
  have HLT := hid hlt
  have d1 := (hx1.cell hgl 1).trans c1
  have hgl1 : gn < w1.heap.size := Nat.lt_of_lt_of_le hgl hx1.size
  have hlo1 : lo ≤ w1.heap.size := Nat.le_trans hlo hx1.size
  clear hlt
  go_region_law (first
    | (go_simp; go_at_call 112; refine (HC.out _ xd).mono ?_; rintro r w3 ⟨u3, rfl, hu3, hx3⟩; have x13 := Ext.trans xd hx3; have x03 := Ext.trans hx1 x13; have hu4 := (hu3.since xd).newer (fun k hk => by have := HLT.out k hk; exact ⟨this.1, Nat.lt_of_lt_of_le this.2 hx1.size⟩) hlo1; clear hu3; obtain ⟨Au, cu, rfl⟩ := hu4.shape; have hb3 := HBB.out.ext x03; have c13 := hb3.cell 1; have hown3 := HOW.out.ext x03; have c1b : (w3.alloc (.cells #[.slice Au x.length cu] 33)).cell? ⟨gn, 1, none⟩ = some (.slice Aq qn cq) := (World.cell?_alloc_lt w3 _ _ hb3.lt).trans c13; dsimp only)
    | (refine step_app1q (r := repSlice repByte) (base := lo) (x := x) (cs := #[.slice Au x.length cu]) _ _ rfl rfl Try.underlying25 info_bytes (by decide) hown3 rfl rfl rfl (isSlice_single hu4) (by have := HQN.out; omega) (by have := HQN.out; simp only [maxLen]; omega) (Nat.le_trans hlo1 x13.size) ?_; intro v4 w4 hown4 hg4 hb44; obtain ⟨NL, hNL⟩ : ∃ NL, NL = qs ++ [x] := ⟨_, rfl⟩; rw [← hNL] at hown4; have HNL := hid hNL; clear hNL; obtain ⟨A4, c4', rfl, _⟩ := hown4.form; have hb4 := hb3.grown hg4 (fun e => by have := HLT.out gn e.symm; omega); have c24 := hb4.cell 1; have k24 := hb4.frozen 1))
  all_goals
    go_wp2
    go_ret
    have hs := hb4.set_ 1 (.slice A4 NL.length c4')
    have hos : Only gn w4 (w4.setCell ⟨gn, 1, none⟩ (.slice A4 NL.length c4')) := (Only.refl _ _).set_ _ _
    have ho4 : Out (qOwn gn (.slice Aq qn cq)) w w4 := by
      refine ⟨hg4.os.trans x03.os, hg4.tape.trans x03.tape, hg4.output.trans x03.output, Nat.le_trans x03.size hg4.size, fun k hk hn => (hg4.block k (Nat.lt_of_lt_of_le hk x03.size) (fun e => hn (.inr e.symm))).trans (x03.block k hk)⟩
    refine ⟨rfl, ho4.trans (Out.of_only hos (.inl rfl)), _, hs, ?_, fun b hb => ?_⟩
    · have h5 := hown4.out (X := fun b => b = gn) (Out.of_only hos rfl) (fun b hb => by omega)
      rw [HNL.out] at h5 ⊢
      exact h5
    · rcases hb44 with h | h
      · exact .inl (by rw [← h]; exact hb)
      · right
        have e := h.symm.trans hb
        injection e with e
        have := x03.size
        omega
theorem pushFull_any (w : World) (gn lo : Nat) (room : Int) (qv : Value) (qs : List (List UInt8)) (hb : Blk w gn 61 #[.int .i64 room, qv]) (hown : Own (repSlice repByte) 33 lo w qv qs) (hq : room ≤ (qs.length : Int))
    (v : Value) (x : List UInt8) (hv : IsSlice repByte w (all w) v x) (hx : x.length ≤ 64) :
    Calls Try.prog 125 #[.pointer (some ⟨gn, 0, none⟩), v] w fun e w' => e = .returned (.int .i64 3) ∧ Ext w w' := by
  obtain ⟨Av, cv, rfl⟩ := hv.shape
  obtain ⟨dl, hdle⟩ : ∃ dl, dl = x.length := ⟨_, rfl⟩
  rw [← hdle] at hx ⊢
  obtain ⟨Aq, cq, rfl, hcq1, hcq2, _⟩ := hown.form
  obtain ⟨qn, hqn⟩ : ∃ qn, qn = qs.length := ⟨_, rfl⟩
  rw [← hqn] at hb hq
  have c0 := hb.cell 0
  have c1 := hb.cell 1
  have hd1 : decide ((room : Int) ≤ (qn : Int)) = true := decide_eq_true (by omega)
  have hd2 : decide (64 < dl) = false := decide_eq_false (by omega)
  have hd3 : decide ((64 : Int) < (dl : Int)) = false := decide_eq_false (by omega)
  clear hdle hqn hown hb hv hcq1
  go_enter Try.func125, Try.ntmps125
  go_wp2
  go_quiet (fail)
  go_wp2
  go_ret
  exact ⟨rfl, ext_drewN _ _⟩
theorem popNilR_any (w : World) (gn lo : Nat) (room : Int) (qv : Value) (hb : Blk w gn 61 #[.int .i64 room, qv]) (hown : Own (repSlice repByte) 33 lo w qv []) :
    Calls Try.prog 84 #[.pointer (some ⟨gn, 0, none⟩)] w fun e w' => e = .returned (.tuple #[.slice none 0 0, .bool false]) ∧ w = w' := by
  obtain ⟨Aq, cq, rfl, hcq1, hcq2, _⟩ := hown.form
  have c1 : w.cell? ⟨gn, 1, none⟩ = some (.slice Aq 0 cq) := hb.cell 1
  clear hown hb hcq1
  go_enter Try.func84, Try.ntmps84
  go_wp2
  go_ret2
  exact ⟨rfl, rfl⟩
set_option maxHeartbeats 1000000 in
theorem popR_any (w : World) (gn lo : Nat) (room : Int) (qv : Value) (x : List UInt8) (qs : List (List UInt8)) (hb : Blk w gn 61 #[.int .i64 room, qv]) (hown : Own (repSlice repByte) 33 lo w qv (x :: qs)) (hgn : gn < lo) (hlo : lo ≤ w.heap.size) (hl : ∀ y ∈ x :: qs, y.length ≤ 64) (hq : qs.length ≤ 100) :
    Calls Try.prog 84 #[.pointer (some ⟨gn, 0, none⟩)] w fun e w' => ∃ mv, e = .returned (.tuple #[mv, .bool true]) ∧ IsSlice repByte w' (fun b => lo ≤ b ∧ b < w.heap.size) mv x ∧ Only gn w w' ∧
      ∃ qv', Blk w' gn 61 #[.int .i64 room, qv'] ∧ Own (repSlice repByte) 33 lo w' qv' qs ∧ ∀ b, qv'.ownBlock = some b → w.heap.size ≤ b := by
  have hgl := hb.lt
  obtain ⟨Aq, cq, rfl, hcq1, hcq2, hrow⟩ := hown.form
  obtain ⟨b0, off, A0, m0, c0', y, hAq, hbb, hy, hm1, hm2, hr0, hc0⟩ := hrow.slice (k := 0) (by simp)
  obtain rfl : y = x := by simpa using hy.symm
  have hsm : IsSlice repByte w (fun b => lo ≤ b ∧ b < w.heap.size) (.slice A0 m0 c0') y := ⟨A0, m0, c0', rfl, hm1, hm2, hr0⟩
  have hst := hown.slice
  obtain ⟨A1, hr1, hs1⟩ := cut_from (P := Try.prog) Try.underlying25 info_bytes hst (k := 1) (by simp)
  simp only [List.length_cons, Nat.add_sub_cancel, List.drop_succ_cons, List.drop_zero] at hr1 hs1
  have hcut : ∀ w, (Instr.sliceAt 25 (.slice Aq (qs.length + 1) cq) (some (.int .i64 1)) none none).run Try.prog w = .ok (.slice A1 qs.length (cq - 1)) w := hr1
  subst hAq
  obtain ⟨n, hn⟩ : ∃ n, n = qs.length := ⟨_, rfl⟩
  have hbq : Blk w gn 61 #[.int .i64 room, .slice (some ⟨b0, off, none⟩) (n + 1) cq] := by rw [hn]; exact hb
  rw [← hn] at hcut hs1 hq
  have c1 : w.cell? ⟨gn, 1, none⟩ = some (.slice (some ⟨b0, off, none⟩) (n + 1) cq) := hbq.cell 1
  have HCA := hid (copyAllR_any _ qs w hs1 (fun z hz => by have := hl z (by simp [hz]); omega) (by omega))
  have HBQ := hid hbq
  have HSM := hid hsm
  have hnz : (((n + 1 : Nat) : Int) == 0) = false := by simp; omega
  have hnz2 : ((n : Int) + 1 == 0) = false := by simp; omega
  have hnp : 0 < n + 1 := by omega
  rw [show off + 0 = off from rfl] at hc0
  rw [List.length_cons, ← hn] at hcq1
  clear hb hown hrow hr0 hst hr1 hs1 hbq hsm hy hl hn
  go_enter Try.func84, Try.ntmps84
  go_wp2_with (go_at_call 126; refine HCA.out.mono ?_; rintro e w3 ⟨u, rfl, hu, hx3⟩; obtain ⟨A5, c5, rfl, _⟩ := hu.form; have hb5 := HBQ.out.ext hx3; have f5 := hb5.cell 1; have f6 := hb5.frozen 1)
  go_ret2
  have hs := hb5.set_ 1 (.slice A5 qs.length c5)
  have hos : Only gn w3 (w3.setCell ⟨gn, 1, none⟩ (.slice A5 qs.length c5)) := (Only.refl _ _).set_ _ _
  refine ⟨_, rfl, HSM.out.keep (fun b hb => ⟨hb, fun o => (hos.cell (Nat.lt_of_lt_of_le hb.2 hx3.size) (by omega) o).trans (hx3.cell hb.2 o)⟩), (Only.of_ext hx3).trans hos, _, hs, ?_, fun b hb => (hu.lt b hb).1⟩
  have h5 := (hu.out (X := fun b => b = gn) (Out.of_only hos rfl) (fun b hb => by omega))
  obtain ⟨ys, ⟨g1, g2⟩, g3⟩ := h5
  refine ⟨ys, ⟨g1, ?_⟩, fun j hj => (repSlice repByte).keep (g3 j hj) fun b hb' => ⟨⟨Nat.le_trans hlo hb'.1, hb'.2⟩, fun _ => rfl⟩⟩
  rcases g2 with g2 | ⟨g, cap, cur, q1, q2, q3⟩
  · exact .inl g2
  · exact .inr ⟨g, cap, cur, q1, Nat.le_trans hlo q2, q3⟩
end
end Go.Proofs.Ytjchobncmogcpaa
