/- The walk of the reference's Get. -/
import Derived.Test.YtjchobncmogcpaaKeepE
import Derived.Test.YtjchobncmogcpaaKeepRd2

import Derived.Test.YtjchobncmogcpaaKeepRun
namespace Go.Proofs.Ytjchobncmogcpaa
open Go.RowKit
section
variable {X Y : Nat → Prop} {w w' : World} {g gc : Nat} {s : St}
theorem RdR.widen (h : RdR X w g s) (he : Ext w w') (hY : ∀ k, Y k → X k ∨ (w.heap.size ≤ k ∧ k < w'.heap.size)) (hg : Y g) : RdR Y w' g s := by
  obtain ⟨v, ok, c, h1, h2, h3, h4, h5, h6⟩ := h
  refine ⟨v, ok, c, h1.ext he, h2.keep fun k hk => ⟨⟨Nat.lt_of_lt_of_le hk.1 he.size, fun hy => ?_⟩, fun o => he.cell hk.1 o⟩, h3, hg, fun k hk => ?_, h6⟩
  · rcases hY k hy with h | h
    · exact hk.2 h
    · have := hk.1; omega
  · rcases hY k hk with h | h
    · exact Nat.lt_of_lt_of_le (h5 k h) he.size
    · exact h.2
theorem RdR.one (h : RdR X w g s) (he : Ext w w') (hlt : w.heap.size < w'.heap.size) (hg : X g) : RdR (fun k => X k ∨ k = w.heap.size) w' g s :=
  h.widen he (fun k hk => hk.imp id fun e => by rw [e]; exact ⟨Nat.le_refl _, hlt⟩) (.inl hg)
theorem RdR.narrow (h : RdR X w g s) (hY : ∀ k, Y k → X k) (hg : Y g) : RdR Y w g s := by
  obtain ⟨v, ok, c, h1, h2, h3, h4, h5, h6⟩ := h
  exact ⟨v, ok, c, h1, h2.keep fun k hk => ⟨⟨hk.1, fun hy => hk.2 (hY k hy)⟩, fun _ => rfl⟩, h3, hg, fun k hk => h5 k (hY k hk), h6⟩
theorem RdR.farOnly (h : RdR X w g s) (hx : X gc) (hne : g ≠ gc) (ho : Only gc w w') : RdR X w' g s := by
  obtain ⟨v, ok, c, h1, h2, h3, h4, h5, h6⟩ := h
  exact ⟨v, ok, c, h1.grown ho (fun e => hne (by injection e)), h2.outOnly ho hx, h3, h4, fun k hk => Nat.lt_of_lt_of_le (h5 k hk) ho.size, h6⟩
theorem RdR.grow {u v : Value} (h : RdR X w g s) (hg : w.grownBy w' v.ownBlock) (hv : u.ownBlock = v.ownBlock ∨ u.ownBlock = some w.heap.size) (hX : ∀ k, v.ownBlock = some k → X k ∧ k ≠ g) (hu : ∀ k, u.ownBlock = some k → k < w'.heap.size)
    (hY : ∀ k, Y k → X k ∨ u.ownBlock = some k) (hYg : Y g) : RdR Y w' g s := by
  obtain ⟨x, ok, c, h1, h2, h3, h4, h5, h6⟩ := h
  refine ⟨x, ok, c, h1.grown hg (fun e => (hX g e.symm).2 rfl), h2.keep fun k hk => ⟨⟨Nat.lt_of_lt_of_le hk.1 hg.size, fun hy => ?_⟩, fun o => World.cell?_of_block (hg.block k hk.1 fun e => hk.2 (hX k e.symm).1)⟩, h3, hYg, fun k hk => ?_, h6⟩
  · rcases hY k hy with h | h
    · exact hk.2 h
    · rcases hv with e | e
      · exact hk.2 (hX k (e ▸ h)).1
      · rw [e] at h; injection h with h; have := hk.1; omega
  · rcases hY k hk with h | h
    · exact Nat.lt_of_lt_of_le (h5 k h) hg.size
    · exact hu k h
theorem RdR.okCell (h : RdR X w g s) : w.cell? ⟨g, 1, none⟩ = some (.bool s.isSome) := by
  obtain ⟨v, ok, c, h1, h2, h3, h4, h5, h6⟩ := h
  have := h1.cell 1
  rcases h6 with ⟨rfl, rfl⟩ | ⟨rfl, rfl⟩ <;> exact this
end
theorem results_row_tmp {P : Program} {fn : Func} {p q : Tmp} {t1 : TypeId} (h : fn.results = #[.cell p t1, .tmp q]) (tmps : Array Value) (w : World) (g : Nat) (t : TypeId) (cs : Array Value) (v : Value) (d : TypeDesc)
    (hp : tmps.getD p undef = .pointer (some ⟨g, 0, none⟩)) (hg : Blk w g t cs)
    (hu : P.underlying t1 = some d) (hd : (match d with | .struct _ | .array _ _ => true | _ => false) = true) (hi : (P.info? t1).map (·.size) = some cs.size)
    (hq : tmps.getD q undef = v) :
    (results fn tmps).run P w = .ok (.tuple #[.agg cs, v]) w := by
  have hp' : tmps[p]?.getD undef = .pointer (some ⟨g, 0, none⟩) := by simpa using hp
  have hq' : tmps[q]?.getD undef = v := by simpa using hq
  have e1 : (loadVar t1 ⟨g, 0, none⟩).run P w = .ok (.agg cs) w := by first | exact run_loadVar_row w g t t1 cs (0, 0) d hg hu hd hi | exact run_loadVar_row w g t1 t cs (0, 0) d hg hu hd hi
  simp only [results, h, hp', hq', asAddr, Sem.run_bind, Sem.run_pure, Result.andThen_ok]
  simp [hp', hq', asAddr, e1]
theorem litMagic (w : World) : IsSlice repByte (w.alloc (.cells #[.int .u8 75, .int .u8 82] 5)) (all (w.alloc (.cells #[.int .u8 75, .int .u8 82] 5))) (.slice (some ⟨w.heap.size, 0, none⟩) 2 2) magicB :=
  isSlice_lit2 (r := repByte) rfl rfl rfl
set_option maxRecDepth 100000
/-- What the reference's reader is begun with. -/
def stOf (r : Option (List UInt8)) : St := r
section
/-- What Get of a body that may not be there makes. -/
def GetsR (s0 : St) (w : World) (e : Ending) (w' : World) : Prop :=
  (∃ b0, s0 = some b0 ∧ (runS b0).2 = some [] ∧ ∃ cs, e = .returned (.tuple #[.agg cs, .int .i64 0]) ∧ repRun.holds w' (fresh w w') cs.toList (runS b0).1) ∨ ((∀ b0, s0 = some b0 → (runS b0).2 = none) ∧ e = .returned (.tuple #[.agg kZero, .int .i64 40]))

set_option maxHeartbeats 16000000 in
theorem rget_any (s0 : St) (v : Value) (xs : List UInt8) (w : World) (h : IsSlice repByte w (all w) v xs)
    (hchk : ∀ W, Ext w W → Calls Try.prog 99 #[v] W fun e w' => ∃ (u : Value) (c : List UInt8), e = .returned (.tuple #[u, .bool s0.isSome]) ∧ (s0 = none ∧ c = [] ∨ s0 = some c) ∧ c.length ≤ 1000000 ∧ IsSlice repByte w' (fresh W w') u c ∧ Ext W w') :
    Calls Try.prog 36 #[v] w fun e w' => GetsR s0 w e w' ∧ Ext w w' := by
  obtain ⟨w0, hw0⟩ : ∃ w0, w.alloc (.cells kZero 69) = w0 := ⟨_, rfl⟩
  have hx0 : Ext w w0 := hw0 ▸ ext_alloc _ _
  have hz0 : Blk w0 w.heap.size 69 kZero := by rw [← hw0]; exact Blk.new _ _ _
  have hlt0 : w.heap.size < w0.heap.size := hz0.lt
  have HC := hid (hchk w0 hx0)
  clear hchk
  unfold kZero kVals run0 at hw0
  dsimp only at hw0
  have hz0' := hid hz0
  clear hz0
  have hSame := hid (fun (W : World) (v u : Value) (xs : List UInt8) (h : IsSlice repByte W (all W) v xs) (h' : IsSlice repByte W (all W) u magicB) => sameB_any v u xs magicB W h h')
  obtain ⟨Av, cv, rfl⟩ := h.shape
  generalize xs.length = nv at *
  obtain ⟨q, hq⟩ : ∃ q, (tkS 2 s0).1 = q := ⟨_, rfl⟩
  obtain ⟨mg, hmg⟩ : ∃ mg, mg = decide (q = magicB) := ⟨_, rfl⟩
  have HQ := hid hq
  have HMG := hid hmg
  clear hq hmg
  go_enter Try.func36, Try.ntmps36
  go_upto_if 26 with (first
    | (go_at_call 27
       have hm3 := litMagic w2
       refine (hSame.out _ _ _ _ ((hu2.any).ext (ext_alloc _ _)) hm3).mono ?_
       rintro e w4 ⟨rfl, n4, hw4⟩
       have hx4 : Ext w2 w4 := by rw [hw4]; exact Ext.trans (ext_alloc _ _) (ext_drewN _ _)
       have hr4 := hr2.ext hx4
       clear hw4 hm3
       rw [← HMG.out])
    | (go_at_call 100
       have hbR := Blk.new w1 168 #[.slice A1 l1 c1, .bool s0.isSome]
       have hrR : RdR (fun k => k = w1.heap.size) (w1.alloc (.cells #[.slice A1 l1 c1, .bool s0.isSome] 168)) w1.heap.size s0 := ⟨_, _, cb, hbR, hu1.keep fun k hk => ⟨⟨by have h2 : k < w1.heap.size := hk.2; simp; omega, fun e => by have h2 : k < w1.heap.size := hk.2; omega⟩, fun o => (ext_alloc _ _).cell hk.2 o⟩, hcbl.out, rfl, fun k hk => by rw [hk]; simp, by rcases hcb.out with ⟨rfl, _⟩ | rfl <;> simp⟩
       refine (rtake_any (fun k => k = w1.heap.size) _ w1.heap.size 2 s0 hrR).mono ?_
       rintro e w2 ⟨u2, rfl, hu2, hr2, ho2⟩
       rw [HQ.out] at hu2
       obtain ⟨A2, c2, rfl⟩ := hu2.shape
       generalize q.length = nq at hu2 ⊢)
    | (go_at_call 99
       refine HC.out.mono ?_
       rintro e w1 ⟨u1, cb, rfl, hcb, hcbl, hu1, hx1⟩
       obtain ⟨A1, c1, rfl⟩ := hu1.shape
       generalize cb.length = l1 at hu1 ⊢
       have hcb := hid hcb
       have hcbl := hid hcbl))

  have hgw1 : w.heap.size < w1.heap.size := by have := hx1.size; omega
  have hgz : w.heap.size ≠ w1.heap.size := by omega
  have hE2 : Ext w w2 := (ho2.ext_new (Ext.trans (Ext.trans hx0 hx1) (ext_alloc _ _)) (by omega))
  have hz4 : Blk w4 w.heap.size 69 kZero := ((((hz0'.out.ext hx1).ext (ext_alloc _ _)).grown ho2 (fun e => hgz (by injection e))).ext hx4)
  have hE4 := Ext.trans hE2 hx4
  have hgw4 : w.heap.size ≤ w4.heap.size := hE4.size
  cases mg with
  | false =>
    have hno : q ≠ magicB := of_decide_eq_false HMG.out.symm
    have HGN := hid (show ∀ b0, s0 = some b0 → (runS b0).2 = none from fun b0 hb => by
      subst hb
      simp only [runS]
      rw [if_neg (by rw [HQ.out]; exact hno)])
    clear hno
    go_wp2_with (first
      | (refine wpl_row (g := w.heap.size) (cs := kZero) _ _ rfl rfl rfl rfl hz4 (by kernel_rfl) rfl (kVals_one _ _ _ _ _ _ _) ?_; intro w5 hb5 ho5))
    exact bodyPost_ret (results_row_tmp Try.results36 _ _ w.heap.size 69 kZero _ _ rfl hb5 Try.underlying69 rfl (by kernel_rfl) rfl) rfl ⟨.inr ⟨HGN.out, rfl⟩, ho5.ext_new hE4 (Nat.le_refl _)⟩
  | true =>
    have hyes : q = magicB := of_decide_eq_true HMG.out.symm
    obtain ⟨b0, rfl⟩ : ∃ b0, s0 = some b0 := by
      cases s0 with
      | none => rw [hyes] at HQ; exact absurd HQ.out (by simp [tkS, magicB])
      | some b0 => exact ⟨b0, rfl⟩
    have HYES := hid (show (tkS 2 (some b0)).1 = magicB from HQ.out.trans hyes)
    obtain ⟨F, hF⟩ : ∃ F, F = runS b0 := ⟨_, rfl⟩
    have HF := hid hF
    generalize hs1 : (tkS 2 (some b0)).2 = s1 at hr4
    have HS1 := hid hs1
    clear hyes hF hs1 HQ HMG hu2 hr2
    have hxA := ext_alloc w4 (.cells #[.int .i64 0, .int .i64 0, .int .i64 0, .int .i64 0, .int .i64 0, .int .i64 0, .int .u64 0, .slice none 0 0, .slice none 0 0] 69)
    have hbA := Blk.new w4 69 #[.int .i64 0, .int .i64 0, .int .i64 0, .int .i64 0, .int .i64 0, .int .i64 0, .int .u64 0, .slice none 0 0, .slice none 0 0]
    have hrA := hr4.one hxA hbA.lt rfl
    have hgA : w4.heap.size ≠ w1.heap.size := fun e => by have := hr4.lt; omega
    have hzx : w.heap.size ≠ w4.heap.size := by have := hr4.lt; omega
    have hzA := hz4.ext hxA
    have hEA := Ext.trans hE4 hxA
    go_wp2_with (first
      | (go_at_call 102
         have _t := hy8
         refine (rcount_any (fun k => k = w1.heap.size ∨ k = w4.heap.size) x8 w1.heap.size 200 s8 hy8 (by omega)).mono ?_
         rintro e x9 ⟨rfl, hy9, hp9⟩
         have hbx9 := hbx8.grown hp9 (fun e => hgA (by injection e))
         have hzx9 := hzx8.grown hp9 (fun e => hgz (by injection e))
         have hE'9 := hp9.ext_new hE'8 (Nat.le_of_lt hgw1)
         have hN9 := cntS_le 200 s8
         generalize hK9 : (cntS 200 s8).1 = N9 at hN9 ⊢
         have HK9 := hid hK9
         generalize hs9 : (cntS 200 s8).2 = s9 at hy9
         have HS9 := hid hs9
         clear hK9 hs9)
      | (refine wpl_mid (g := w4.heap.size) (k := 0) (t := 69) (old := [.int .i64 0, .int .i64 0, .int .i64 0, .int .i64 0, .int .i64 0, .int .i64 0, .int .u64 0, .slice none 0 0, .slice none 0 0]) (cs := KC) _ _ rfl rfl rfl (by rw [HKC.out]; rfl) hbx7 HKl.out HKi.out HKo.out ?_
         intro x8 hbx8 hp8
         rw [HKs.out, HKC.out] at hbx8
         change Blk x8 w4.heap.size 69 #[.int .i64 P1, .int .i64 P2, .int .i64 P3, .int .i64 P4, .int .i64 P5, .int .i64 P6, .int .u64 (K7 : Nat), .slice none 0 0, .slice none 0 0] at hbx8
         have hy8 := hy7.farOnly (.inr rfl) (fun e => hgA e.symm) hp8
         have hzx8 := hzx7.grown hp8 (fun e => hzx (by injection e))
         have hE'8 := hp8.ext_new hE'7 (by have := hr4.lt; omega))
      | (go_at_call 101
         have _t := hy6
         generalize hP6 : wrap64 ((K6 : Nat) : Int) = P6
         have HP6 := hid hP6
         clear hP6
         refine (rwide_any (fun k => k = w1.heap.size ∨ k = w4.heap.size) x6 w1.heap.size s7 hy6).mono ?_
         rintro e x7 ⟨rfl, hy7, hp7⟩
         have hbx7 := hbx6.grown hp7 (fun e => hgA (by injection e))
         have hzx7 := hzx6.grown hp7 (fun e => hgz (by injection e))
         have hE'7 := hp7.ext_new hE'6 (Nat.le_of_lt hgw1)
         generalize hK7 : (wideS s7).1 = K7
         have HK7 := hid hK7
         generalize hs8 : (wideS s7).2 = s8 at hy7
         have HS8 := hid hs8
         clear hK7 hs8
         obtain ⟨KC, hKC⟩ : ∃ KC : Array Value, KC = #[.int .i64 P1, .int .i64 P2, .int .i64 P3, .int .i64 P4, .int .i64 P5, .int .i64 P6, .int .u64 (K7 : Nat)] := ⟨_, rfl⟩
         have hKs : KC.size = 7 := by rw [hKC]; rfl
         have hKo : KC.all (·.oneCell') = true := by rw [hKC]; simp [Value.oneCell']
         have hKi : (Try.prog.info? 24).map (·.size) = some KC.size := by rw [hKs]; kernel_rfl
         have hKl : 0 + KC.size ≤ ([.int .i64 0, .int .i64 0, .int .i64 0, .int .i64 0, .int .i64 0, .int .i64 0, .int .u64 0, .slice none 0 0, .slice none 0 0] : List Value).length := by rw [hKs]; decide
         have HKC := hid hKC
         have HKs := hid hKs
         have HKo := hid hKo
         have HKi := hid hKi
         have HKl := hid hKl
         clear hKC hKs hKo hKi hKl)
      | (go_at_call 101
         have _t := hy5
         generalize hP5 : wrap64 ((K5 : Nat) : Int) = P5
         have HP5 := hid hP5
         clear hP5
         refine (rwide_any (fun k => k = w1.heap.size ∨ k = w4.heap.size) x5 w1.heap.size s6 hy5).mono ?_
         rintro e x6 ⟨rfl, hy6, hp6⟩
         have hbx6 := hbx5.grown hp6 (fun e => hgA (by injection e))
         have hzx6 := hzx5.grown hp6 (fun e => hgz (by injection e))
         have hE'6 := hp6.ext_new hE'5 (Nat.le_of_lt hgw1)
         generalize hK6 : (wideS s6).1 = K6
         have HK6 := hid hK6
         generalize hs7 : (wideS s6).2 = s7 at hy6
         have HS7 := hid hs7
         clear hK6 hs7)
      | (go_at_call 101
         have _t := hy4
         generalize hP4 : wrap64 ((K4 : Nat) : Int) = P4
         have HP4 := hid hP4
         clear hP4
         refine (rwide_any (fun k => k = w1.heap.size ∨ k = w4.heap.size) x4 w1.heap.size s5 hy4).mono ?_
         rintro e x5 ⟨rfl, hy5, hp5⟩
         have hbx5 := hbx4.grown hp5 (fun e => hgA (by injection e))
         have hzx5 := hzx4.grown hp5 (fun e => hgz (by injection e))
         have hE'5 := hp5.ext_new hE'4 (Nat.le_of_lt hgw1)
         generalize hK5 : (wideS s5).1 = K5
         have HK5 := hid hK5
         generalize hs6 : (wideS s5).2 = s6 at hy5
         have HS6 := hid hs6
         clear hK5 hs6)
      | (go_at_call 101
         have _t := hy3
         generalize hP3 : wrap64 ((K3 : Nat) : Int) = P3
         have HP3 := hid hP3
         clear hP3
         refine (rwide_any (fun k => k = w1.heap.size ∨ k = w4.heap.size) x3 w1.heap.size s4 hy3).mono ?_
         rintro e x4 ⟨rfl, hy4, hp4⟩
         have hbx4 := hbx3.grown hp4 (fun e => hgA (by injection e))
         have hzx4 := hzx3.grown hp4 (fun e => hgz (by injection e))
         have hE'4 := hp4.ext_new hE'3 (Nat.le_of_lt hgw1)
         generalize hK4 : (wideS s4).1 = K4
         have HK4 := hid hK4
         generalize hs5 : (wideS s4).2 = s5 at hy4
         have HS5 := hid hs5
         clear hK4 hs5)
      | (go_at_call 101
         have _t := hy2
         generalize hP2 : wrap64 ((K2 : Nat) : Int) = P2
         have HP2 := hid hP2
         clear hP2
         refine (rwide_any (fun k => k = w1.heap.size ∨ k = w4.heap.size) x2 w1.heap.size s3 hy2).mono ?_
         rintro e x3 ⟨rfl, hy3, hp3⟩
         have hbx3 := hbx2.grown hp3 (fun e => hgA (by injection e))
         have hzx3 := hzx2.grown hp3 (fun e => hgz (by injection e))
         have hE'3 := hp3.ext_new hE'2 (Nat.le_of_lt hgw1)
         generalize hK3 : (wideS s3).1 = K3
         have HK3 := hid hK3
         generalize hs4 : (wideS s3).2 = s4 at hy3
         have HS4 := hid hs4
         clear hK3 hs4)
      | (go_at_call 101
         have _t := hy1
         generalize hP1 : wrap64 ((K1 : Nat) : Int) = P1
         have HP1 := hid hP1
         clear hP1
         refine (rwide_any (fun k => k = w1.heap.size ∨ k = w4.heap.size) x1 w1.heap.size s2 hy1).mono ?_
         rintro e x2 ⟨rfl, hy2, hp2⟩
         have hbx2 := hbx1.grown hp2 (fun e => hgA (by injection e))
         have hzx2 := hzx1.grown hp2 (fun e => hgz (by injection e))
         have hE'2 := hp2.ext_new hE'1 (Nat.le_of_lt hgw1)
         generalize hK2 : (wideS s2).1 = K2
         have HK2 := hid hK2
         generalize hs3 : (wideS s2).2 = s3 at hy2
         have HS3 := hid hs3
         clear hK2 hs3)
      | (go_at_call 101
         have _t := hrA
         refine (rwide_any (fun k => k = w1.heap.size ∨ k = w4.heap.size) _ w1.heap.size s1 hrA).mono ?_
         rintro e x1 ⟨rfl, hy1, hp1⟩
         have hbx1 := hbA.grown hp1 (fun e => hgA (by injection e))
         have hzx1 := hzA.grown hp1 (fun e => hgz (by injection e))
         have hE'1 := hp1.ext_new hEA (Nat.le_of_lt hgw1)
         generalize hK1 : (wideS s1).1 = K1
         have HK1 := hid hK1
         generalize hs2 : (wideS s1).2 = s2 at hy1
         have HS2 := hid hs2
         clear hK1 hs2))

    have hw9g : w1.heap.size < x9.heap.size := hy9.lt
    have hw94 : w4.heap.size < x9.heap.size := hbx9.lt
    go_loopw [8] (fun i wr => ∃ (r : Nat) (dr : List Int) (s : St) (v : Value), r ≤ N9 ∧ i = .int .i64 (r : Nat) ∧ Wall (drawsS N9 [] s9 = drawsS r dr s) ∧ Wall (dr.length + r = N9) ∧ Blk wr w4.heap.size 69 #[.int .i64 P1, .int .i64 P2, .int .i64 P3, .int .i64 P4, .int .i64 P5, .int .i64 P6, .int .u64 (K7 : Nat), v, .slice none 0 0] ∧ Own (repInt .u64) 22 x9.heap.size wr v dr ∧ RdR (fun k => (k = w1.heap.size ∨ k = w4.heap.size) ∨ v.ownBlock = some k) wr w1.heap.size s ∧ Ext w wr ∧ x9.heap.size ≤ wr.heap.size ∧ Blk wr w.heap.size 69 kZero) (fun i _ => (intOf i).toNat)
    case atStart => exact ⟨N9, [], s9, .slice none 0 0, Nat.le_refl _, rfl, hid rfl, hid (by simp), hbx9, own_nil _ _ _ _, hy9.widen (Below.refl _ _) (fun k hk => hk.imp id fun e => by cases e) (.inl (.inl rfl)), hE'9, Nat.le_refl _, hzx9⟩
    case round =>
      obtain ⟨r, dr, s, v, hr, rfl, HE, HEL, hbk, hown, hrk, hEk, hszk, hzk⟩ := hrel
      have hok := hrk.okCell
      obtain ⟨bd, hbd⟩ : ∃ bd, bd = (decide (0 < r) && s.isSome) := ⟨_, rfl⟩
      have HBD := hid hbd
      clear hbd
      go_upto_region 8 with fail
      go_cut [59] (fun s59 wx => s59 = .bool bd ∧ wx = wr)
      case first =>
        by_cases h0 : 0 < r
        · have hb : bd = s.isSome := by rw [HBD.out, decide_eq_true h0, Bool.true_and]
          rw [← hb] at hok
          have t0 : decide (0 < r) = true := decide_eq_true h0
          clear hb h0
          go_wp2_with fail
          all_goals
            go_meet
            exact ⟨rfl, rfl⟩
        · have hb : bd = false := by rw [HBD.out, decide_eq_false h0, Bool.false_and]
          have t0 : decide (0 < r) = false := decide_eq_false h0
          subst hb
          clear h0
          go_wp2_with fail
          go_meet
          exact ⟨rfl, rfl⟩
      case rest =>
        obtain ⟨rfl, rfl⟩ := hcut
        cases bd with
        | true =>
          obtain ⟨r', rfl⟩ : ∃ r', r = r' + 1 := by
            have := HBD.out
            rcases Nat.eq_zero_or_pos r with h0 | h0
            · rw [h0] at this; simp at this
            · exact ⟨r - 1, by omega⟩
          obtain ⟨b1, rfl⟩ : ∃ b1, s = some b1 := by
            have := HBD.out
            cases s with
            | none => simp at this
            | some b1 => exact ⟨b1, rfl⟩
          have HD := hid (fun (W : World) (hr : RdR _ W w1.heap.size (some b1)) => rwide_any (fun k => (k = w1.heap.size ∨ k = w4.heap.size) ∨ v.ownBlock = some k) W w1.heap.size (some b1) hr)
          have HE2 := hid (show drawsS N9 [] s9 = drawsS r' (dr ++ [((wideS (some b1)).1 : Int)]) (wideS (some b1)).2 from HE.out)
          have hPl := wideS_lt (some b1)
          generalize hQ1 : (wideS (some b1)).1 = Q1 at HD hPl HE2
          have HPl := hid hPl
          generalize (wideS (some b1)).2 = s' at HD HE2
          clear hQ1 hPl HE HBD hok
          obtain ⟨Ad, cd, rfl, _⟩ := hown.form
          have hdl : dr.length ≤ 200 := by have := HEL.out; omega
          generalize hln : dr.length = ln at *
          have HLN := hid hln
          clear hln
          have hc7 : wc.cell? ⟨w4.heap.size, 7, none⟩ = some (.slice Ad ln cd) := hbk.cell 7
          have hc7d : wc.drew.cell? ⟨w4.heap.size, 7, none⟩ = some (.slice Ad ln cd) := hc7
          have hrd := hrk.ext (ext_drewN wc 1)
          have hwr : ((r' + 1 : Nat) : Int) - 1 = (r' : Nat) := by omega
          go_wp2
          go_region_law (first
            | (go_simp
               go_at_call 101
               refine (HD.out _ hrd).mono ?_
               rintro e y2 ⟨rfl, hr2', ho2'⟩
               have hb2' := hbk.drew.grown ho2' (fun e => hgA (by injection e))
               have c2' : y2.cell? ⟨w4.heap.size, 7, none⟩ = some (.slice Ad ln cd) := hb2'.cell 7
               have hown2 := (hown.ext (ext_drewN wc 1)).only2 ho2' hw9g
               have hsz2 : x9.heap.size ≤ y2.heap.size := Nat.le_trans hszk ho2'.size
               have hb2a := hb2'.ext (ext_alloc y2 (.cells #[.int .u64 (Q1 : Int)] 22))
               have c2a : (y2.alloc (.cells #[.int .u64 (Q1 : Int)] 22)).cell? ⟨w4.heap.size, 7, none⟩ = some (.slice Ad ln cd) := hb2a.cell 7
               dsimp only)
            | (refine step_app1K (r := repInt .u64) (base := x9.heap.size) (x := (Q1 : Int)) (cs := #[.int .u64 (Q1 : Int)]) _ _ rfl rfl Try.underlying66 info_u64 (by decide) hown2 rfl rfl rfl (u64_holds HPl.out) (by have := HLN.out; omega) (by have := HLN.out; simp only [maxLen]; omega) hsz2 ?_
               intro v9 w9 hown9 hg9 hv9
               have hbk9 := hb2a.grown hg9 (fun e => by have := (hown2.lt w4.heap.size e.symm).1; omega)
               have f9 := hbk9.frozen 7
               have c9 : w9.cell? ⟨w4.heap.size, 7, none⟩ = some (.slice Ad ln cd) := hbk9.cell 7
               obtain ⟨A9, q9, rfl, _⟩ := hown9.form
               rw [len_snoc, HLN.out] at hown9 hv9 ⊢))
          all_goals
            have h9gx : (Value.slice A9 (ln + 1) q9).ownBlock ≠ some w4.heap.size := fun e => by have := (hown9.lt _ e).1; omega
            have hE2y : Ext w y2 := ho2'.ext_new (Ext.trans hEk (ext_drewN wc 1)) (Nat.le_of_lt hgw1)
            have hE9 : Ext w w9 := (Ext.trans hE2y (ext_alloc _ _)).grown hg9 (by have := hE2y.size; simp; omega) (fun k e => by have := (hown2.lt k e).1; have := hE'9.size; omega)
            go_wp2
            go_roundw
            case rel =>
              refine ⟨r', dr ++ [(Q1 : Int)], s', _, by omega, by go_num, HE2, hid (by rw [len_snoc, HLN.out]; have := HEL.out; omega), hbk9.set_ 7 _, hown9.wput flat_u64 h9gx, ?_, ?_, ?_, ?_⟩
              · refine RdR.farOnly ?_ (.inl (.inr rfl)) (fun e => hgA e.symm) ((Only.refl _ _).set_ 7 _)
                exact (hr2'.ext (ext_alloc _ _)).grow hg9 hv9 (fun k e => ⟨.inr e, fun e2 => by have := (hown2.lt k e).1; omega⟩) (fun k e => (hown9.lt k e).2) (fun k hk => hk.elim (fun h => .inl (.inl h)) .inr) (.inl (.inl rfl))
              · exact ((Only.refl w4.heap.size _).set_ 7 _).ext_new hE9 (by omega)
              · have := hg9.size; simp only [World.setCell, Array.size_modify]; simp at this; omega
              · exact ((((hzk.drew.grown ho2' (fun e => hgz (by injection e))).ext (ext_alloc _ _)).grown hg9 (fun e => by have := (hown2.lt _ e.symm).1; have := hE'9.size; omega)).far (p := ⟨w4.heap.size, 7, none⟩) hzx _)
            case measure => simp [intOf]
        | false =>
          have HEd := hid (show drawsS N9 [] s9 = (dr, s) from by
            have := HBD.out
            rw [HE.out]
            cases s with
            | none => exact drawsS_none _ _
            | some b1 =>
              have h0 : r = 0 := by
                rcases Nat.eq_zero_or_pos r with h0 | h0
                · exact h0
                · rw [decide_eq_true h0] at this; simp at this
              rw [h0]; rfl)
          have hsD := hown.own
          have hvl := fun j e => (hown.lt j e).2
          have hvb := fun j e => (hown.lt j e).1
          have hdl : dr.length ≤ 200 := by have := HEL.out; omega
          obtain ⟨Ad, cd, rfl, _⟩ := hown.form
          generalize hln : dr.length = ln at *
          have HLN := hid hln
          have hrn := hrk.narrow (Y := fun k => k = w1.heap.size ∨ k = w4.heap.size) (fun k hk => .inl hk) (.inl rfl)
          clear HE hown hln hrk HBD hok
          go_wp2_with (first
            | (go_at_call 102
               have _t := hrn
               refine (rcount_any (fun k => k = w1.heap.size ∨ k = w4.heap.size) wc w1.heap.size 500 s hrn (by omega)).mono ?_
               rintro e y0 ⟨rfl, hyc, hpc⟩
               have hbc := hbk.grown hpc (fun e => hgA (by injection e))
               have hzc := hzk.grown hpc (fun e => hgz (by injection e))
               have hEc := hpc.ext_new hEk (Nat.le_of_lt hgw1)
               have hsc : IsSlice (repInt .u64) y0 (fun b => x9.heap.size ≤ b ∧ b < y0.heap.size) (.slice Ad ln cd) dr := hsD.keep fun b hb => ⟨⟨hb.1, Nat.lt_of_lt_of_le hb.2 hpc.size⟩, fun o => hpc.cell hb.2 (fun e => by have := hb.1; omega) o⟩
               have hNc := cntS_le 500 s
               generalize hKc : (cntS 500 s).1 = Nc at hNc ⊢
               have HKc := hid hKc
               generalize hsc' : (cntS 500 s).2 = sc at hyc
               have HSc := hid hsc'
               clear hKc hsc' hbk hzk hsD))
          have hyg : w1.heap.size < y0.heap.size := hyc.lt
          have hygx : w4.heap.size < y0.heap.size := hbc.lt
          have hy9 : x9.heap.size ≤ y0.heap.size := Nat.le_trans hszk hpc.size
          have hyw : w.heap.size < y0.heap.size := by omega
          go_loopw [9] (fun i wr => ∃ (r : Nat) (cl : List Ch) (t : St) (v2 : Value), r ≤ Nc ∧ i = .int .i64 (r : Nat) ∧ Wall (chsS Nc [] sc = chsS r cl t) ∧ Wall (cl.length + r = Nc) ∧ Blk wr w4.heap.size 69 #[.int .i64 P1, .int .i64 P2, .int .i64 P3, .int .i64 P4, .int .i64 P5, .int .i64 P6, .int .u64 (K7 : Nat), .slice Ad ln cd, v2] ∧ Own repCh 147 y0.heap.size wr v2 cl ∧ RdR (fun k => (k = w1.heap.size ∨ k = w4.heap.size) ∨ v2.ownBlock = some k) wr w1.heap.size t ∧ Ext w wr ∧ y0.heap.size ≤ wr.heap.size ∧ Blk wr w.heap.size 69 kZero ∧ IsSlice (repInt .u64) wr (fun b => x9.heap.size ≤ b ∧ b < y0.heap.size) (.slice Ad ln cd) dr) (fun i _ => (intOf i).toNat)
          case atStart => exact ⟨Nc, [], sc, .slice none 0 0, Nat.le_refl _, rfl, hid rfl, hid (by simp), hbc, own_nil _ _ _ _, hyc.widen (Below.refl _ _) (fun k hk => hk.imp id fun e => by cases e) (.inl (.inl rfl)), hEc, Nat.le_refl _, hzc, hsc⟩
          case round =>
            clear hrn hEk hszk
            obtain ⟨r2, cl, t, v2, hr2, rfl, HEc, HELc, hbk2, hown2, hrk2, hEk2, hszk2, hzk2, hsk2⟩ := hrel
            have hok := hrk2.okCell
            obtain ⟨bd, hbd⟩ : ∃ bd, bd = (decide (0 < r2) && t.isSome) := ⟨_, rfl⟩
            have HBD := hid hbd
            clear hbd
            go_upto_region 12 with fail
            go_cut [78] (fun s78 wx => s78 = .bool bd ∧ wx = wr)
            case first =>
              by_cases h0 : 0 < r2
              · have hb : bd = t.isSome := by rw [HBD.out, decide_eq_true h0, Bool.true_and]
                rw [← hb] at hok
                have t0 : decide (0 < r2) = true := decide_eq_true h0
                clear hb h0
                go_wp2_with fail
                all_goals
                  go_meet
                  exact ⟨rfl, rfl⟩
              · have hb : bd = false := by rw [HBD.out, decide_eq_false h0, Bool.false_and]
                have t0 : decide (0 < r2) = false := decide_eq_false h0
                subst hb
                clear h0
                go_wp2_with fail
                go_meet
                exact ⟨rfl, rfl⟩
            case rest =>
              obtain ⟨rfl, rfl⟩ := hcut
              cases bd with
              | true =>
                obtain ⟨r', rfl⟩ : ∃ r', r2 = r' + 1 := by
                  have := HBD.out
                  rcases Nat.eq_zero_or_pos r2 with h0 | h0
                  · rw [h0] at this; simp at this
                  · exact ⟨r2 - 1, by omega⟩
                obtain ⟨b1, rfl⟩ : ∃ b1, t = some b1 := by
                  have := HBD.out
                  cases t with
                  | none => simp at this
                  | some b1 => exact ⟨b1, rfl⟩
                have HE2 := hid (show chsS Nc [] sc = chsS r' (cl ++ [(chS (some b1)).1]) (chS (some b1)).2 from HEc.out)
                clear HEc HBD hok
                go_wp2_with (first
                  | (go_at_call 102
                     have _t := hr5'
                     refine (rcount_any (fun k => ((k = w1.heap.size ∨ k = w4.heap.size) ∨ v2.ownBlock = some k) ∨ k = e3.heap.size) _ w1.heap.size 255 t5 hr5' (by omega)).mono ?_
                     rintro e e6 ⟨rfl, hr6, ho6⟩
                     have hM6 := cntS_le 255 t5
                     generalize hM6' : (cntS 255 t5).1 = M6 at hM6 ⊢
                     have HM6 := hid hM6'
                     generalize ht6 : (cntS 255 t5).2 = t6 at hr6
                     have HT6 := hid ht6
                     clear hM6' ht6)
                  | (go_at_call 100
                     have _t := hr4
                     refine (rtake_any (fun k => ((k = w1.heap.size ∨ k = w4.heap.size) ∨ v2.ownBlock = some k) ∨ k = e3.heap.size) e4 w1.heap.size M4 t4 hr4).mono ?_
                     rintro e e5 ⟨u5, rfl, hu5, hr5, ho5⟩
                     generalize hdd : (tkS M4 t4).1 = DD at hu5
                     have HDD := hid hdd
                     generalize ht5 : (tkS M4 t4).2 = t5 at hr5
                     have HT5 := hid ht5
                     have hb5 := hb4.grown ho5 (fun e => hgG (by injection e))
                     have f5 := hb5.frozen 3
                     have c5 : e5.cell? ⟨e3.heap.size, 3, none⟩ = some (.slice none 0 0) := hb5.cell 3
                     obtain ⟨A5, q5, rfl⟩ := hu5.shape
                     generalize hl5 : DD.length = l5 at hu5 ⊢
                     have hr5' := hr5.farOnly (.inr rfl) (fun e => hgG e.symm) ((Only.refl e3.heap.size e5).set_ 3 (.slice A5 l5 q5))
                     clear hdd ht5 hl5)
                  | (go_at_call 102
                     have _t := hr3
                     generalize hD3 : wrap64 ((C3 : Nat) : Int) = D3
                     have HD3 := hid hD3
                     clear hD3
                     have hxG := ext_alloc e3 (.cells #[.int .i64 D1, .int .i64 D2, .int .i64 D3, .slice none 0 0, .slice none 0 0] 147)
                     have hbG := Blk.new e3 147 #[.int .i64 D1, .int .i64 D2, .int .i64 D3, .slice none 0 0, .slice none 0 0]
                     have hrG := hr3.one hxG hbG.lt (.inl (.inl rfl))
                     have hgG : e3.heap.size ≠ w1.heap.size := fun e => by have := hr3.lt; omega
                     refine (rcount_any (fun k => ((k = w1.heap.size ∨ k = w4.heap.size) ∨ v2.ownBlock = some k) ∨ k = e3.heap.size) _ w1.heap.size 255 t3 hrG (by omega)).mono ?_
                     rintro e e4 ⟨rfl, hr4, ho4⟩
                     have hb4 := hbG.grown ho4 (fun e => hgG (by injection e))
                     have hM4 := cntS_le 255 t3
                     generalize hM4' : (cntS 255 t3).1 = M4 at hM4 ⊢
                     have HM4 := hid hM4'
                     generalize ht4 : (cntS 255 t3).2 = t4 at hr4
                     have HT4 := hid ht4
                     clear hM4' ht4)
                  | (go_at_call 101
                     have _t := hr2
                     generalize hD2 : wrap64 ((C2 : Nat) : Int) = D2
                     have HD2 := hid hD2
                     clear hD2
                     refine (rwide_any (fun k => (k = w1.heap.size ∨ k = w4.heap.size) ∨ v2.ownBlock = some k) e2 w1.heap.size t2 hr2).mono ?_
                     rintro e e3 ⟨rfl, hr3, hq3⟩
                     generalize hC3 : (wideS t2).1 = C3
                     have HC3 := hid hC3
                     generalize ht3 : (wideS t2).2 = t3 at hr3
                     have HT3 := hid ht3
                     clear hC3 ht3)
                  | (go_at_call 101
                     have _t := hr1
                     generalize hD1 : wrap64 ((C1 : Nat) : Int) = D1
                     have HD1 := hid hD1
                     clear hD1
                     refine (rwide_any (fun k => (k = w1.heap.size ∨ k = w4.heap.size) ∨ v2.ownBlock = some k) e1 w1.heap.size t1 hr1).mono ?_
                     rintro e e2 ⟨rfl, hr2, hq2⟩
                     generalize hC2 : (wideS t1).1 = C2
                     have HC2 := hid hC2
                     generalize ht2 : (wideS t1).2 = t2 at hr2
                     have HT2 := hid ht2
                     clear hC2 ht2)
                  | (go_at_call 101
                     have _t := hrk2
                     refine (rwide_any (fun k => (k = w1.heap.size ∨ k = w4.heap.size) ∨ v2.ownBlock = some k) wc w1.heap.size (some b1) hrk2).mono ?_
                     rintro e e1 ⟨rfl, hr1, hq1⟩
                     generalize hC1 : (wideS (some b1)).1 = C1
                     have HC1 := hid hC1
                     generalize ht1 : (wideS (some b1)).2 = t1 at hr1
                     have HT1 := hid ht1
                     clear hC1 ht1))
                have hq123 : Only w1.heap.size wc e3 := (hq1.trans hq2).trans hq3
                have hbk3 := hbk2.grown hq123 (fun e => hgA (by injection e))
                have hown3 := hown2.only2 hq123 hyg
                have hz3 := hzk2.grown hq123 (fun e => hgz (by injection e))
                have hsk3 : IsSlice (repInt .u64) e3 (fun b => x9.heap.size ≤ b ∧ b < y0.heap.size) (.slice Ad ln cd) dr := hsk2.keep fun b hb => ⟨hb, fun o => hq123.cell (Nat.lt_of_lt_of_le hb.2 hszk2) (fun e => by have := hb.1; omega) o⟩
                have hE3 := hq123.ext_new hEk2 (Nat.le_of_lt hgw1)
                have hsz3 : y0.heap.size ≤ e3.heap.size := Nat.le_trans hszk2 hq123.size
                have hb5s := hb5.set_ 3 (.slice A5 l5 q5)
                simp only [List.setIfInBounds_toArray, List.set_cons_succ, List.set_cons_zero] at hb5s
                have hb6 := hb5s.grown ho6 (fun e => hgG (by injection e))
                have hO6 : Only w1.heap.size e3 e6 := (((((Only.of_ext hxG).trans ho4).trans ho5).farSet (Nat.le_refl _) 3 (.slice A5 l5 q5)).trans ho6)
                have hu6 : IsSlice repByte e6 (fun k => e4.heap.size ≤ k ∧ k < e5.heap.size) (.slice A5 l5 q5) DD := hu5.keep fun k hk => ⟨hk, fun o => by
                  have h5 : e4.heap.size ≤ k ∧ k < e5.heap.size := hk
                  have hw4 := hb4.lt
                  have hgl := hr4.lt
                  exact (ho6.cell (by simp only [World.setCell, Array.size_modify]; omega) (by omega) o).trans (World.cell?_of_block (Below.heap_setCell e5 _ _ k (by show k ≠ e3.heap.size; omega)))⟩
                have hlt6 : e3.heap.size < e6.heap.size := hb6.lt
                have hg6 : w1.heap.size < e6.heap.size := hr6.lt
                clear hq1 hq2 hq3 hq123 hbk2 hown2 hzk2 hsk2 hrk2 hr1 hr2 hr3 hrG hb5 hb5s hu5 hr5 hr5'
                go_loopw [11] (fun i wr => ∃ (r : Nat) (es : List Ed) (s : St) (v3 : Value), r ≤ M6 ∧ i = .int .i64 (r : Nat) ∧ Wall (edsS M6 [] t6 = edsS r es s) ∧ Wall (es.length + r = M6) ∧ Blk wr e3.heap.size 147 #[.int .i64 D1, .int .i64 D2, .int .i64 D3, .slice A5 l5 q5, v3] ∧ Own repEd 161 e6.heap.size wr v3 es ∧ RdR (fun k => (((k = w1.heap.size ∨ k = w4.heap.size) ∨ v2.ownBlock = some k) ∨ k = e3.heap.size) ∨ v3.ownBlock = some k) wr w1.heap.size s ∧ Only w1.heap.size e3 wr ∧ e6.heap.size ≤ wr.heap.size ∧ IsSlice repByte wr (fun k => e4.heap.size ≤ k ∧ k < e5.heap.size) (.slice A5 l5 q5) DD) (fun i _ => (intOf i).toNat)
                case atStart => exact ⟨M6, [], t6, .slice none 0 0, Nat.le_refl _, rfl, hid rfl, hid (by simp), hb6, own_nil _ _ _ _, hr6.widen (Below.refl _ _) (fun k hk => hk.imp id fun e => by cases e) (.inl (.inl (.inl (.inl rfl)))), hO6, Nat.le_refl _, hu6⟩
                case round =>
                  obtain ⟨r3, es, u, v3, hr3, rfl, HEe, HELe, hbkG, hownE, hrkE, hOE, hszE, huE⟩ := hrel
                  have hok := hrkE.okCell
                  obtain ⟨bd, hbd⟩ : ∃ bd, bd = (decide (0 < r3) && u.isSome) := ⟨_, rfl⟩
                  have HBD := hid hbd
                  clear hbd
                  go_upto_region 17 with fail
                  go_cut [105] (fun s105 wx => s105 = .bool bd ∧ wx = wr)
                  case first =>
                    by_cases h0 : 0 < r3
                    · have hb : bd = u.isSome := by rw [HBD.out, decide_eq_true h0, Bool.true_and]
                      rw [← hb] at hok
                      have t0 : decide (0 < r3) = true := decide_eq_true h0
                      clear hb h0
                      go_wp2_with fail
                      all_goals
                        go_meet
                        exact ⟨rfl, rfl⟩
                    · have hb : bd = false := by rw [HBD.out, decide_eq_false h0, Bool.false_and]
                      have t0 : decide (0 < r3) = false := decide_eq_false h0
                      subst hb
                      clear h0
                      go_wp2_with fail
                      go_meet
                      exact ⟨rfl, rfl⟩
                  case rest =>
                    obtain ⟨rfl, rfl⟩ := hcut
                    cases bd with
                    | true =>
                      obtain ⟨r4, rfl⟩ : ∃ r4, r3 = r4 + 1 := by
                        have := HBD.out
                        rcases Nat.eq_zero_or_pos r3 with h0 | h0
                        · rw [h0] at this; simp at this
                        · exact ⟨r3 - 1, by omega⟩
                      obtain ⟨b2, rfl⟩ : ∃ b2, u = some b2 := by
                        have := HBD.out
                        cases u with
                        | none => simp at this
                        | some b2 => exact ⟨b2, rfl⟩
                      have HE3 := hid (show edsS M6 [] t6 = edsS r4 (es ++ [(edS (some b2)).1]) (edS (some b2)).2 from HEe.out)
                      clear HEe HBD hok
                      have hgk : e3.heap.size ≠ w1.heap.size := hgG
                      go_upto_region 21 with (first
                        | (go_at_call 102
                           have _t := hs2
                           generalize hG2 : wrap64 ((F2 : Nat) : Int) = G2
                           have HG2 := hid hG2
                           clear hG2
                           refine (rcount_any (fun k => ((((k = w1.heap.size ∨ k = w4.heap.size) ∨ v2.ownBlock = some k) ∨ k = e3.heap.size) ∨ v3.ownBlock = some k) ∨ k = z2.heap.size) _ w1.heap.size 255 v22 (hs2.one (ext_alloc z2 (.cells #[.int .i64 G1, .int .i64 G2, .int .u8 0] 161)) (by simp) (.inl (.inl (.inl (.inl rfl))))) (by omega)).mono ?_
                           rintro e z3 ⟨rfl, hs3, hp3⟩
                           have hF3b := cntS_le 255 v22
                           generalize hF3 : (cntS 255 v22).1 = F3 at hF3b ⊢
                           have HF3 := hid hF3
                           generalize hv3' : (cntS 255 v22).2 = v33 at hs3
                           have HV3 := hid hv3'
                           have hbe := (Blk.new z2 161 #[.int .i64 G1, .int .i64 G2, .int .u8 0]).grown hp3 (fun e => by injection e with e; have := hs2.lt; omega)
                           have fe := hbe.frozen 2
                           have ce : z3.cell? ⟨z2.heap.size, 2, none⟩ = some (.int .u8 0) := hbe.cell 2
                           clear hF3 hv3')
                        | (go_at_call 101
                           have _t := hs1
                           generalize hG1 : wrap64 ((F1 : Nat) : Int) = G1
                           have HG1 := hid hG1
                           clear hG1
                           refine (rwide_any (fun k => (((k = w1.heap.size ∨ k = w4.heap.size) ∨ v2.ownBlock = some k) ∨ k = e3.heap.size) ∨ v3.ownBlock = some k) z1 w1.heap.size v11 hs1).mono ?_
                           rintro e z2 ⟨rfl, hs2, hp2⟩
                           generalize hF2 : (wideS v11).1 = F2
                           have HF2 := hid hF2
                           generalize hv2' : (wideS v11).2 = v22 at hs2
                           have HV2 := hid hv2'
                           clear hF2 hv2')
                        | (go_at_call 101
                           refine (rwide_any (fun k => (((k = w1.heap.size ∨ k = w4.heap.size) ∨ v2.ownBlock = some k) ∨ k = e3.heap.size) ∨ v3.ownBlock = some k) wc w1.heap.size (some b2) hrkE).mono ?_
                           rintro e z1 ⟨rfl, hs1, hp1⟩
                           generalize hF1 : (wideS (some b2)).1 = F1
                           have HF1 := hid hF1
                           generalize hv1' : (wideS (some b2)).2 = v11 at hs1
                           have HV1 := hid hv1'
                           clear hF1 hv1'))
                      have hX2lt := hs2.lt
                      have hszx1 := hp1.size
                      have hszx2 := hp2.size
                      have hgcx2 : e3.heap.size < z2.heap.size := by omega
                      have hb1' := (hbkG.grown hp1 (fun e => hgk (by injection e))).grown hp2 (fun e => hgk (by injection e))
                      have hb3' := (((hb1'.ext (ext_alloc z2 (.cells #[.int .i64 G1, .int .i64 G2, .int .u8 0] 161))).grown hp3 (fun e => hgk (by injection e))).far (p := ⟨z2.heap.size, 2, none⟩) (by show e3.heap.size ≠ z2.heap.size; omega) (.int .u8 (F3 : Int)))
                      have hbe3 := hbe.set_ 2 (.int .u8 (F3 : Int))
                      simp only [List.setIfInBounds_toArray, List.set_cons_succ, List.set_cons_zero] at hbe3
                      have hvg : v3.ownBlock ≠ some w1.heap.size := fun e => by have := (hownE.lt _ e).1; omega
                      have hve : v3.ownBlock ≠ some z2.heap.size := fun e => by have := (hownE.lt _ e).2; omega
                      have hown3' := ((((hownE.only2 hp1 hg6).only2 hp2 hg6).ext (ext_alloc z2 (.cells #[.int .i64 G1, .int .i64 G2, .int .u8 0] 161))).only2 hp3 hg6).wput (g := z2.heap.size) (i := 2) (u := .int .u8 (F3 : Int)) flat_ed hve
                      have hs3' := hs3.farOnly (.inr rfl) (fun e => by omega) ((Only.refl z2.heap.size z3).set_ 2 (.int .u8 (F3 : Int)))
                      generalize hWW : z3.setCell ⟨z2.heap.size, 2, none⟩ (.int .u8 (F3 : Int)) = WW at hb3' hbe3 hown3' hs3' ⊢
                      obtain ⟨y0', y1', y2', y3', y4'⟩ := chCells5 hb3'
                      have z0' : WW.cell? ⟨z2.heap.size, 0, none⟩ = some (.int .i64 G1) := hbe3.cell 0
                      have z1' : WW.cell? ⟨z2.heap.size, 1, none⟩ = some (.int .i64 G2) := hbe3.cell 1
                      have z2' : WW.cell? ⟨z2.heap.size, 2, none⟩ = some (.int .u8 (F3 : Int)) := hbe3.cell 2
                      obtain ⟨Av', cv', rfl, _⟩ := hown3'.form
                      have hel : es.length ≤ 255 := by have := HELe.out; omega
                      have hx3s := hp3.size
                      simp at hx3s
                      have hWs : e6.heap.size ≤ WW.heap.size := by rw [← hWW]; simp only [World.setCell, Array.size_modify]; omega
                      generalize hln' : es.length = ln' at *
                      have HLN' := hid hln'
                      clear hln'
                      have hrd := hs3'.ext (ext_alloc WW (.cells #[.int .i64 G1, .int .i64 G2, .int .u8 (F3 : Int)] 161))
                      have hbl := hb3'.ext (ext_alloc WW (.cells #[.int .i64 G1, .int .i64 G2, .int .u8 (F3 : Int)] 161))
                      have hwlt := hb3'.lt
                      have hOW : Only w1.heap.size e3 WW := by rw [← hWW]; exact ((((hOE.trans hp1).trans hp2).then (ext_alloc _ _)).trans hp3).farSet (by omega) 2 _
                      have hwr2 : ((r4 + 1 : Nat) : Int) - 1 = (r4 : Nat) := by omega
                      go_wp2_with (at_builtin; refine wpl_app1K (r := repEd) (base := e6.heap.size) (x := ⟨G1, G2, UInt8.ofNat F3⟩) (cs := #[.int .i64 G1, .int .i64 G2, .int .u8 (F3 : Int)]) _ _ rfl rfl Try.underlying145 info_edit (by decide) hown3' rfl rfl rfl (ed_holds (by omega)) (by have := HLN'.out; omega) (by have := HLN'.out; simp only [maxLen]; omega) hWs ?_; intro v9 w9 hown9 hg9 hv9; have hbk9 := hbl.grown hg9 (fun e => by have := (hown3'.lt e3.heap.size e.symm).1; omega); have f9 := hbk9.frozen 4; have c9 : w9.cell? ⟨e3.heap.size, 4, none⟩ = some (.slice Av' ln' cv') := hbk9.cell 4; obtain ⟨A9, q9, rfl, _⟩ := hown9.form; rw [len_snoc, HLN'.out] at hown9 hv9 ⊢)
                      have hO9 : Only w1.heap.size e3 w9 := (hOW.then (ext_alloc _ _)).grow2 hg9 (fun k e => by have := (hown3'.lt k e).1; omega)
                      have h9gc : (Value.slice A9 (ln' + 1) q9).ownBlock ≠ some e3.heap.size := fun e => by have := (hown9.lt _ e).1; omega
                      go_roundw
                      case rel =>
                        refine ⟨r4, es ++ [⟨G1, G2, UInt8.ofNat F3⟩], v33, _, by omega, by go_num, hid ?_, hid (by rw [len_snoc, HLN'.out]; have := HELe.out; omega), hbk9.set_ 4 _, hown9.wput flat_ed h9gc, ?_, hO9.farSet (Nat.le_refl _) 4 _, ?_, ?_⟩
                        · rw [HE3.out]
                          have e1 : (edS (some b2)).1 = ⟨G1, G2, UInt8.ofNat F3⟩ := by simp only [edS, plainS, HF1.out, HV1.out, HF2.out, HV2.out, HF3.out, HG1.out, HG2.out]
                          have e2 : (edS (some b2)).2 = v33 := by simp only [edS, plainS, HV1.out, HV2.out, HV3.out]
                          rw [e1, e2]
                        · refine RdR.farOnly (gc := e3.heap.size) ?_ (.inl (.inr rfl)) (fun e => hgG e.symm) ((Only.refl _ _).set_ 4 _)
                          exact hrd.grow hg9 hv9 (fun k e => ⟨.inl (.inr e), fun e2 => by have := (hown3'.lt k e).1; omega⟩) (fun k e => (hown9.lt k e).2) (fun k hk => hk.elim (fun h => .inl (.inl (.inl h))) .inr) (.inl (.inl (.inl (.inl rfl))))
                        · have := hg9.size; simp only [World.setCell, Array.size_modify]; simp at this; omega
                        · refine huE.keep fun k hk => ⟨hk, fun o => World.cell?_of_block ?_⟩
                          have hk1 : e4.heap.size ≤ k := hk.1
                          have hk2 : k < e5.heap.size := hk.2
                          have hl4 := hb4.lt
                          have hl4g := hr4.lt
                          have hl56 : e5.heap.size ≤ e6.heap.size := by have := ho6.size; simpa [World.setCell] using this
                          rw [Below.heap_setCell w9 _ _ k (by show k ≠ e3.heap.size; omega), hg9.block k (by simp; omega) (fun e => by have := (hown3'.lt k e.symm).1; omega), Below.heap_alloc WW _ k (by omega), ← hWW, Below.heap_setCell z3 _ _ k (by show k ≠ z2.heap.size; omega), hp3.block k (by simp; omega) (fun e => by injection e with e; omega), Below.heap_alloc z2 _ k (by omega), hp2.block k (by omega) (fun e => by injection e with e; omega), hp1.block k (by omega) (fun e => by injection e with e; omega)]
                      case measure => simp [intOf]
                    | false =>
                      have HEd3 := hid (show edsS M6 [] t6 = (es, u) from by
                        have := HBD.out
                        rw [HEe.out]
                        cases u with
                        | none => exact edsS_none _ _
                        | some b2 =>
                          have h0 : r3 = 0 := by
                            rcases Nat.eq_zero_or_pos r3 with h0 | h0
                            · exact h0
                            · rw [decide_eq_true h0] at this; simp at this
                          rw [h0]; rfl)
                      obtain ⟨C, hC⟩ : ∃ C : Ch, C = ⟨D1, D2, D3, DD, es⟩ := ⟨_, rfl⟩
                      have HCh := hid (show chS (some b1) = (C, u) from by
                        rw [hC]
                        simp only [chS, hdS, dataS, plainS, HC1.out, HT1.out, HC2.out, HT2.out, HC3.out, HT3.out, HD1.out, HD2.out, HD3.out, HM4.out, HT4.out, HDD.out, HT5.out, HM6.out, HT6.out, HEd3.out])
                      have HC := hid hC
                      clear hC HEe HBD hok HEd3
                      have hoF := hown3.only2 hOE hyg
                      have hbF := hbk3.grown hOE (fun e => hgA (by injection e))
                      have HE2' := hid (show chsS Nc [] sc = chsS r' (cl ++ [C]) u from by rw [HE2.out, HCh.out])
                      have hv2lt := fun j e => (hown3.lt j e).2
                      have hzF := hz3.grown hOE (fun e => hgz (by injection e))
                      obtain ⟨A2v, c2v, rfl, _⟩ := hoF.form
                      obtain ⟨A3v, c3v, rfl, _⟩ := hownE.form
                      have hcll : cl.length ≤ 500 := by have := HELc.out; omega
                      generalize hln2 : cl.length = ln2 at *
                      have HLN2 := hid hln2
                      have hwcsz : e6.heap.size ≤ wc.heap.size := hszE
                      have hl4 := hb4.lt
                      have hl4g := hr4.lt
                      have hl56 : e5.heap.size ≤ e6.heap.size := by have := ho6.size; simpa [World.setCell] using this
                      have hcs := hid (show repCh.holds wc (el y0.heap.size wc (.slice A2v ln2 c2v)) (#[.int .i64 D1, .int .i64 D2, .int .i64 D3, .slice A5 l5 q5, .slice A3v es.length c3v] : Array Value).toList C from by
                        rw [HC.out]
                        refine ⟨_, _, rfl, huE.keep fun b hb => ⟨⟨by have h1 : e4.heap.size ≤ b := hb.1; omega, by have h1 : b < e5.heap.size := hb.2; omega, fun e => by have := hv2lt b e; have h1 : e4.heap.size ≤ b := hb.1; omega⟩, fun _ => rfl⟩, hownE.own.keep fun b hb => ⟨⟨by have h1 : e6.heap.size ≤ b := hb.1; omega, hb.2, fun e => by have := hv2lt b e; have h1 : e6.heap.size ≤ b := hb.1; omega⟩, fun _ => rfl⟩⟩)
                      generalize es.length = ln3 at *
                      clear HE2 hln2 HELe
                      have hc8 : wc.cell? ⟨w4.heap.size, 8, none⟩ = some (.slice A2v ln2 c2v) := hbF.cell 8
                      have hb2a := hbF.ext (ext_alloc wc (.cells #[.int .i64 D1, .int .i64 D2, .int .i64 D3, .slice A5 l5 q5, .slice A3v ln3 c3v] 147))
                      have hyw2 : y0.heap.size ≤ wc.heap.size := by omega
                      have hwr2 : ((r' + 1 : Nat) : Int) - 1 = (r' : Nat) := by omega
                      go_wp2_with (first
                        | (refine wpl_loadRow _ rfl rfl rfl hbkG Try.underlying147 rfl (by kernel_rfl) ?_)
                        | (at_builtin
                           refine wpl_app1K (r := repCh) (base := y0.heap.size) (x := C) (cs := #[.int .i64 D1, .int .i64 D2, .int .i64 D3, .slice A5 l5 q5, .slice A3v ln3 c3v]) _ _ rfl rfl Try.underlying67 info_choice (by decide) hoF rfl rfl rfl hcs.out (by have := HLN2.out; omega) (by have := HLN2.out; simp only [maxLen]; omega) hyw2 ?_
                           intro v9 w9 hown9 hg9 hv9
                           have hbk9 := hb2a.grown hg9 (fun e => by have := (hoF.lt w4.heap.size e.symm).1; omega)
                           have f9 := hbk9.frozen 8
                           have c9 : w9.cell? ⟨w4.heap.size, 8, none⟩ = some (.slice A2v ln2 c2v) := hbk9.cell 8
                           obtain ⟨A9, q9, rfl, _⟩ := hown9.form
                           rw [len_snoc, HLN2.out] at hown9 hv9 ⊢))
                      have hEwc : Ext w wc := hOE.ext_new hE3 (Nat.le_of_lt hgw1)
                      have hE9 : Ext w w9 := (Ext.trans hEwc (ext_alloc _ _)).grown hg9 (by have := hEwc.size; simp; omega) (fun k e => by have := (hoF.lt k e).1; omega)
                      go_roundw
                      case rel =>
                        refine ⟨r', cl ++ [C], u, _, by omega, by go_num, HE2', hid (by rw [len_snoc, HLN2.out]; have := HELc.out; omega), hbk9.set_ 8 _, hown9.only2 ((Only.refl w4.heap.size _).set_ 8 _) hygx, ?_, ?_, ?_, ?_, ?_⟩
                        · refine RdR.farOnly ?_ (.inl (.inr rfl)) (fun e => hgA e.symm) ((Only.refl _ _).set_ 8 _)
                          exact ((hrkE.narrow (Y := fun k => (k = w1.heap.size ∨ k = w4.heap.size) ∨ (Value.slice A2v ln2 c2v).ownBlock = some k) (fun k hk => .inl (.inl hk)) (.inl (.inl rfl))).ext (ext_alloc _ _)).grow hg9 hv9 (fun k e => ⟨.inr e, fun e2 => by have := (hoF.lt k e).1; omega⟩) (fun k e => (hown9.lt k e).2) (fun k hk => hk.elim (fun h => .inl (.inl h)) .inr) (.inl (.inl rfl))
                        · exact ((Only.refl w4.heap.size _).set_ 8 _).ext_new hE9 hgw4
                        · have := hg9.size; simp only [World.setCell, Array.size_modify]; simp at this; omega
                        · exact (((hzF.ext (ext_alloc _ _)).grown hg9 (fun e => by have := (hoF.lt _ e.symm).1; omega)).far (p := ⟨w4.heap.size, 8, none⟩) hzx _)
                        · refine hsk3.keep fun k hk => ⟨hk, fun o => World.cell?_of_block ?_⟩
                          have hk1 : x9.heap.size ≤ k := hk.1
                          have hk2 : k < y0.heap.size := hk.2
                          rw [Below.heap_setCell w9 _ _ k (by show k ≠ w4.heap.size; omega), hg9.block k (by simp; omega) (fun e => by have := (hoF.lt k e.symm).1; omega), Below.heap_alloc wc _ k (by omega), hOE.block k (by omega) (fun e => by injection e with e; omega)]
                      case measure => simp [intOf]
              | false =>
                have HEd2 := hid (show chsS Nc [] sc = (cl, t) from by
                  have := HBD.out
                  rw [HEc.out]
                  cases t with
                  | none => exact chsS_none _ _
                  | some b1 =>
                    have h0 : r2 = 0 := by
                      rcases Nat.eq_zero_or_pos r2 with h0 | h0
                      · exact h0
                      · rw [decide_eq_true h0] at this; simp at this
                    rw [h0]; rfl)
                have HFE := hid (show F = (⟨P1, P2, P3, P4, P5, P6, (K7 : Int), dr, cl⟩, if t = some [] then some [] else none) from by
                  rw [HF.out]
                  simp only [runS, HYES.out, HS1.out, plainS, HK1.out, HS2.out, HK2.out, HS3.out, HK3.out, HS4.out, HK4.out, HS5.out, HK5.out, HS6.out, HK6.out, HS7.out, HK7.out, HS8.out, HP1.out, HP2.out, HP3.out, HP4.out, HP5.out, HP6.out, HK9.out, HS9.out, HEd.out, HKc.out, HSc.out, HEd2.out]
                  rw [if_pos trivial])
                have HFi := hid (show ∀ b0', some b0 = some b0' → runS b0' = F from fun b0' e => by injection e with e; subst e; exact HF.out.symm)
                clear HBD
                by_cases hst : t = some []
                · subst hst
                  have HF1 := hid (show F = (⟨P1, P2, P3, P4, P5, P6, (K7 : Int), dr, cl⟩, some []) from by rw [HFE.out, if_pos rfl])
                  obtain ⟨vr, okr, cr', hbr, hslr, hlr, _, _, hstr⟩ := hrk2
                  have hnil : cr' = [] := by rcases hstr with ⟨h1, _⟩ | ⟨h1, _⟩ <;> simp at h1 <;> first | exact h1 | exact h1.symm
                  subst hnil
                  obtain ⟨Ar, crc, rfl⟩ := hslr.shape
                  simp only [Option.isSome_some] at hok
                  have hcr0 : wc.cell? ⟨w1.heap.size, 0, none⟩ = some (.slice Ar 0 crc) := hbr.cell 0
                  obtain ⟨A2v, c2v, rfl, _⟩ := hown2.form
                  generalize cl.length = lc at *
                  obtain ⟨KV, hKV⟩ : ∃ KV : Array Value, KV = #[.int .i64 P1, .int .i64 P2, .int .i64 P3, .int .i64 P4, .int .i64 P5, .int .i64 P6, .int .u64 (K7 : Nat), .slice Ad ln cd, .slice A2v lc c2v] := ⟨_, rfl⟩
                  have hbV : Blk wc w4.heap.size 69 KV := hKV ▸ hbk2
                  have hsV : KV.size = 9 := by rw [hKV]; rfl
                  have hinV : (Try.prog.info? 69).map (·.size) = some KV.size := by rw [hsV]; kernel_rfl
                  have honV : KV.all (·.oneCell') = true := by rw [hKV]; simp [Value.oneCell']
                  have HKV := hid hKV
                  have HsV := hid (show kZero.size = KV.size by rw [hsV]; rfl)
                  have HiV := hid hinV
                  have HoV := hid honV
                  clear hKV hsV hinV honV hbk2 hstr hslr
                  go_upto_region 25 with fail
                  repeat (first
                    | (refine wpl_loadRow _ rfl rfl rfl hbV Try.underlying69 rfl HiV.out ?_)
                    | (refine wpl_row (g := w.heap.size) (cs := KV) _ _ rfl rfl rfl rfl hzk2 HiV.out HsV.out HoV.out ?_; intro w9 hb9 ho9)
                    | go_step)
                  refine bodyPost_ret (results_row_tmp Try.results36 _ _ w.heap.size 69 KV _ _ rfl hb9 Try.underlying69 rfl HiV.out rfl) rfl ⟨.inl ⟨b0, rfl, ?_, KV, rfl, ?_⟩, ho9.ext_new hEk2 (Nat.le_refl _)⟩
                  · rw [HFi.out b0 rfl, HF1.out]
                  · rw [HFi.out b0 rfl, HF1.out, HKV.out]
                    have hK7l := wideS_lt s7
                    rw [HK7.out] at hK7l
                    exact ⟨_, _, rfl, wf_u64 (x := (K7 : Int)) ⟨by omega, by omega⟩, hsk2.keep fun b hb => ⟨⟨by have h1 : x9.heap.size ≤ b := hb.1; omega, by have h2 : b < y0.heap.size := hb.2; have := ho9.size; omega⟩, fun o => ho9.cell (by have h2 : b < y0.heap.size := hb.2; omega) (by have h1 : x9.heap.size ≤ b := hb.1; omega) o⟩,
                      (hown2.only2 ho9 (by omega)).own.keep fun b hb => ⟨⟨by have h1 : y0.heap.size ≤ b := hb.1; omega, hb.2⟩, fun _ => rfl⟩⟩
                · have HF0 := hid (show ∀ b0', some b0 = some b0' → (runS b0').2 = none from fun b0' e => by rw [HFi.out b0' e, HFE.out, if_neg hst])
                  cases t with
                  | none =>
                    simp only [Option.isSome_none] at hok
                    clear hst
                    go_upto_region 24 with fail
                    repeat (first
                      | (refine wpl_row _ _ rfl rfl rfl rfl hzk2 (by kernel_rfl) rfl (by simp [Value.oneCell']) ?_
                         intro w5 hb5 ho5)
                      | go_step)
                    exact bodyPost_ret (results_row_tmp Try.results36 _ _ w.heap.size 69 kZero _ _ rfl hb5 Try.underlying69 rfl (by kernel_rfl) rfl) rfl ⟨.inr ⟨HF0.out, rfl⟩, ho5.ext_new hEk2 (Nat.le_refl _)⟩
                  | some bj =>
                    simp only [Option.isSome_some] at hok
                    obtain ⟨vr, okr, cr', hbr, hslr, hlr, _, _, hstr⟩ := hrk2
                    have hcj : cr' = bj := by rcases hstr with ⟨h1, _⟩ | ⟨h1, _⟩ <;> simp at h1 <;> first | exact h1 | exact h1.symm
                    subst hcj
                    obtain ⟨Ar, crc, rfl⟩ := hslr.shape
                    have hcr0 : wc.cell? ⟨w1.heap.size, 0, none⟩ = some (.slice Ar cr'.length crc) := hbr.cell 0
                    have hlp : decide (0 < cr'.length) = true := decide_eq_true (List.length_pos_iff.2 fun e => hst (by rw [e]))
                    generalize cr'.length = lj at *
                    clear hst hstr hslr hbr
                    go_upto_region 24 with fail
                    repeat (first
                      | (refine wpl_row _ _ rfl rfl rfl rfl hzk2 (by kernel_rfl) rfl (by simp [Value.oneCell']) ?_
                         intro w5 hb5 ho5)
                      | go_step)
                    exact bodyPost_ret (results_row_tmp Try.results36 _ _ w.heap.size 69 kZero _ _ rfl hb5 Try.underlying69 rfl (by kernel_rfl) rfl) rfl ⟨.inr ⟨HF0.out, rfl⟩, ho5.ext_new hEk2 (Nat.le_refl _)⟩

end
end Go.Proofs.Ytjchobncmogcpaa
