/- The walk of keep's reader of a whole run. -/
import Derived.Test.YtjchobncmogcpaaKeepE
import Derived.Test.YtjchobncmogcpaaKeepFrame
namespace Go.Proofs.Ytjchobncmogcpaa
open Go.RowKit
set_option maxRecDepth 100000
theorem RdAt.farOnly {X : Nat → Prop} {g gc : Nat} {w w' : World} {b : List UInt8} (h : RdAt X w g b) (hx : X gc) (hne : g ≠ gc) (ho : Only gc w w') : RdAt X w' g b := by
  obtain ⟨v, h1, h2, h3, h4, h5⟩ := h
  exact ⟨v, h1.grown ho (fun e => hne (by injection e)), h2.outOnly ho hx, h3, h4, fun k hk => Nat.lt_of_lt_of_le (h5 k hk) ho.size⟩
section
variable {P : Program} {α : Type} {r : Rep α} {w : World} {ops : Array Oper} {o : Oper} {a : Act} {K : Act → World → Prop} {Q : Exit → Act → World → Prop} {E : Prop}
theorem step_app1K {base g : Nat} {t e : TypeId} {bytes : Nat} {v : Value} {xs : List α} {x : α} {cs : Array Value} (s y : Operand) (hgd : o.guard = none)
    (ho : o.op = .call { callee := .builtin .append, args := #[s, y], argTypes := #[t, t] }) (ht : P.underlying t = some (.slice e)) (hi : ElemInfo P e r.size bytes) (hsz : 0 < r.size)
    (hown : Own r e base w v xs) (hs : a.eval s = v) (hx : a.eval y = .slice (some ⟨g, 0, none⟩) 1 1) (hg : g = w.heap.size) (hu : r.holds w (el base w v) cs.toList x)
    (hbytes : (xs.length + 1) * bytes ≤ 140737488355328) (h63 : xs.length + 1 ≤ maxLen) (hbase : base ≤ w.heap.size)
    (h : ∀ v' w', Own r e base w' v' (xs ++ [x]) → (w.alloc (.cells cs e)).grownBy w' v.ownBlock → (v'.ownBlock = v.ownBlock ∨ v'.ownBlock = some (w.alloc (.cells cs e)).heap.size) → K (a.put o.dst v') w') :
    if Region.wanted o (yielded ops a.tmps) = true then o.wp P a (w.alloc (.cells cs e)) K Q else E := by
  subst hg
  exact step_appK s y hgd ho ht hi hsz (hown.ext (ext_alloc w _)) (isSlice_one hu fun k hk => (hown.lt k hk).2) hs hx hbytes h63 (by simp; omega) fun v' w' h1 h2 h3 => h v' w' h1 h2 h3
end
theorem info_u64 : ElemInfo Try.prog 22 1 8 := elemInfo (z := .int .u64 0) (by kernel_rfl) rfl
theorem wf_u64 {x : Int} (h : 0 ≤ x ∧ x < 18446744073709551616) : (Lit.int .u64 x).wf = true := by
  have : IntKind.u64.min ≤ x ∧ x ≤ IntKind.u64.max := ⟨h.1, by show x ≤ 18446744073709551615; omega⟩
  simpa [Lit.wf] using this
theorem u64_holds {w : World} {S : Nat → Prop} {n : Nat} (h : n < 18446744073709551616) : (repInt .u64).holds w S (#[Value.int .u64 (n : Int)] : Array Value).toList (n : Int) := ⟨rfl, wf_u64 ⟨by omega, by omega⟩⟩
theorem chsS_succ (k : Nat) (acc : List Ch) (b : List UInt8) : chsS (k + 1) acc (some b) = chsS k (acc ++ [(chS (some b)).1]) (chS (some b)).2 := rfl
theorem info_choice : ElemInfo Try.prog 147 5 72 := elemInfo (z := .agg #[.int .i64 0, .int .i64 0, .int .i64 0, .slice none 0 0, .slice none 0 0]) (by kernel_rfl) rfl
theorem kZero_nb (k : Nat) (c : Int) : kZero[k]? ≠ some (.int .u8 c) := by
  unfold kZero kVals run0
  match k with
  | 0 | 1 | 2 | 3 | 4 | 5 | 6 | 7 | 8 => simp
  | k + 9 => simp
theorem flat_u64 : Flat (repInt .u64) := fun _ _ _ _ _ _ h => h
section
set_option maxHeartbeats 16000000 in
theorem krun_any (X : Nat → Prop) (w : World) (g : Nat) (b : List UInt8) (h : RdAt X w g b) :
    Calls Try.prog 98 #[.pointer (some ⟨g, 0, none⟩)] w fun e w' => Ends X g w w' e (runS b).2 fun v => ∃ cs, v = .agg cs ∧ repRun.holds w' (fresh w w') cs.toList (runS b).1 := by
  have hgw := h.lt
  obtain ⟨w0, hw0⟩ : ∃ w0, w.alloc (.cells kZero 73) = w0 := ⟨_, rfl⟩
  have hx0 : Ext w w0 := hw0 ▸ ext_alloc _ _
  have hz0 : Blk w0 w.heap.size 73 kZero := by rw [← hw0]; exact Blk.new _ _ _
  have h0 := h.ext hx0
  have hlt0 : w.heap.size < w0.heap.size := hz0.lt
  have hXg : X g := by obtain ⟨_, _, _, _, hx, _⟩ := h0; exact hx
  obtain ⟨F, hF⟩ : ∃ F, F = runS b := ⟨_, rfl⟩
  rw [← hF]
  have HF := hid hF
  clear hF
  have HM := hid magic_any
  unfold kZero kVals run0 at hw0
  dsimp only at hw0
  have hz0' := hid hz0
  clear hz0
  have hSame := hid (fun (W : World) (v u : Value) (xs : List UInt8) (h : IsSlice repByte W (all W) v xs) (h' : IsSlice repByte W (all W) u magicB) => same_any v u xs magicB W h h')
  by_cases hmg : (tkS 2 (some b)).1 = magicB

  rotate_left
  · have HMG := hid hmg
    have hdm : decide ((tkS 2 (some b)).1 = magicB) = false := decide_eq_false hmg
    have hFn : F.2 = none := by rw [HF.out]; simp only [runS]; rw [if_neg hmg]
    have HFn := hid hFn
    have HT := hid (fun (W : World) (hr : RdAt X W g b) => ktake_e X W g 2 b hr)
    generalize (tkS 2 (some b)).1 = q at *
    clear hmg hFn
    go_enter Try.func98, Try.ntmps98
    go_wp2_with (first
      | (go_at_call 135
         refine (hSame.out w3 _ _ _ ((hu2.any).ext hx3) hm3.slice).mono ?_
         rintro e w4 ⟨rfl, rfl⟩)
      | (go_at_call 87
         have _t := hu2
         refine (HM.out w2).mono ?_
         rintro e w3 ⟨rfl, hm3, hx3⟩)
      | (go_at_call 136
         refine (HT.out w1 (h0.ext hx1)).mono ?_
         rintro e w2 he
         rcases he.parts with ⟨hz, he, hoz⟩ | ⟨b2, v2, hs2, rfl, hu2, hr2, ho2⟩
         · unfold shortP at he
           subst he
           go_wp2_with fail
           exact ⟨rfl, Ends.no HFn.out rfl (((Only.of_ext hx0).then hx1).trans hoz)⟩
         obtain ⟨A2, c2, rfl⟩ := hu2.shape
         generalize q.length = nq at hu2 ⊢
         clear he)
      | (go_at_call 87
         refine (HM.out w0).mono ?_
         rintro e w1 ⟨rfl, hm1, hx1⟩))
    exact ⟨rfl, Ends.no HFn.out rfl (((((Only.of_ext hx0).then hx1).trans ho2).then hx3).then (Below.refl _ _))⟩

  · have HMG := hid hmg
    have hdm : decide ((tkS 2 (some b)).1 = magicB) = true := decide_eq_true hmg
    have HT := hid (fun (W : World) (hr : RdAt X W g b) => ktake_e X W g 2 b hr)
    generalize hq : (tkS 2 (some b)).1 = q at *
    have HQ := hid hq
    clear hmg hq
    go_enter Try.func98, Try.ntmps98
    go_wp2_with (first
      | (go_at_call 139
         have _t := hy8
         refine (kcount_e (fun k => X k ∨ k = w3.heap.size) x8 g 200 d7 hy8 (by omega)).mono ?_
         rintro e x9 he
         rcases he.parts with ⟨hz, he, hoz⟩ | ⟨d9, v, hsn9, rfl, rfl, hy9, hp9⟩
         · unfold shortP at he
           subst he
           go_wp2_with fail
           exact ⟨rfl, Ends.no (by rw [HF.out]; simp only [runS, hs2.out, hsn1.out, hsn2.out, hsn3.out, hsn4.out, hsn5.out, hsn6.out, hsn7.out, hz.out, plainS_none, wideS_none, cntS_none, drawsS_none, chsS_none, tkS_none]; split <;> rfl) rfl (hoc8.trans hoz)⟩
         have hoc9 := hoc8.trans hp9
         have hbx9 := hbx8.grown hp9 (fun e => hgA (by injection e))
         have hN9 := cntS_le 200 (some d7)
         generalize hK9 : (cntS 200 (some d7)).1 = N9 at hN9 ⊢
         have HK9 := hid hK9
         clear he hK9)
      | (refine wpl_mid (g := w3.heap.size) (k := 0) (t := 73) (old := [.int .i64 0, .int .i64 0, .int .i64 0, .int .i64 0, .int .i64 0, .int .i64 0, .int .u64 0, .slice none 0 0, .slice none 0 0]) (cs := KC) _ _ rfl rfl rfl (by rw [HKC.out]; rfl) hbx7 HKl.out HKi.out HKo.out ?_
         intro x8 hbx8 hp8
         rw [HKs.out, HKC.out] at hbx8
         change Blk x8 w3.heap.size 73 #[.int .i64 K1, .int .i64 K2, .int .i64 K3, .int .i64 K4, .int .i64 K5, .int .i64 K6, .int .u64 (K7 : Nat), .slice none 0 0, .slice none 0 0] at hbx8
         have hy8 := hy7.farOnly (.inr rfl) (fun e => hgA e.symm) hp8
         have hoc8 : Only g w x8 := hoc7.grow2 hp8 (fun k e => by injection e with e; omega))
      | (go_at_call 135
         refine (hSame.out w3 _ _ _ ((hu2.any).ext hx3) hm3.slice).mono ?_
         rintro e w4 ⟨rfl, rfl⟩
         have hxA := ext_alloc w3 (.cells #[.int .i64 0, .int .i64 0, .int .i64 0, .int .i64 0, .int .i64 0, .int .i64 0, .int .u64 0, .slice none 0 0, .slice none 0 0] 73)
         have hbA := Blk.new w3 73 #[.int .i64 0, .int .i64 0, .int .i64 0, .int .i64 0, .int .i64 0, .int .i64 0, .int .u64 0, .slice none 0 0, .slice none 0 0]
         have hrA := (hr2.ext hx3).one hxA hbA.lt hXg
         have hoA : Only g w _ := ((((Only.of_ext hx0).then hx1).trans ho2).then hx3).then hxA
         have hgA : w3.heap.size ≠ g := fun e => by have := (hr2.ext hx3).lt; omega
         have hgw3 : w.heap.size < w3.heap.size := by have := hx1.size; have := ho2.size; have := hx3.size; omega
         generalize hWA : w3.alloc (.cells #[.int .i64 0, .int .i64 0, .int .i64 0, .int .i64 0, .int .i64 0, .int .i64 0, .int .u64 0, .slice none 0 0, .slice none 0 0] 73) = wA at hxA hbA hrA hoA ⊢)
      | (go_at_call 87
         have _t := hu2
         refine (HM.out w2).mono ?_
         rintro e w3 ⟨rfl, hm3, hx3⟩)
      | (go_at_call 136
         refine (HT.out w1 (h0.ext hx1)).mono ?_
         rintro e w2 he
         rcases he.parts with ⟨hz, he, hoz⟩ | ⟨b2, v2, hs2, rfl, hu2, hr2, ho2⟩
         · unfold shortP at he
           subst he
           go_wp2_with fail
           exact ⟨rfl, Ends.no (by rw [HF.out]; simp only [runS, hz.out, plainS_none, wideS_none, cntS_none, drawsS_none, chsS_none, tkS_none]; split <;> rfl) rfl (((Only.of_ext hx0).then hx1).trans hoz)⟩
         obtain ⟨A2, c2, rfl⟩ := hu2.shape
         generalize q.length = nq at hu2 ⊢
         clear he)
      | (go_at_call 87
         refine (HM.out w0).mono ?_
         rintro e w1 ⟨rfl, hm1, hx1⟩)
      | (go_at_call 138
         have _t := hy6
         refine (knumber_e (fun k => X k ∨ k = w3.heap.size) x6 g d6 hy6).mono ?_
         rintro e x7 he
         rcases he.parts with ⟨hz, he, hoz⟩ | ⟨d7, v, hsn7, rfl, rfl, hy7, hp7⟩
         · unfold shortP at he
           subst he
           go_wp2_with fail
           exact ⟨rfl, Ends.no (by rw [HF.out]; simp only [runS, hs2.out, hsn1.out, hsn2.out, hsn3.out, hsn4.out, hsn5.out, hsn6.out, hz.out, plainS_none, wideS_none, cntS_none, drawsS_none, chsS_none, tkS_none]; split <;> rfl) rfl (hoc6.trans hoz)⟩
         have hoc7 := hoc6.trans hp7
         have hbx7 := hbx6.grown hp7 (fun e => hgA (by injection e))
         generalize hK7 : (wideS (some d6)).1 = K7
         have HK7 := hid hK7
         clear he hK7
         obtain ⟨KC, hKC⟩ : ∃ KC : Array Value, KC = #[.int .i64 K1, .int .i64 K2, .int .i64 K3, .int .i64 K4, .int .i64 K5, .int .i64 K6, .int .u64 (K7 : Nat)] := ⟨_, rfl⟩
         have hKs : KC.size = 7 := by rw [hKC]; rfl
         have hKo : KC.all (·.oneCell') = true := by rw [hKC]; simp [Value.oneCell']
         have hKi : (Try.prog.info? 24).map (·.size) = some KC.size := by rw [hKs]; kernel_rfl
         have hbx := hbA
         have hKl : 0 + KC.size ≤ [Value.int .i64 0, .int .i64 0, .int .i64 0, .int .i64 0, .int .i64 0, .int .i64 0, .int .u64 0, .slice none 0 0, .slice none 0 0].length := by rw [hKs]; decide
         have HKC := hid hKC
         have HKs := hid hKs
         have HKo := hid hKo
         have HKi := hid hKi
         have HKl := hid hKl
         clear hKC hKs hKo hKi hKl hbx)
      | (go_at_call 137
         have _t := hy5
         refine (kplain_e (fun k => X k ∨ k = w3.heap.size) x5 g d5 hy5).mono ?_
         rintro e x6 he
         rcases he.parts with ⟨hz, he, hoz⟩ | ⟨d6, v, hsn6, rfl, rfl, hy6, hp6⟩
         · unfold shortP at he
           subst he
           go_wp2_with fail
           exact ⟨rfl, Ends.no (by rw [HF.out]; simp only [runS, hs2.out, hsn1.out, hsn2.out, hsn3.out, hsn4.out, hsn5.out, hz.out, plainS_none, wideS_none, cntS_none, drawsS_none, chsS_none, tkS_none]; split <;> rfl) rfl (hoc5.trans hoz)⟩
         have hoc6 := hoc5.trans hp6
         have hbx6 := hbx5.grown hp6 (fun e => hgA (by injection e))
         generalize hK6 : (plainS (some d5)).1 = K6
         have HK6 := hid hK6
         clear he hK6)
      | (go_at_call 137
         have _t := hy4
         refine (kplain_e (fun k => X k ∨ k = w3.heap.size) x4 g d4 hy4).mono ?_
         rintro e x5 he
         rcases he.parts with ⟨hz, he, hoz⟩ | ⟨d5, v, hsn5, rfl, rfl, hy5, hp5⟩
         · unfold shortP at he
           subst he
           go_wp2_with fail
           exact ⟨rfl, Ends.no (by rw [HF.out]; simp only [runS, hs2.out, hsn1.out, hsn2.out, hsn3.out, hsn4.out, hz.out, plainS_none, wideS_none, cntS_none, drawsS_none, chsS_none, tkS_none]; split <;> rfl) rfl (hoc4.trans hoz)⟩
         have hoc5 := hoc4.trans hp5
         have hbx5 := hbx4.grown hp5 (fun e => hgA (by injection e))
         generalize hK5 : (plainS (some d4)).1 = K5
         have HK5 := hid hK5
         clear he hK5)
      | (go_at_call 137
         have _t := hy3
         refine (kplain_e (fun k => X k ∨ k = w3.heap.size) x3 g d3 hy3).mono ?_
         rintro e x4 he
         rcases he.parts with ⟨hz, he, hoz⟩ | ⟨d4, v, hsn4, rfl, rfl, hy4, hp4⟩
         · unfold shortP at he
           subst he
           go_wp2_with fail
           exact ⟨rfl, Ends.no (by rw [HF.out]; simp only [runS, hs2.out, hsn1.out, hsn2.out, hsn3.out, hz.out, plainS_none, wideS_none, cntS_none, drawsS_none, chsS_none, tkS_none]; split <;> rfl) rfl (hoc3.trans hoz)⟩
         have hoc4 := hoc3.trans hp4
         have hbx4 := hbx3.grown hp4 (fun e => hgA (by injection e))
         generalize hK4 : (plainS (some d3)).1 = K4
         have HK4 := hid hK4
         clear he hK4)
      | (go_at_call 137
         have _t := hy2
         refine (kplain_e (fun k => X k ∨ k = w3.heap.size) x2 g d2 hy2).mono ?_
         rintro e x3 he
         rcases he.parts with ⟨hz, he, hoz⟩ | ⟨d3, v, hsn3, rfl, rfl, hy3, hp3⟩
         · unfold shortP at he
           subst he
           go_wp2_with fail
           exact ⟨rfl, Ends.no (by rw [HF.out]; simp only [runS, hs2.out, hsn1.out, hsn2.out, hz.out, plainS_none, wideS_none, cntS_none, drawsS_none, chsS_none, tkS_none]; split <;> rfl) rfl (hoc2.trans hoz)⟩
         have hoc3 := hoc2.trans hp3
         have hbx3 := hbx2.grown hp3 (fun e => hgA (by injection e))
         generalize hK3 : (plainS (some d2)).1 = K3
         have HK3 := hid hK3
         clear he hK3)
      | (go_at_call 137
         have _t := hy1
         refine (kplain_e (fun k => X k ∨ k = w3.heap.size) x1 g d1 hy1).mono ?_
         rintro e x2 he
         rcases he.parts with ⟨hz, he, hoz⟩ | ⟨d2, v, hsn2, rfl, rfl, hy2, hp2⟩
         · unfold shortP at he
           subst he
           go_wp2_with fail
           exact ⟨rfl, Ends.no (by rw [HF.out]; simp only [runS, hs2.out, hsn1.out, hz.out, plainS_none, wideS_none, cntS_none, drawsS_none, chsS_none, tkS_none]; split <;> rfl) rfl (hoc1.trans hoz)⟩
         have hoc2 := hoc1.trans hp2
         have hbx2 := hbx1.grown hp2 (fun e => hgA (by injection e))
         generalize hK2 : (plainS (some d1)).1 = K2
         have HK2 := hid hK2
         clear he hK2)
      | (go_at_call 137
         have _t := hrA
         refine (kplain_e (fun k => X k ∨ k = w3.heap.size) wA g b2 hrA).mono ?_
         rintro e x1 he
         rcases he.parts with ⟨hz, he, hoz⟩ | ⟨d1, v, hsn1, rfl, rfl, hy1, hp1⟩
         · unfold shortP at he
           subst he
           go_wp2_with fail
           exact ⟨rfl, Ends.no (by rw [HF.out]; simp only [runS, hs2.out, hz.out, plainS_none, wideS_none, cntS_none, drawsS_none, chsS_none, tkS_none]; split <;> rfl) rfl (hoA.trans hoz)⟩
         have hoc1 := hoA.trans hp1
         have hbx1 := hbA.grown hp1 (fun e => hgA (by injection e))
         generalize hK1 : (plainS (some b2)).1 = K1
         have HK1 := hid hK1
         clear he hK1))
    have hgz : w.heap.size ≠ g := by omega
    have hzx : w.heap.size ≠ w3.heap.size := by omega
    have hz9 : Blk x9 w.heap.size 73 kZero := ((((((((((((hz0'.out.ext hx1).grown ho2 (fun e => hgz (by injection e))).ext hx3).ext hxA).grown hp1 (fun e => hgz (by injection e))).grown hp2 (fun e => hgz (by injection e))).grown hp3 (fun e => hgz (by injection e))).grown hp4 (fun e => hgz (by injection e))).grown hp5 (fun e => hgz (by injection e))).grown hp6 (fun e => hgz (by injection e))).grown hp7 (fun e => hgz (by injection e))).grown hp8 (fun e => hzx (by injection e))).grown hp9 (fun e => hgz (by injection e))
    have hw9g : g < x9.heap.size := hy9.lt
    have hw93 : w3.heap.size < x9.heap.size := hbx9.lt
    go_loopw [31] (fun i wr => ∃ (k : Nat) (bk : List UInt8) (dr : List Int) (v : Value), k ≤ N9 ∧ i = .int .i64 k ∧ Wall (drawsS N9 [] (some d9) = drawsS (N9 - k) dr (some bk)) ∧ Wall (dr.length = k) ∧ Blk wr w3.heap.size 73 #[.int .i64 K1, .int .i64 K2, .int .i64 K3, .int .i64 K4, .int .i64 K5, .int .i64 K6, .int .u64 (K7 : Nat), v, .slice none 0 0] ∧ Own (repInt .u64) 22 x9.heap.size wr v dr ∧ RdAt (fun k => (X k ∨ k = w3.heap.size) ∨ v.ownBlock = some k) wr g bk ∧ Only g w wr ∧ x9.heap.size ≤ wr.heap.size ∧ Blk wr w.heap.size 73 kZero) (fun i _ => N9 - (intOf i).toNat)
    case atStart => exact ⟨0, d9, [], .slice none 0 0, Nat.zero_le _, rfl, hid rfl, hid rfl, hbx9, own_nil _ _ _ _, hy9.widen (Below.refl _ _) (fun k hk => hk.imp id fun e => by cases e) (.inl (.inl hXg)), hoc9, Nat.le_refl _, hz9⟩
    case round =>
      obtain ⟨k, bk, dr, v, hk, rfl, HE, HEL, hbk, hown, hrk, hOk, hszk, hzk⟩ := hrel
      by_cases hlt : k < N9
      · have hsp : N9 - k = (N9 - k - 1) + 1 := by omega
        have HE2 := hid (show drawsS N9 [] (some d9) = drawsS (N9 - k - 1) (dr ++ [((wideS (some bk)).1 : Int)]) (wideS (some bk)).2 from by rw [HE.out, hsp]; rfl)
        have hc7 : wr.cell? ⟨w3.heap.size, 7, none⟩ = some v := hbk.cell 7
        rcases ht1 : (wideS (some bk)).2 with _ | e1
        · have eF := hid (show F.2 = none from by rw [HF.out]; simp only [runS, hs2.out, hsn1.out, hsn2.out, hsn3.out, hsn4.out, hsn5.out, hsn6.out, hsn7.out, hsn9.out, HK9.out, HE2.out, ht1, plainS_none, wideS_none, cntS_none, drawsS_none, chsS_none, tkS_none]; split <;> rfl)
          have HZ := hid (fun (W : World) (hr : RdAt _ W g bk) => knumber_no (fun k => (X k ∨ k = w3.heap.size) ∨ v.ownBlock = some k) W g bk hr ht1)
          clear ht1
          go_wp2
          have hc7d : wr.drew.cell? ⟨w3.heap.size, 7, none⟩ = some v := hc7
          refine wp_region_held_drew (S := fun w' => w'.cell? ⟨w3.heap.size, 7, none⟩ = some v) (by kernel_rfl) hc7d ?_
          intro hSd
          refine wpAnyH_take (i := 0) (v := ?va0) rfl (by kernel_rfl) (by kernel_rfl) (by kernel_rfl) (fun _ _ _ h => h) (Or.inl ⟨by kernel_rfl, ?hya0⟩) (by assumption) ?goa0
          case hya0 => (intro w hSw; (try dsimp only at hSw); go_simp; try with_reducible rfl)
          simp only [Act.put, List.setIfInBounds_toArray, List.set_cons_zero, List.set_cons_succ]
          refine wpAnyH_take (i := 1) (v := ?va1) rfl (by kernel_rfl) (by kernel_rfl) (by kernel_rfl) (fun _ _ _ h => h) (Or.inl ⟨by kernel_rfl, ?hya1⟩) (by assumption) ?goa1
          case hya1 => (intro w hSw; (try dsimp only at hSw); go_simp; try with_reducible rfl)
          simp only [Act.put, List.setIfInBounds_toArray, List.set_cons_zero, List.set_cons_succ]
          refine wpAnyH_take (i := 2) (v := ?va2) rfl (by kernel_rfl) (by kernel_rfl) (by kernel_rfl) (fun _ _ _ h => h) (Or.inl ⟨by kernel_rfl, ?hya2⟩) (by assumption) ?goa2
          case hya2 => (intro w hSw; (try dsimp only at hSw); go_simp; try with_reducible rfl)
          simp only [Act.put, List.setIfInBounds_toArray, List.set_cons_zero, List.set_cons_succ]
          refine wpAnyH_ready (rs := [3]) (by kernel_rfl) (by simp) ?_
          refine AllReadyH.cons rfl (fun K hK => ?_) AllReadyH.nil
          go_simp
          go_at_call 138
          refine (HZ.out _ (hrk.ext (Below.drew (Below.refl _ _)))).mono ?_
          rintro e w2 ⟨he, hoz⟩
          unfold shortP at he
          subst he
          dsimp only
          clear hK K
          go_wp2_with fail
          exact ⟨rfl, Ends.no eF.out rfl ((hOk.then (Below.drew (Below.refl _ _))).trans hoz)⟩
        · have HD := hid (fun (W : World) (hr : RdAt _ W g bk) => knumber_ok (fun k => (X k ∨ k = w3.heap.size) ∨ v.ownBlock = some k) W g bk e1 hr ht1)
          have HT1 := hid ht1
          clear ht1
          have hPl := wideS_lt (some bk)
          generalize hP1 : (wideS (some bk)).1 = P1 at HD hPl HE2
          have HP1 := hid hP1
          have HPl := hid hPl
          clear hP1 hPl
          obtain ⟨Av, cv, rfl, _⟩ := hown.form
          have hdl : dr.length ≤ 200 := by rw [HEL.out]; omega
          generalize hln : dr.length = ln at *
          have HLN := hid hln
          clear hln
          have hc7d : wr.drew.cell? ⟨w3.heap.size, 7, none⟩ = some (.slice Av ln cv) := hc7
          have hrd := hrk.ext (ext_drewN wr 1)
          go_wp2
          go_region_law (first
            | (go_simp
               go_at_call 138
               refine (HD.out _ hrd).mono ?_
               rintro e y2 ⟨rfl, hr2', ho2'⟩
               have hb2' := hbk.drew.grown ho2' (fun e => hgA (by injection e))
               have c2' : y2.cell? ⟨w3.heap.size, 7, none⟩ = some (.slice Av ln cv) := hb2'.cell 7
               have hown2 := (hown.ext (ext_drewN wr 1)).only2 ho2' hw9g
               have hsz2 : x9.heap.size ≤ y2.heap.size := Nat.le_trans hszk ho2'.size
               have hb2a := hb2'.ext (ext_alloc y2 (.cells #[.int .u64 (P1 : Int)] 22))
               have c2a : (y2.alloc (.cells #[.int .u64 (P1 : Int)] 22)).cell? ⟨w3.heap.size, 7, none⟩ = some (.slice Av ln cv) := hb2a.cell 7
               dsimp only)
            | (refine step_app1K (r := repInt .u64) (base := x9.heap.size) (x := (P1 : Int)) (cs := #[.int .u64 (P1 : Int)]) _ _ rfl rfl Try.underlying66 info_u64 (by decide) hown2 rfl rfl rfl (u64_holds HPl.out) (by have := HLN.out; omega) (by have := HLN.out; simp only [maxLen]; omega) hsz2 ?_
               intro v9 w9 hown9 hg9 hv9
               have hbk9 := hb2a.grown hg9 (fun e => by have := (hown2.lt w3.heap.size e.symm).1; omega)
               have f9 := hbk9.frozen 7
               have c9 : w9.cell? ⟨w3.heap.size, 7, none⟩ = some (.slice Av ln cv) := hbk9.cell 7
               obtain ⟨A9, q9, rfl, _⟩ := hown9.form
               rw [len_snoc, HLN.out] at hown9 hv9 ⊢))
          all_goals
            have h9gx : (Value.slice A9 (ln + 1) q9).ownBlock ≠ some w3.heap.size := fun e => by have := (hown9.lt _ e).1; omega
            have hO9 : Only g w w9 := (((hOk.then (ext_drewN wr 1)).trans ho2').then (ext_alloc _ _)).grow2 hg9 (fun k e => by have := (hown2.lt k e).1; have := hOk.size; have := hoc9.size; omega)
            go_wp2
            go_roundw
            case rel =>
              refine ⟨k + 1, e1, dr ++ [(P1 : Int)], _, by omega, by go_num, hid (by rw [HE.out, hsp]; show drawsS (N9 - k - 1) (dr ++ [((wideS (some bk)).1 : Int)]) (wideS (some bk)).2 = _; rw [HT1.out, HP1.out, Nat.sub_sub]), hid (by rw [len_snoc, HLN.out, HEL.out]), hbk9.set_ 7 _, hown9.wput flat_u64 h9gx, ?_, hO9.farSet (by omega) 7 _, ?_, ?_⟩
              · refine RdAt.farOnly ?_ (.inl (.inr rfl)) (fun e => hgA e.symm) ((Only.refl _ _).set_ 7 _)
                exact (hr2'.ext (ext_alloc _ _)).grow hg9 hv9 (fun k e => ⟨.inr e, fun e2 => by have := (hown2.lt k e).1; omega⟩) (fun k e => (hown9.lt k e).2) (fun k hk => hk.elim (fun h => .inl (.inl h)) .inr) (.inl (.inl hXg))
              · have := hg9.size; simp only [World.setCell, Array.size_modify]; simp at this; omega
              · exact ((((hzk.drew.grown ho2' (fun e => hgz (by injection e))).ext (ext_alloc _ _)).grown hg9 (fun e => by have := (hown2.lt _ e.symm).1; omega)).far (p := ⟨w3.heap.size, 7, none⟩) hzx _)
            case measure => simp [intOf]; omega
      · have hkk : k = N9 := by omega
        subst hkk
        rw [Nat.sub_self] at HE
        have HEd := hid (show drawsS k [] (some d9) = (dr, some bk) from HE.out)
        have hsD := hown.own
        have hvl := fun j e => (hown.lt j e).2
        have hvb := fun j e => (hown.lt j e).1
        have hdl : dr.length ≤ 200 := by rw [HEL.out]; omega
        obtain ⟨Av, cv, rfl, _⟩ := hown.form
        generalize hln : dr.length = ln at *
        have HLN := hid hln
        have hrn := hrk.narrow (Y := fun k => X k ∨ k = w3.heap.size) (fun k hk => .inl hk) (.inl hXg)
        clear HE hown hln
        go_wp2_with (first
          | (go_at_call 139
             have _t := hrn
             refine (kcount_e (fun k => X k ∨ k = w3.heap.size) wr g 500 bk hrn (by omega)).mono ?_
             rintro e y0 he
             rcases he.parts with ⟨hz, he, hoz⟩ | ⟨c0, v, hsc0, rfl, rfl, hyc, hpc⟩
             · unfold shortP at he
               subst he
               go_wp2_with fail
               exact ⟨rfl, Ends.no (by rw [HF.out]; simp only [runS, hs2.out, hsn1.out, hsn2.out, hsn3.out, hsn4.out, hsn5.out, hsn6.out, hsn7.out, hsn9.out, HK9.out, HEd.out, hz.out, plainS_none, wideS_none, cntS_none, drawsS_none, chsS_none, tkS_none]; split <;> rfl) rfl (hOk.trans hoz)⟩
             have hOc := hOk.trans hpc
             have hbc := hbk.grown hpc (fun e => hgA (by injection e))
             have hzc := hzk.grown hpc (fun e => hgz (by injection e))
             have hsc : IsSlice (repInt .u64) y0 (fun b => x9.heap.size ≤ b ∧ b < y0.heap.size) (.slice Av ln cv) dr := hsD.keep fun b hb => ⟨⟨hb.1, Nat.lt_of_lt_of_le hb.2 hpc.size⟩, fun o => hpc.cell hb.2 (fun e => by have := hb.1; omega) o⟩
             have hNc := cntS_le 500 (some bk)
             generalize hKc : (cntS 500 (some bk)).1 = Nc at hNc ⊢
             have HKc := hid hKc
             clear he hKc hbk hzk hsD))
        have hyg : g < y0.heap.size := hyc.lt
        have hygx : w3.heap.size < y0.heap.size := hbc.lt
        have hy9 : x9.heap.size ≤ y0.heap.size := Nat.le_trans hszk hpc.size
        have hy9w : w.heap.size ≤ x9.heap.size := hoc9.size
        go_loopw [43] (fun i wr => ∃ (j : Nat) (bj : List UInt8) (cl : List Ch) (v2 : Value), j ≤ Nc ∧ i = .int .i64 j ∧ Wall (chsS Nc [] (some c0) = chsS (Nc - j) cl (some bj)) ∧ Wall (cl.length = j) ∧ Blk wr w3.heap.size 73 #[.int .i64 K1, .int .i64 K2, .int .i64 K3, .int .i64 K4, .int .i64 K5, .int .i64 K6, .int .u64 (K7 : Nat), .slice Av ln cv, v2] ∧ Own repCh 147 y0.heap.size wr v2 cl ∧ RdAt (fun k => (X k ∨ k = w3.heap.size) ∨ v2.ownBlock = some k) wr g bj ∧ Only g w wr ∧ y0.heap.size ≤ wr.heap.size ∧ Blk wr w.heap.size 73 kZero ∧ IsSlice (repInt .u64) wr (fun b => x9.heap.size ≤ b ∧ b < y0.heap.size) (.slice Av ln cv) dr) (fun i _ => Nc - (intOf i).toNat)
        case atStart => exact ⟨0, c0, [], .slice none 0 0, Nat.zero_le _, rfl, hid rfl, hid rfl, hbc, own_nil _ _ _ _, hyc.widen (Below.refl _ _) (fun k hk => hk.imp id fun e => by cases e) (.inl (.inl hXg)), hOc, Nat.le_refl _, hzc, hsc⟩
        case round =>
          clear hrk hrn hOk hszk
          obtain ⟨j, bj, cl, v2, hj, rfl, HEj, HEJ, hbk2, hown2, hrk2, hOk2, hszk2, hzk2, hsk2⟩ := hrel
          by_cases hltj : j < Nc
          · have hspj : Nc - j = (Nc - j - 1) + 1 := by omega
            have HE2 := hid (show chsS Nc [] (some c0) = chsS (Nc - j - 1) (cl ++ [(chS (some bj)).1]) (chS (some bj)).2 from HEj.out.trans (by rw [hspj, chsS_succ, Nat.add_sub_cancel]))
            have hc8 : wr.cell? ⟨w3.heap.size, 8, none⟩ = some v2 := hbk2.cell 8
            rcases ht1 : (chS (some bj)).2 with _ | e1
            · have eF := hid (show F.2 = none from by rw [HF.out]; simp only [runS, hs2.out, hsn1.out, hsn2.out, hsn3.out, hsn4.out, hsn5.out, hsn6.out, hsn7.out, hsn9.out, HK9.out, HEd.out, hsc0.out, HKc.out, HE2.out, ht1, plainS_none, wideS_none, cntS_none, drawsS_none, chsS_none, tkS_none]; split <;> rfl)
              have HZ := hid (fun (W : World) (hr : RdAt (fun k => (X k ∨ k = w3.heap.size) ∨ v2.ownBlock = some k) W g bj) => by have := kchoice_any _ W g bj hr; rw [ht1] at this; exact this)
              clear ht1
              go_wp2
              have hc8d : wr.drew.cell? ⟨w3.heap.size, 8, none⟩ = some v2 := hc8
              refine wp_region_held_drew (S := fun w' => w'.cell? ⟨w3.heap.size, 8, none⟩ = some v2) (by kernel_rfl) hc8d ?_
              intro hSd
              refine wpAnyH_take (i := 0) (v := ?vb0) rfl (by kernel_rfl) (by kernel_rfl) (by kernel_rfl) (fun _ _ _ h => h) (Or.inl ⟨by kernel_rfl, ?hyb0⟩) (by assumption) ?gob0
              case hyb0 => (intro w hSw; (try dsimp only at hSw); go_simp; try with_reducible rfl)
              simp only [Act.put, List.setIfInBounds_toArray, List.set_cons_zero, List.set_cons_succ]
              refine wpAnyH_take (i := 1) (v := ?vb1) rfl (by kernel_rfl) (by kernel_rfl) (by kernel_rfl) (fun _ _ _ h => h) (Or.inl ⟨by kernel_rfl, ?hyb1⟩) (by assumption) ?gob1
              case hyb1 => (intro w hSw; (try dsimp only at hSw); go_simp; try with_reducible rfl)
              simp only [Act.put, List.setIfInBounds_toArray, List.set_cons_zero, List.set_cons_succ]
              refine wpAnyH_take (i := 2) (v := ?vb2) rfl (by kernel_rfl) (by kernel_rfl) (by kernel_rfl) (fun _ _ _ h => h) (Or.inl ⟨by kernel_rfl, ?hyb2⟩) (by assumption) ?gob2
              case hyb2 => (intro w hSw; (try dsimp only at hSw); go_simp; try with_reducible rfl)
              simp only [Act.put, List.setIfInBounds_toArray, List.set_cons_zero, List.set_cons_succ]
              refine wpAnyH_ready (rs := [3]) (by kernel_rfl) (by simp) ?_
              refine AllReadyH.cons rfl (fun K hK => ?_) AllReadyH.nil
              go_simp
              go_at_call 140
              refine (HZ.out _ (hrk2.ext (Below.drew (Below.refl _ _)))).mono ?_
              rintro e wz ⟨he, hoz⟩
              unfold shortP at he
              subst he
              dsimp only
              clear hK K
              go_wp2_with fail
              exact ⟨rfl, Ends.no eF.out rfl ((hOk2.then (Below.drew (Below.refl _ _))).trans hoz)⟩
            · have HD := hid (fun (W : World) (hr : RdAt (fun k => (X k ∨ k = w3.heap.size) ∨ v2.ownBlock = some k) W g bj) => by have := kchoice_any _ W g bj hr; rw [ht1] at this; exact this)
              have HT1 := hid ht1
              clear ht1
              generalize hC1 : (chS (some bj)).1 = C1 at HD HE2
              have HC1 := hid hC1
              clear hC1
              obtain ⟨A2v, c2v, rfl, _⟩ := hown2.form
              have hcll : cl.length ≤ 500 := by rw [HEJ.out]; omega
              generalize hln2 : cl.length = ln2 at *
              have HLN2 := hid hln2
              clear hln2
              have hc8d : wr.drew.cell? ⟨w3.heap.size, 8, none⟩ = some (.slice A2v ln2 c2v) := hc8
              have hrd := hrk2.ext (ext_drewN wr 1)
              go_wp2
              go_region_law (first
                | (go_simp
                   go_at_call 140
                   refine (HD.out _ hrd).mono ?_
                   rintro e y2 ⟨vc, rfl, ⟨csC, rfl, hcs⟩, hr2', ho2'⟩
                   obtain ⟨u1, u2, hcs1, hcs2, hcs3⟩ := hcs
                   have hcsE : csC = #[.int .i64 C1.kind, .int .i64 C1.who, .int .i64 C1.at_, u1, u2] := by rw [← hcs1]
                   subst hcsE
                   clear hcs1
                   have hcs := hid (show repCh.holds y2 (el y0.heap.size y2 (.slice A2v ln2 c2v)) (#[.int .i64 C1.kind, .int .i64 C1.who, .int .i64 C1.at_, u1, u2] : Array Value).toList C1 from repCh.keep (S := fresh wr y2) ⟨u1, u2, rfl, hcs2, hcs3⟩ fun b hb => ⟨⟨Nat.le_trans hszk2 hb.1, hb.2, fun e => by have := (hown2.lt b e).2; have h2 : wr.heap.size ≤ b := hb.1; omega⟩, fun _ => rfl⟩)
                   obtain ⟨E1, f1, rfl⟩ := hcs2.shape
                   obtain ⟨E2, f2, rfl⟩ := hcs3.shape
                   generalize C1.data.length = m1 at *
                   generalize C1.edits.length = m2 at *
                   have hb2' := hbk2.drew.grown ho2' (fun e => hgA (by injection e))
                   have c2' : y2.cell? ⟨w3.heap.size, 8, none⟩ = some (.slice A2v ln2 c2v) := hb2'.cell 8
                   have hown3 := (hown2.ext (ext_drewN wr 1)).only2 ho2' hyg
                   have hsz2 : y0.heap.size ≤ y2.heap.size := Nat.le_trans hszk2 ho2'.size
                   have hb2a := hb2'.ext (ext_alloc y2 (.cells #[.int .i64 C1.kind, .int .i64 C1.who, .int .i64 C1.at_, .slice E1 m1 f1, .slice E2 m2 f2] 147))
                   have c2a : (y2.alloc (.cells #[.int .i64 C1.kind, .int .i64 C1.who, .int .i64 C1.at_, .slice E1 m1 f1, .slice E2 m2 f2] 147)).cell? ⟨w3.heap.size, 8, none⟩ = some (.slice A2v ln2 c2v) := hb2a.cell 8
                   clear hcs2 hcs3
                   dsimp only)
                | (refine step_app1K (r := repCh) (base := y0.heap.size) (x := C1) (cs := #[.int .i64 C1.kind, .int .i64 C1.who, .int .i64 C1.at_, .slice E1 m1 f1, .slice E2 m2 f2]) _ _ rfl rfl Try.underlying67 info_choice (by decide) hown3 rfl rfl rfl hcs.out (by have := HLN2.out; omega) (by have := HLN2.out; simp only [maxLen]; omega) hsz2 ?_
                   intro v9 w9 hown9 hg9 hv9
                   have hbk9 := hb2a.grown hg9 (fun e => by have := (hown3.lt w3.heap.size e.symm).1; omega)
                   have f9 := hbk9.frozen 8
                   have c9 : w9.cell? ⟨w3.heap.size, 8, none⟩ = some (.slice A2v ln2 c2v) := hbk9.cell 8
                   obtain ⟨A9, q9, rfl, _⟩ := hown9.form
                   rw [len_snoc, HLN2.out] at hown9 hv9 ⊢))
              all_goals
                have h9gx : (Value.slice A9 (ln2 + 1) q9).ownBlock ≠ some w3.heap.size := fun e => by have := (hown9.lt _ e).1; omega
                have hO9 : Only g w w9 := (((hOk2.then (ext_drewN wr 1)).trans ho2').then (ext_alloc _ _)).grow2 hg9 (fun k e => by have := (hown3.lt k e).1; omega)
                go_wp2
                go_roundw
                case rel =>
                  refine ⟨j + 1, e1, cl ++ [C1], _, by omega, by go_num, hid (by rw [HEj.out, hspj, chsS_succ, HT1.out, HC1.out, Nat.sub_sub]), hid (by rw [len_snoc, HLN2.out, HEJ.out]), hbk9.set_ 8 _, hown9.only2 ((Only.refl w3.heap.size _).set_ 8 _) hygx, ?_, hO9.farSet (by omega) 8 _, ?_, ?_, ?_⟩
                  · refine RdAt.farOnly ?_ (.inl (.inr rfl)) (fun e => hgA e.symm) ((Only.refl _ _).set_ 8 _)
                    exact (hr2'.ext (ext_alloc _ _)).grow hg9 hv9 (fun k e => ⟨.inr e, fun e2 => by have := (hown3.lt k e).1; omega⟩) (fun k e => (hown9.lt k e).2) (fun k hk => hk.elim (fun h => .inl (.inl h)) .inr) (.inl (.inl hXg))
                  · have := hg9.size; simp only [World.setCell, Array.size_modify]; simp at this; omega
                  · exact ((((hzk2.drew.grown ho2' (fun e => hgz (by injection e))).ext (ext_alloc _ _)).grown hg9 (fun e => by have := (hown3.lt _ e.symm).1; omega)).far (p := ⟨w3.heap.size, 8, none⟩) hzx _)
                  · refine hsk2.keep fun k hk => ⟨hk, fun o => World.cell?_of_block ?_⟩
                    have hk1 : x9.heap.size ≤ k := hk.1
                    have hk2 : k < y0.heap.size := hk.2
                    rw [Below.heap_setCell w9 _ _ k (by show k ≠ w3.heap.size; omega), hg9.block k (by simp; omega) (fun e => by have := (hown3.lt k e.symm).1; omega), Below.heap_alloc y2 _ k (by omega), ho2'.block k (by show k < wr.heap.size; omega) (fun e => by injection e with e; omega)]
                    rfl
                case measure => simp [intOf]; omega
          · have hjj : j = Nc := by omega
            subst hjj
            rw [Nat.sub_self] at HEj
            have HEc := hid (show chsS j [] (some c0) = (cl, some bj) from HEj.out)
            clear HEj
            have HR0 := hid hrk2
            obtain ⟨vr, hbr, hslr, hlr, _, _⟩ := hrk2
            have hcr : wr.cell? ⟨g, 0, none⟩ = some vr := hbr.cell 0
            have hFE := hid (show F = (⟨K1, K2, K3, K4, K5, K6, (K7 : Int), dr, cl⟩, if bj = [] then some [] else none) from by
              rw [HF.out]
              simp only [runS, hs2.out, hsn1.out, hsn2.out, hsn3.out, hsn4.out, hsn5.out, hsn6.out, hsn7.out, hsn9.out, HK9.out, HEd.out, hsc0.out, HKc.out, HEc.out, HK1.out, HK2.out, HK3.out, HK4.out, HK5.out, HK6.out, HK7.out, HQ.out]
              rw [if_pos HMG.out]
              by_cases hbj : bj = []
              · rw [if_pos (by rw [hbj]), if_pos hbj]
              · rw [if_neg (fun e => hbj (Option.some.inj e)), if_neg hbj])
            obtain ⟨Ar, cr, rfl⟩ := hslr.shape
            obtain ⟨A2v, c2v, rfl, _⟩ := hown2.form
            have hNe := hid (show bj.length = 0 ↔ bj = [] from List.length_eq_zero_iff)
            generalize bj.length = lj at *
            generalize cl.length = lc at *
            have hbj' := hid hbr
            clear hbr hslr hlr
            by_cases hl0 : lj = 0
            · have hF1 := hid (show F = (⟨K1, K2, K3, K4, K5, K6, (K7 : Int), dr, cl⟩, some []) from by rw [hFE.out, if_pos (hNe.out.1 hl0)])
              have hb0 := hNe.out.1 hl0
              have ht0 : decide (0 < lj) = false := by simp; omega
              obtain ⟨KV, hKV⟩ : ∃ KV : Array Value, KV = #[.int .i64 K1, .int .i64 K2, .int .i64 K3, .int .i64 K4, .int .i64 K5, .int .i64 K6, .int .u64 (K7 : Nat), .slice Av ln cv, .slice A2v lc c2v] := ⟨_, rfl⟩
              have hbV : Blk wr w3.heap.size 73 KV := hKV ▸ hbk2
              have hsV : KV.size = 9 := by rw [hKV]; rfl
              have hinV : (Try.prog.info? 73).map (·.size) = some KV.size := by rw [hsV]; kernel_rfl
              have honV : KV.all (·.oneCell') = true := by rw [hKV]; simp [Value.oneCell']
              have HKV := hid hKV
              have HsV := hid (show kZero.size = KV.size by rw [hsV]; rfl)
              have HiV := hid hinV
              have HoV := hid honV
              have Hb0 := hid hb0
              clear hKV hsV hinV honV hbk2 hl0 hb0
              go_wp2_with (first
                | (refine wpl_loadRow _ rfl rfl rfl hbV Try.underlying73 rfl HiV.out ?_)
                | (refine wpl_row (g := w.heap.size) (cs := KV) _ _ rfl rfl rfl rfl hzk2 HiV.out HsV.out HoV.out ?_; intro w9 hb9 ho9))
              refine bodyPost_ret (results_cell_row rfl _ _ w.heap.size _ _ (0, 0) _ rfl hb9 Try.underlying73 rfl HiV.out) rfl ?_
              rw [hF1.out]
              refine ⟨_, rfl, ⟨KV, rfl, ?_⟩, ?_, ?_⟩
              · rw [HKV.out]
                have hK7l := wideS_lt (some d6)
                rw [HK7.out] at hK7l
                exact ⟨_, _, rfl, wf_u64 (x := (K7 : Int)) ⟨by omega, by omega⟩, hsk2.keep fun b hb => ⟨⟨by have h1 : x9.heap.size ≤ b := hb.1; omega, by have h2 : b < y0.heap.size := hb.2; have := ho9.size; omega⟩, fun o => ho9.cell (by have h2 : b < y0.heap.size := hb.2; omega) (by have h1 : x9.heap.size ≤ b := hb.1; omega) o⟩,
                  (hown2.only2 ho9 (by omega)).own.keep fun b hb => ⟨⟨by have h1 : y0.heap.size ≤ b := hb.1; omega, hb.2⟩, fun _ => rfl⟩⟩
              · rw [← Hb0.out]
                exact (HR0.out.narrow (fun k hk => .inl (.inl hk)) hXg).zero hzk2 kZero_nb ho9 (by omega)
              · exact hOk2.grow2 ho9 (fun k e => by injection e with e; omega)
            · have hF0 := hid (show F.2 = none from by rw [hFE.out]; exact if_neg (fun e => hl0 (hNe.out.2 e)))
              have ht0 : decide (0 < lj) = true := by simp; omega
              go_wp2
              exact ⟨rfl, Ends.no hF0.out rfl hOk2⟩
end
end Go.Proofs.Ytjchobncmogcpaa
