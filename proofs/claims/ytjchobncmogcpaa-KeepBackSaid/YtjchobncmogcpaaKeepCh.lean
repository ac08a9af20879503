/- The walk of keep's reader of choices. -/
import Derived.Test.YtjchobncmogcpaaKeepRd2
import Derived.Test.YtjchobncmogcpaaKeepEq2
namespace Go.Proofs.Ytjchobncmogcpaa
open Go.RowKit

section
variable {X Y : Nat → Prop} {w w' : World} {g gc : Nat} {b : List UInt8}
/-- New blocks may join X. -/
theorem RdAt.widen (h : RdAt X w g b) (he : Ext w w') (hY : ∀ k, Y k → X k ∨ (w.heap.size ≤ k ∧ k < w'.heap.size)) (hg : Y g) : RdAt Y w' g b := by
  obtain ⟨v, h1, h2, h3, h4, h5⟩ := h
  refine ⟨v, h1.ext he, h2.keep fun k hk => ⟨⟨Nat.lt_of_lt_of_le hk.1 he.size, fun hy => ?_⟩, fun o => he.cell hk.1 o⟩, h3, hg, fun k hk => ?_⟩
  · rcases hY k hy with h | h
    · exact hk.2 h
    · have := hk.1; omega
  · rcases hY k hk with h | h
    · exact Nat.lt_of_lt_of_le (h5 k h) he.size
    · exact h.2
theorem RdAt.one (h : RdAt X w g b) (he : Ext w w') (hlt : w.heap.size < w'.heap.size) (hg : X g) : RdAt (fun k => X k ∨ k = w.heap.size) w' g b :=
  h.widen he (fun k hk => hk.imp id fun e => by rw [e]; exact ⟨Nat.le_refl _, hlt⟩) (.inl hg)
theorem Only.grow2 {a : World} {row : Option Nat} (h : Only g a w) (hg : w.grownBy w' row) (hr : ∀ k, row = some k → a.heap.size ≤ k) : Only g a w' :=
  ⟨hg.os.trans h.os, hg.tape.trans h.tape, hg.output.trans h.output, Nat.le_trans h.size hg.size, fun k hk hne => (hg.block k (Nat.lt_of_lt_of_le hk h.size) (fun e => by have := hr k e.symm; omega)).trans (h.block k hk hne)⟩
theorem ch_one (a b c : Int) (A A' : Option Addr) (n m n' m' : Nat) : (#[Value.int .i64 a, .int .i64 b, .int .i64 c, .slice A n m, .slice A' n' m'] : Array Value).all (·.oneCell') = true := by simp [Value.oneCell']
theorem len_snoc {α : Type} (l : List α) (x : α) : (l ++ [x]).length = l.length + 1 := by simp
theorem ed_holds {w : World} {S : Nat → Prop} {a b : Int} {n : Nat} (h : n < 256) : repEd.holds w S (#[Value.int .i64 a, .int .i64 b, .int .u8 (n : Int)] : Array Value).toList ⟨a, b, UInt8.ofNat n⟩ := by
  show [_, _, _] = [_, _, _]
  rw [u8_of n h]
theorem info_edit : ElemInfo Try.prog 161 3 24 := elemInfo (z := .agg #[.int .i64 0, .int .i64 0, .int .u8 0]) (by kernel_rfl) rfl
theorem RdAt.narrow (h : RdAt X w g b) (hY : ∀ k, Y k → X k) (hg : Y g) : RdAt Y w g b := by
  obtain ⟨v, h1, h2, h3, h4, h5⟩ := h
  exact ⟨v, h1, h2.keep fun k hk => ⟨⟨hk.1, fun hy => hk.2 (hY k hy)⟩, fun _ => rfl⟩, h3, hg, fun k hk => h5 k (hY k hk)⟩
theorem RdAt.far (h : RdAt X w g b) (hx : X gc) (hne : g ≠ gc) (k : Nat) (u : Value) : RdAt X (w.setCell ⟨gc, k, none⟩ u) g b := by
  obtain ⟨v, h1, h2, h3, h4, h5⟩ := h
  have ho : Only gc w (w.setCell ⟨gc, k, none⟩ u) := (Only.refl _ _).set_ _ _
  exact ⟨v, h1.far (by exact hne) _, h2.outOnly ho hx, h3, h4, fun k hk => Nat.lt_of_lt_of_le (h5 k hk) ho.size⟩
theorem RdAt.grow {u v : Value} (h : RdAt X w g b) (hg : w.grownBy w' v.ownBlock) (hv : u.ownBlock = v.ownBlock ∨ u.ownBlock = some w.heap.size) (hX : ∀ k, v.ownBlock = some k → X k ∧ k ≠ g) (hu : ∀ k, u.ownBlock = some k → k < w'.heap.size)
    (hY : ∀ k, Y k → X k ∨ u.ownBlock = some k) (hYg : Y g) : RdAt Y w' g b := by
  obtain ⟨x, h1, h2, h3, h4, h5⟩ := h
  refine ⟨x, h1.grown hg (fun e => (hX g e.symm).2 rfl), h2.keep fun k hk => ⟨⟨Nat.lt_of_lt_of_le hk.1 hg.size, fun hy => ?_⟩, fun o => World.cell?_of_block (hg.block k hk.1 fun e => hk.2 (hX k e.symm).1)⟩, h3, hYg, fun k hk => ?_⟩
  · rcases hY k hy with h | h
    · exact hk.2 h
    · rcases hv with e | e
      · exact hk.2 (hX k (e ▸ h)).1
      · rw [e] at h; injection h with h; have := hk.1; omega
  · rcases hY k hk with h | h
    · exact Nat.lt_of_lt_of_le (h5 k h) hg.size
    · exact hu k h
/-- Bytes do not lie among cells of which none is a byte. -/
theorem IsSlice.notIn {w : World} {S : Nat → Prop} {v : Value} {xs : List UInt8} {z : Nat} {t : TypeId} {cs : Array Value} (h : IsSlice repByte w S v xs) (hz : Blk w z t cs) (hcs : ∀ (k : Nat) (c : Int), cs[k]? ≠ some (.int .u8 c)) : IsSlice repByte w (fun b => S b ∧ b ≠ z) v xs := by
  obtain ⟨A, n, c, rfl, h1, h2, h3, h4⟩ := h
  refine ⟨A, n, c, rfl, h1, h2, h3, fun hn => ?_⟩
  obtain ⟨b, off, hA, hb, hj⟩ := h4 hn
  refine ⟨b, off, hA, ⟨hb, fun e => ?_⟩, fun j hjl => ?_⟩
  · obtain ⟨ds, hd, hc⟩ := hj 0 (by omega)
    have hd' : ds = [.int .u8 _] := hd
    subst hd'
    have := hc 0 (by simp)
    rw [e, hz.cell] at this
    exact hcs _ _ this
  · obtain ⟨ds, hd, hc⟩ := hj j hjl
    exact ⟨ds, hd, hc⟩
theorem RdAt.zero {z : Nat} {t : TypeId} {cs : Array Value} (h : RdAt X w g b) (hz : Blk w z t cs) (hcs : ∀ (k : Nat) (c : Int), cs[k]? ≠ some (.int .u8 c)) (ho : Only z w w') (hg : g ≠ z) : RdAt X w' g b := by
  obtain ⟨v, h1, h2, h3, h4, h5⟩ := h
  exact ⟨v, h1.grown ho (fun e => hg (by injection e)), (h2.notIn hz hcs).keep fun k hk => ⟨⟨Nat.lt_of_lt_of_le hk.1.1 ho.size, hk.1.2⟩, fun o => ho.cell hk.1.1 hk.2 o⟩, h3, h4, fun k hk => Nat.lt_of_lt_of_le (h5 k hk) ho.size⟩
theorem zeroCh_nb (k : Nat) (c : Int) : (#[.int .i64 0, .int .i64 0, .int .i64 0, .slice none 0 0, .slice none 0 0] : Array Value)[k]? ≠ some (.int .u8 c) := by
  match k with
  | 0 | 1 | 2 | 3 | 4 => simp
  | k + 5 => simp
end
theorem Own.only2 {α : Type} {r : Rep α} {e base} {w w' : World} {v} {xs : List α} {g : Nat} (h : Own r e base w v xs) (ho : Only g w w') (hg : g < base) : Own r e base w' v xs := by
  refine h.keep ho ?_ (.inr fun b hb e => by injection e with e; have := hb.1; omega)
  cases hv : v.ownBlock
  · exact .inl rfl
  · rename_i k
    exact .inr fun e => by injection e with e; have := (h.lt k hv).1; omega
section
variable {P : Program} {α : Type} {r : Rep α} {w : World} {ops : Array Oper} {rest : List Oper} {o : Oper} {a : Act} {Q : Exit → Act → World → Prop}
theorem wpl_app1K {base g : Nat} {t e : TypeId} {bytes : Nat} {v : Value} {xs : List α} {x : α} {cs : Array Value} (s y : Operand) (hgd : o.guard = none)
    (ho : o.op = .call { callee := .builtin .append, args := #[s, y], argTypes := #[t, t] }) (ht : P.underlying t = some (.slice e)) (hi : ElemInfo P e r.size bytes) (hsz : 0 < r.size)
    (hown : Own r e base w v xs) (hs : a.eval s = v) (hx : a.eval y = .slice (some ⟨g, 0, none⟩) 1 1) (hg : g = w.heap.size) (hu : r.holds w (el base w v) cs.toList x)
    (hbytes : (xs.length + 1) * bytes ≤ 140737488355328) (h63 : xs.length + 1 ≤ maxLen) (hbase : base ≤ w.heap.size)
    (h : ∀ v' w', Own r e base w' v' (xs ++ [x]) → (w.alloc (.cells cs e)).grownBy w' v.ownBlock → (v'.ownBlock = v.ownBlock ∨ v'.ownBlock = some (w.alloc (.cells cs e)).heap.size) → wpList P ops Q rest (a.put o.dst v') w') : wpList P ops Q (o :: rest) a (w.alloc (.cells cs e)) := by
  subst hg
  exact wpl_app s y hgd ho ht hi hsz (hown.ext (ext_alloc w _)) (isSlice_one hu fun k hk => (hown.lt k hk).2) hs hx hbytes h63 (by simp; omega) fun v' w' h1 h2 h3 => h v' w' h1 h2 h3
end
/-- How a reading step of keep ends: with what it read, or by giving up. -/
def Ends (X : Nat → Prop) (g : Nat) (w w' : World) (e : Ending) (s : St) (P : Value → Prop) : Prop :=
  match s with
  | none => e = shortP ∧ Only g w w'
  | some b => ∃ v, e = .returned v ∧ P v ∧ RdAt X w' g b ∧ Only g w w'
set_option maxRecDepth 100000
section
set_option maxHeartbeats 8000000 in
theorem kchoice_any (X : Nat → Prop) (w : World) (g : Nat) (b : List UInt8) (h : RdAt X w g b) :
    Calls Try.prog 140 #[.pointer (some ⟨g, 0, none⟩)] w fun e w' => Ends X g w w' e (chS (some b)).2 fun v => ∃ cs, v = .agg cs ∧ repCh.holds w' (fresh w w') cs.toList (chS (some b)).1 := by
  have hgw := h.lt
  obtain ⟨w0, hw0⟩ : ∃ w0, w.alloc (.cells #[.int .i64 0, .int .i64 0, .int .i64 0, .slice none 0 0, .slice none 0 0] 147) = w0 := ⟨_, rfl⟩
  have hx0 : Ext w w0 := hw0 ▸ ext_alloc _ _
  have hbr : Blk w0 w.heap.size 147 #[.int .i64 0, .int .i64 0, .int .i64 0, .slice none 0 0, .slice none 0 0] := by rw [← hw0]; exact Blk.new _ _ _
  have h0 := h.ext hx0
  have hlt0 : w.heap.size < w0.heap.size := hbr.lt
  obtain ⟨F, hF⟩ : ∃ F, F = chS (some b) := ⟨_, rfl⟩
  rw [← hF]
  unfold chS at hF
  dsimp only at hF
  have HF := hid hF
  clear hF

  have hXg : X g := by obtain ⟨_, _, _, _, hx, _⟩ := h0; exact hx
  rcases hs1 : (plainS (some b)).2 with _ | b1
  · have eF : F.2 = none := by rw [HF.out]; simp only [hdS, dataS, hs1, plainS_none, dataS_none, cntS_none, edsS_none, tkS_none]
    rw [eF]
    have HZ1 := hid (fun (Y : Nat → Prop) (W : World) (hr : RdAt Y W g b) => kplain_no Y W g b hr hs1)
    clear eF hs1
    go_enter Try.func140, Try.ntmps140
    go_wp2_with (first
      | (go_at_call 137; refine (HZ1.out X w0 h0).mono ?_; rintro e wz ⟨he, hoz⟩; unfold shortP at he; subst he))
    exact ⟨rfl, rfl, (Only.of_ext hx0).trans hoz⟩
  · have HC1 := hid (fun (Y : Nat → Prop) (W : World) (hr : RdAt Y W g b) => kplain_ok Y W g b b1 hr hs1)
    have HS1 := hid hs1
    clear hs1
    generalize hK1 : (plainS (some b)).1 = K1 at HC1
    have HK1 := hid hK1
    clear hK1
    rcases hs2 : (plainS (some b1)).2 with _ | b2
    · have eF : F.2 = none := by rw [HF.out]; simp only [hdS, dataS, HS1.out, hs2, plainS_none, dataS_none, cntS_none, edsS_none, tkS_none]
      rw [eF]
      have HZ2 := hid (fun (Y : Nat → Prop) (W : World) (hr : RdAt Y W g b1) => kplain_no Y W g b1 hr hs2)
      clear eF hs2
      go_enter Try.func140, Try.ntmps140
      go_wp2_with (first
        | (go_at_call 137; refine (HZ2.out X w1 hr1).mono ?_; rintro e wz ⟨he, hoz⟩; unfold shortP at he; subst he)
        | (go_at_call 137; refine (HC1.out X w0 h0).mono ?_; rintro e w1 ⟨rfl, hr1, ho1⟩))
      exact ⟨rfl, rfl, ((Only.of_ext hx0).trans ho1).trans hoz⟩
    · have HC2 := hid (fun (Y : Nat → Prop) (W : World) (hr : RdAt Y W g b1) => kplain_ok Y W g b1 b2 hr hs2)
      have HS2 := hid hs2
      clear hs2
      generalize hK2 : (plainS (some b1)).1 = K2 at HC2
      have HK2 := hid hK2
      clear hK2
      rcases hs3 : (plainS (some b2)).2 with _ | b3
      · have eF : F.2 = none := by rw [HF.out]; simp only [hdS, dataS, HS1.out, HS2.out, hs3, plainS_none, dataS_none, cntS_none, edsS_none, tkS_none]
        rw [eF]
        have HZ3 := hid (fun (Y : Nat → Prop) (W : World) (hr : RdAt Y W g b2) => kplain_no Y W g b2 hr hs3)
        clear eF hs3
        go_enter Try.func140, Try.ntmps140
        go_wp2_with (first
          | (go_at_call 137; refine (HZ3.out X w2 hr2).mono ?_; rintro e wz ⟨he, hoz⟩; unfold shortP at he; subst he)
          | (go_at_call 137; refine (HC2.out X w1 hr1).mono ?_; rintro e w2 ⟨rfl, hr2, ho2⟩)
          | (go_at_call 137; refine (HC1.out X w0 h0).mono ?_; rintro e w1 ⟨rfl, hr1, ho1⟩))
        exact ⟨rfl, rfl, (((Only.of_ext hx0).trans ho1).trans ho2).trans hoz⟩
      · have HC3 := hid (fun (Y : Nat → Prop) (W : World) (hr : RdAt Y W g b2) => kplain_ok Y W g b2 b3 hr hs3)
        have HS3 := hid hs3
        clear hs3
        generalize hK3 : (plainS (some b2)).1 = K3 at HC3
        have HK3 := hid hK3
        clear hK3
        rcases hs4 : (cntS 255 (some b3)).2 with _ | b4
        · have eF : F.2 = none := by rw [HF.out]; simp only [hdS, dataS, HS1.out, HS2.out, HS3.out, hs4, plainS_none, dataS_none, cntS_none, edsS_none, tkS_none]
          rw [eF]
          have HZ4 := hid (fun (Y : Nat → Prop) (W : World) (hr : RdAt Y W g b3) => kcount_no Y W g 255 b3 hr (by omega) hs4)
          clear eF hs4
          go_enter Try.func140, Try.ntmps140
          go_wp2_with (first
            | (go_at_call 139; refine (HZ4.out (fun k => X k ∨ k = w3.heap.size) _ hrA).mono ?_; rintro e wz ⟨he, hoz⟩; unfold shortP at he; subst he)
            | (go_at_call 137; refine (HC3.out X w2 hr2).mono ?_; rintro e w3 ⟨rfl, hr3, ho3⟩; have hbz := Blk.new w3 147 #[.int .i64 0, .int .i64 0, .int .i64 0, .slice none 0 0, .slice none 0 0]; have hxA := ext_alloc w3 (.cells #[.int .i64 K1, .int .i64 K2, .int .i64 K3, .slice none 0 0, .slice none 0 0] 147); have hbA := Blk.new w3 147 #[.int .i64 K1, .int .i64 K2, .int .i64 K3, .slice none 0 0, .slice none 0 0]; have hrA := hr3.one hxA hbA.lt hXg; have hgA : w3.heap.size ≠ g := fun e => by have := hr3.lt; omega)
            | (go_at_call 137; refine (HC2.out X w1 hr1).mono ?_; rintro e w2 ⟨rfl, hr2, ho2⟩)
            | (go_at_call 137; refine (HC1.out X w0 h0).mono ?_; rintro e w1 ⟨rfl, hr1, ho1⟩))
          exact ⟨rfl, rfl, (((((Only.of_ext hx0).trans ho1).trans ho2).trans ho3).then hxA).trans hoz⟩
        · have HC4 := hid (fun (Y : Nat → Prop) (W : World) (hr : RdAt Y W g b3) => kcount_ok Y W g 255 b3 b4 hr (by omega) hs4)
          have HS4 := hid hs4
          clear hs4
          have hK4b := cntS_le 255 (some b3)
          generalize hK4 : (cntS 255 (some b3)).1 = K4 at HC4 hK4b
          have HK4 := hid hK4
          clear hK4
          rcases hs5 : (tkS (cntS 255 (some b3)).1 (some b4)).2 with _ | b5
          · have eF : F.2 = none := by rw [HF.out]; simp only [hdS, dataS, HS1.out, HS2.out, HS3.out, HS4.out, hs5, plainS_none, dataS_none, cntS_none, edsS_none, tkS_none]
            rw [eF]
            have HZ5 := hid (fun (Y : Nat → Prop) (W : World) (hr : RdAt Y W g b4) => ktake_no Y W g (cntS 255 (some b3)).1 b4 hr hs5)
            rw [HK4.out] at HZ5
            clear eF hs5
            go_enter Try.func140, Try.ntmps140
            go_wp2_with (first
              | (go_at_call 136; refine (HZ5.out (fun k => X k ∨ k = w3.heap.size) w4 hr4).mono ?_; rintro e wz ⟨he, hoz⟩; unfold shortP at he; subst he)
              | (go_at_call 139; refine (HC4.out (fun k => X k ∨ k = w3.heap.size) _ hrA).mono ?_; rintro e w4 ⟨rfl, hr4, ho4⟩; have hb4 := hbA.grown ho4 (fun e => hgA (by injection e)))
              | (go_at_call 137; refine (HC3.out X w2 hr2).mono ?_; rintro e w3 ⟨rfl, hr3, ho3⟩; have hbz := Blk.new w3 147 #[.int .i64 0, .int .i64 0, .int .i64 0, .slice none 0 0, .slice none 0 0]; have hxA := ext_alloc w3 (.cells #[.int .i64 K1, .int .i64 K2, .int .i64 K3, .slice none 0 0, .slice none 0 0] 147); have hbA := Blk.new w3 147 #[.int .i64 K1, .int .i64 K2, .int .i64 K3, .slice none 0 0, .slice none 0 0]; have hrA := hr3.one hxA hbA.lt hXg; have hgA : w3.heap.size ≠ g := fun e => by have := hr3.lt; omega)
              | (go_at_call 137; refine (HC2.out X w1 hr1).mono ?_; rintro e w2 ⟨rfl, hr2, ho2⟩)
              | (go_at_call 137; refine (HC1.out X w0 h0).mono ?_; rintro e w1 ⟨rfl, hr1, ho1⟩))
            exact ⟨rfl, rfl, ((((((Only.of_ext hx0).trans ho1).trans ho2).trans ho3).then hxA).trans ho4).trans hoz⟩
          · have HC5 := hid (fun (Y : Nat → Prop) (W : World) (hr : RdAt Y W g b4) => ktake_ok Y W g (cntS 255 (some b3)).1 b4 b5 hr hs5)
            have HS5 := hid hs5
            clear hs5
            generalize hK5 : (tkS (cntS 255 (some b3)).1 (some b4)).1 = D5 at HC5
            rw [HK4.out] at hK5 HC5
            have HK5 := hid hK5
            clear hK5
            rcases hs6 : (cntS 255 (some b5)).2 with _ | b6
            · have eF : F.2 = none := by rw [HF.out]; simp only [hdS, dataS, HS1.out, HS2.out, HS3.out, HS4.out, HS5.out, hs6, plainS_none, dataS_none, cntS_none, edsS_none, tkS_none]
              rw [eF]
              have HZ6 := hid (fun (Y : Nat → Prop) (W : World) (hr : RdAt Y W g b5) => kcount_no Y W g 255 b5 hr (by omega) hs6)
              clear eF hs6
              go_enter Try.func140, Try.ntmps140
              go_wp2_with (first
                | (go_at_call 139; refine (HZ6.out (fun k => X k ∨ k = w3.heap.size) _ hr5').mono ?_; rintro e wz ⟨he, hoz⟩; unfold shortP at he; subst he)
                | (go_at_call 136; refine (HC5.out (fun k => X k ∨ k = w3.heap.size) w4 hr4).mono ?_; rintro e w5 ⟨u5, rfl, hu5, hr5, ho5⟩; have hb5 := hb4.grown ho5 (fun e => hgA (by injection e)); have f5 := hb5.frozen 3; have c5 : w5.cell? ⟨w3.heap.size, 3, none⟩ = some (.slice none 0 0) := hb5.cell 3; obtain ⟨A5, q5, rfl⟩ := hu5.shape; generalize hl5 : D5.length = l5 at hu5 ⊢; have HL5 := hid hl5; clear hl5; have hr5' := hr5.far (.inr rfl) (fun e => hgA e.symm) 3 (.slice A5 l5 q5))
                | (go_at_call 139; refine (HC4.out (fun k => X k ∨ k = w3.heap.size) _ hrA).mono ?_; rintro e w4 ⟨rfl, hr4, ho4⟩; have hb4 := hbA.grown ho4 (fun e => hgA (by injection e)))
                | (go_at_call 137; refine (HC3.out X w2 hr2).mono ?_; rintro e w3 ⟨rfl, hr3, ho3⟩; have hbz := Blk.new w3 147 #[.int .i64 0, .int .i64 0, .int .i64 0, .slice none 0 0, .slice none 0 0]; have hxA := ext_alloc w3 (.cells #[.int .i64 K1, .int .i64 K2, .int .i64 K3, .slice none 0 0, .slice none 0 0] 147); have hbA := Blk.new w3 147 #[.int .i64 K1, .int .i64 K2, .int .i64 K3, .slice none 0 0, .slice none 0 0]; have hrA := hr3.one hxA hbA.lt hXg; have hgA : w3.heap.size ≠ g := fun e => by have := hr3.lt; omega)
                | (go_at_call 137; refine (HC2.out X w1 hr1).mono ?_; rintro e w2 ⟨rfl, hr2, ho2⟩)
                | (go_at_call 137; refine (HC1.out X w0 h0).mono ?_; rintro e w1 ⟨rfl, hr1, ho1⟩))
              exact ⟨rfl, rfl, ((((((((Only.of_ext hx0).trans ho1).trans ho2).trans ho3).then hxA).trans ho4).trans ho5).farSet (by have := hx0.size; have := ho1.size; have := ho2.size; have := ho3.size; omega) 3 _).trans hoz⟩
            · have HC6 := hid (fun (Y : Nat → Prop) (W : World) (hr : RdAt Y W g b5) => kcount_ok Y W g 255 b5 b6 hr (by omega) hs6)
              have HS6 := hid hs6
              clear hs6
              have hK6b := cntS_le 255 (some b5)
              generalize hK6 : (cntS 255 (some b5)).1 = K6 at HC6 hK6b
              have HK6 := hid hK6
              clear hK6
              have HS5' := hid (by have := HS5.out; rwa [HK4.out] at this)
              have HFv := hid (show F = (⟨K1, K2, K3, D5, (edsS K6 [] (some b6)).1⟩, (edsS K6 [] (some b6)).2) from by
                rw [HF.out]
                simp only [hdS, dataS, HS1.out, HS2.out, HS3.out, HS4.out, HK4.out, HS5'.out, HS6.out, HK1.out, HK2.out, HK3.out, HK5.out, HK6.out])
              go_enter Try.func140, Try.ntmps140
              go_wp2_with (first
                | (go_at_call 139; refine (HC6.out (fun k => X k ∨ k = w3.heap.size) _ hr5').mono ?_; rintro e w6 ⟨rfl, hr6, ho6⟩)
                | (go_at_call 136; refine (HC5.out (fun k => X k ∨ k = w3.heap.size) w4 hr4).mono ?_; rintro e w5 ⟨u5, rfl, hu5, hr5, ho5⟩; have hb5 := hb4.grown ho5 (fun e => hgA (by injection e)); have f5 := hb5.frozen 3; have c5 : w5.cell? ⟨w3.heap.size, 3, none⟩ = some (.slice none 0 0) := hb5.cell 3; obtain ⟨A5, q5, rfl⟩ := hu5.shape; generalize hl5 : D5.length = l5 at hu5 ⊢; have HL5 := hid hl5; clear hl5; have hr5' := hr5.far (.inr rfl) (fun e => hgA e.symm) 3 (.slice A5 l5 q5))
                | (go_at_call 139; refine (HC4.out (fun k => X k ∨ k = w3.heap.size) _ hrA).mono ?_; rintro e w4 ⟨rfl, hr4, ho4⟩; have hb4 := hbA.grown ho4 (fun e => hgA (by injection e)))
                | (go_at_call 137; refine (HC3.out X w2 hr2).mono ?_; rintro e w3 ⟨rfl, hr3, ho3⟩; have hbz := Blk.new w3 147 #[.int .i64 0, .int .i64 0, .int .i64 0, .slice none 0 0, .slice none 0 0]; have hxA := ext_alloc w3 (.cells #[.int .i64 K1, .int .i64 K2, .int .i64 K3, .slice none 0 0, .slice none 0 0] 147); have hbA := Blk.new w3 147 #[.int .i64 K1, .int .i64 K2, .int .i64 K3, .slice none 0 0, .slice none 0 0]; have hrA := hr3.one hxA hbA.lt hXg; have hgA : w3.heap.size ≠ g := fun e => by have := hr3.lt; omega)
                | (go_at_call 137; refine (HC2.out X w1 hr1).mono ?_; rintro e w2 ⟨rfl, hr2, ho2⟩)
                | (go_at_call 137; refine (HC1.out X w0 h0).mono ?_; rintro e w1 ⟨rfl, hr1, ho1⟩))
              have hb5s := hb5.set_ 3 (.slice A5 l5 q5)
              simp only [List.setIfInBounds_toArray, List.set_cons_succ, List.set_cons_zero] at hb5s
              have hb6 := hb5s.grown ho6 (fun e => hgA (by injection e))
              have hX6 : ∀ (v : Value), v.ownBlock = none → RdAt (fun k => (X k ∨ k = w3.heap.size) ∨ v.ownBlock = some k) w6 g b6 := fun v hv => hr6.widen (Below.refl _ _) (fun k hk => hk.imp id fun e => by rw [hv] at e; cases e) (.inl (.inl hXg))
              have hO6 : Only g w w6 := ((((((((Only.of_ext hx0).trans ho1).trans ho2).trans ho3).then hxA).trans ho4).trans ho5).farSet (by have := hx0.size; have := ho1.size; have := ho2.size; have := ho3.size; omega) 3 (.slice A5 l5 q5)).trans ho6
              have hu6 : IsSlice repByte w6 (fun k => w4.heap.size ≤ k ∧ k < w5.heap.size) (.slice A5 l5 q5) D5 := hu5.keep fun k hk => ⟨hk, fun o => by
                have h5 : w4.heap.size ≤ k ∧ k < w5.heap.size := hk
                have hw4 := hb4.lt
                have hgl := hr4.lt
                exact (ho6.cell (by simp only [World.setCell, Array.size_modify]; omega) (by omega) o).trans (World.cell?_of_block (Below.heap_setCell w5 _ _ k (by show k ≠ w3.heap.size; omega)))⟩
              have hlt6 : w3.heap.size < w6.heap.size := hb6.lt
              have hz6 : Blk w6 w.heap.size 147 #[.int .i64 0, .int .i64 0, .int .i64 0, .slice none 0 0, .slice none 0 0] := (((((((hbr.grown ho1 (fun e => by injection e with e; omega)).grown ho2 (fun e => by injection e with e; omega)).grown ho3 (fun e => by injection e with e; omega)).ext hxA).grown ho4 (fun e => by injection e with e; omega)).grown ho5 (fun e => by injection e with e; omega)).far (p := ⟨w3.heap.size, 3, none⟩) (by show w.heap.size ≠ w3.heap.size; have := ho1.size; have := ho2.size; have := ho3.size; omega) _).grown ho6 (fun e => by injection e with e; omega)
              go_loopw [19] (fun i wr => ∃ (k : Nat) (bk : List UInt8) (es : List Ed) (v : Value), k ≤ K6 ∧ i = .int .i64 k ∧ Wall (edsS K6 [] (some b6) = edsS (K6 - k) es (some bk)) ∧ Wall (es.length = k) ∧ Blk wr w3.heap.size 147 #[.int .i64 K1, .int .i64 K2, .int .i64 K3, .slice A5 l5 q5, v] ∧ Own repEd 161 w6.heap.size wr v es ∧ RdAt (fun k => (X k ∨ k = w3.heap.size) ∨ v.ownBlock = some k) wr g bk ∧ Only g w wr ∧ w6.heap.size ≤ wr.heap.size ∧ IsSlice repByte wr (fun k => w4.heap.size ≤ k ∧ k < w5.heap.size) (.slice A5 l5 q5) D5 ∧ Blk wr w.heap.size 147 #[.int .i64 0, .int .i64 0, .int .i64 0, .slice none 0 0, .slice none 0 0]) (fun i _ => K6 - (intOf i).toNat)
              case atStart => exact ⟨0, b6, [], .slice none 0 0, Nat.zero_le _, rfl, hid rfl, hid rfl, hb6, own_nil _ _ _ _, hX6 _ rfl, hO6, Nat.le_refl _, hu6, hz6⟩
              case round =>
                obtain ⟨k, bk, es, v, hk, rfl, HE, HEL, hbk, hown, hrk, hOk, hszk, huk, hzk⟩ := hrel
                by_cases hlt : k < K6
                · have hsp : K6 - k = (K6 - k - 1) + 1 := by omega
                  have HE2 := hid (show F.2 = (edsS (K6 - k - 1) (es ++ [(edS (some bk)).1]) (edS (some bk)).2).2 from by rw [HFv.out]; show (edsS K6 [] (some b6)).2 = _; rw [HE.out, hsp]; rfl)
                  rcases ht1 : (plainS (some bk)).2 with _ | d1
                  · have eF := hid (show F.2 = none from by rw [HE2.out]; simp only [edS, ht1, plainS_none, cntS_none, edsS_none])
                    have HZ := hid (kplain_no _ wr g bk hrk ht1)
                    clear ht1
                    go_wp2_with (first
                      | (go_at_call 137; refine HZ.out.mono ?_; rintro e wz ⟨he, hoz⟩; unfold shortP at he; subst he))
                    exact ⟨rfl, by rw [eF.out]; exact ⟨rfl, hOk.trans hoz⟩⟩
                  · have HD1 := hid (kplain_ok _ wr g bk d1 hrk ht1)
                    have HT1 := hid ht1
                    clear ht1
                    generalize hP1 : (plainS (some bk)).1 = P1 at HD1
                    have HP1 := hid hP1
                    clear hP1
                    rcases ht2 : (plainS (some d1)).2 with _ | d2
                    · have eF := hid (show F.2 = none from by rw [HE2.out]; simp only [edS, HT1.out, ht2, plainS_none, cntS_none, edsS_none])
                      have HZ := hid (fun (W : World) (hr : RdAt (fun k => (X k ∨ k = w3.heap.size) ∨ v.ownBlock = some k) W g d1) => kplain_no _ W g d1 hr ht2)
                      clear ht2
                      go_wp2_with (first
                        | (go_at_call 137; refine (HZ.out _ hs1).mono ?_; rintro e wz ⟨he, hoz⟩; unfold shortP at he; subst he)
                        | (go_at_call 137; refine HD1.out.mono ?_; rintro e x1 ⟨rfl, hs1, hp1⟩))
                      exact ⟨rfl, by rw [eF.out]; exact ⟨rfl, (hOk.trans hp1).trans hoz⟩⟩
                    · have HD2 := hid (fun (W : World) (hr : RdAt (fun k => (X k ∨ k = w3.heap.size) ∨ v.ownBlock = some k) W g d1) => kplain_ok _ W g d1 d2 hr ht2)
                      have HT2 := hid ht2
                      clear ht2
                      generalize hP2 : (plainS (some d1)).1 = P2 at HD2
                      have HP2 := hid hP2
                      clear hP2
                      rcases ht3 : (cntS 255 (some d2)).2 with _ | d3
                      · have eF := hid (show F.2 = none from by rw [HE2.out]; simp only [edS, HT1.out, HT2.out, ht3, cntS_none, edsS_none])
                        have HZ := hid (fun (W : World) (hr : RdAt (fun k => (X k ∨ k = w3.heap.size) ∨ v.ownBlock = some k) W g d2) => kcount_no _ W g 255 d2 hr (by omega) ht3)
                        clear ht3
                        go_wp2_with (first
                          | (go_at_call 139; refine (HZ.out _ (hs2.ext (ext_alloc _ _))).mono ?_; rintro e wz ⟨he, hoz⟩; unfold shortP at he; subst he)
                          | (go_at_call 137; refine (HD2.out _ hs1).mono ?_; rintro e x2 ⟨rfl, hs2, hp2⟩)
                          | (go_at_call 137; refine HD1.out.mono ?_; rintro e x1 ⟨rfl, hs1, hp1⟩))
                        exact ⟨rfl, by rw [eF.out]; exact ⟨rfl, (((hOk.trans hp1).trans hp2).then (ext_alloc _ _)).trans hoz⟩⟩
                      · have HD3 := hid (fun (Y : Nat → Prop) (W : World) (hr : RdAt Y W g d2) => kcount_ok Y W g 255 d2 d3 hr (by omega) ht3)
                        have HT3 := hid ht3
                        clear ht3
                        have hP3b := cntS_le 255 (some d2)
                        generalize hP3 : (cntS 255 (some d2)).1 = P3 at HD3 hP3b
                        have HP3 := hid hP3
                        clear hP3
                        go_upto_region 7 with (first
                          | (go_at_call 139; refine (HD3.out _ _ (hs2.one (ext_alloc x2 (.cells #[.int .i64 P1, .int .i64 P2, .int .u8 0] 161)) (by simp) (.inl (.inl hXg)))).mono ?_; rintro e x3 ⟨rfl, hs3, hp3⟩; have hbe := (Blk.new x2 161 #[.int .i64 P1, .int .i64 P2, .int .u8 0]).grown hp3 (fun e => by injection e with e; have := hs2.lt; omega); have fe := hbe.frozen 2; have ce : x3.cell? ⟨x2.heap.size, 2, none⟩ = some (.int .u8 0) := hbe.cell 2)
                          | (go_at_call 137; refine (HD2.out _ hs1).mono ?_; rintro e x2 ⟨rfl, hs2, hp2⟩)
                          | (go_at_call 137; refine HD1.out.mono ?_; rintro e x1 ⟨rfl, hs1, hp1⟩))
                        have hgk : w3.heap.size ≠ g := hgA
                        have hX2lt := hs2.lt
                        have hszx1 := hp1.size
                        have hszx2 := hp2.size
                        have hgcx2 : w3.heap.size < x2.heap.size := by omega
                        have hb1' := (hbk.grown hp1 (fun e => hgk (by injection e))).grown hp2 (fun e => hgk (by injection e))
                        have hb3' := (((hb1'.ext (ext_alloc x2 (.cells #[.int .i64 P1, .int .i64 P2, .int .u8 0] 161))).grown hp3 (fun e => hgk (by injection e))).far (p := ⟨x2.heap.size, 2, none⟩) (by show w3.heap.size ≠ x2.heap.size; omega) (.int .u8 (P3 : Int)))
                        have hbe3 := hbe.set_ 2 (.int .u8 (P3 : Int))
                        simp only [List.setIfInBounds_toArray, List.set_cons_succ, List.set_cons_zero] at hbe3
                        have hg6 : g < w6.heap.size := hr6.lt
                        have hvg : v.ownBlock ≠ some g := fun e => by have := (hown.lt g e).1; have := hr6.lt; omega
                        have hve : v.ownBlock ≠ some x2.heap.size := fun e => by have := (hown.lt _ e).2; omega
                        have hown3 := ((((hown.only2 hp1 hg6).only2 hp2 hg6).ext (ext_alloc x2 (.cells #[.int .i64 P1, .int .i64 P2, .int .u8 0] 161))).only2 hp3 hg6).wput (g := x2.heap.size) (i := 2) (u := .int .u8 (P3 : Int)) flat_ed hve
                        have hs3' := hs3.far (.inr rfl) (fun e => by omega) 2 (.int .u8 (P3 : Int))
                        generalize hWW : x3.setCell ⟨x2.heap.size, 2, none⟩ (.int .u8 (P3 : Int)) = WW at hb3' hbe3 hown3 hs3' ⊢
                        obtain ⟨y0, y1, y2, y3, y4⟩ := chCells5 hb3'
                        have z0 : WW.cell? ⟨x2.heap.size, 0, none⟩ = some (.int .i64 P1) := hbe3.cell 0
                        have z1 : WW.cell? ⟨x2.heap.size, 1, none⟩ = some (.int .i64 P2) := hbe3.cell 1
                        have z2 : WW.cell? ⟨x2.heap.size, 2, none⟩ = some (.int .u8 (P3 : Int)) := hbe3.cell 2
                        obtain ⟨Av, cv, rfl, _⟩ := hown3.form
                        have hel : es.length ≤ 255 := by rw [HEL.out]; omega
                        have hWs : w6.heap.size ≤ WW.heap.size := by rw [← hWW]; have := hp3.size; simp only [World.setCell, Array.size_modify]; simp at this; omega
                        generalize hln : es.length = ln at *
                        have HLN := hid hln
                        clear hln
                        have hrd := hs3'.ext (ext_alloc WW (.cells #[.int .i64 P1, .int .i64 P2, .int .u8 (P3 : Int)] 161))
                        have hbl := hb3'.ext (ext_alloc WW (.cells #[.int .i64 P1, .int .i64 P2, .int .u8 (P3 : Int)] 161))
                        have hwlt := hb3'.lt
                        go_wp2_with (at_builtin; refine wpl_app1K (r := repEd) (base := w6.heap.size) (x := ⟨P1, P2, UInt8.ofNat P3⟩) (cs := #[.int .i64 P1, .int .i64 P2, .int .u8 (P3 : Int)]) _ _ rfl rfl Try.underlying145 info_edit (by decide) hown3 rfl rfl rfl (ed_holds (by omega)) (by have := HLN.out; omega) (by have := HLN.out; simp only [maxLen]; omega) hWs ?_; intro v9 w9 hown9 hg9 hv9; have hbk9 := hbl.grown hg9 (fun e => by have := (hown3.lt w3.heap.size e.symm).1; omega); have f9 := hbk9.frozen 4; have c9 : w9.cell? ⟨w3.heap.size, 4, none⟩ = some (.slice Av ln cv) := hbk9.cell 4; obtain ⟨A9, q9, rfl, _⟩ := hown9.form; rw [len_snoc, HLN.out] at hown9 hv9 ⊢)
                        have hgw3 : w.heap.size ≤ w3.heap.size := by have := hx0.size; have := ho1.size; have := ho2.size; have := ho3.size; omega
                        have hw6w : w.heap.size ≤ w6.heap.size := hO6.size
                        have hx3s := hp3.size
                        simp at hx3s
                        have hOW : Only g w WW := by rw [← hWW]; exact ((((hOk.trans hp1).trans hp2).then (ext_alloc _ _)).trans hp3).farSet (by omega) 2 _
                        have hO9 : Only g w w9 := (hOW.then (ext_alloc _ _)).grow2 hg9 (fun k e => by have := (hown3.lt k e).1; omega)
                        have h9gc : (Value.slice A9 (ln + 1) q9).ownBlock ≠ some w3.heap.size := fun e => by have := (hown9.lt _ e).1; omega
                        refine ⟨⟨k + 1, d3, es ++ [⟨P1, P2, UInt8.ofNat P3⟩], _, by omega, by go_num, hid ?_, hid (by rw [len_snoc, HLN.out, HEL.out]), hbk9.set_ 4 _, hown9.wput flat_ed h9gc, ?_, hO9.farSet hgw3 4 _, ?_, ?_, ?_⟩, ?_⟩
                        · rw [HE.out, hsp]
                          have e1 : (edS (some bk)).1 = ⟨P1, P2, UInt8.ofNat P3⟩ := by simp only [edS, HT1.out, HT2.out, HP1.out, HP2.out, HP3.out]
                          have e2 : (edS (some bk)).2 = some d3 := by simp only [edS, HT1.out, HT2.out, HT3.out]
                          show edsS (K6 - k - 1) (es ++ [(edS (some bk)).1]) (edS (some bk)).2 = _
                          rw [e1, e2, Nat.sub_sub]
                        · refine RdAt.far (gc := w3.heap.size) ?_ (.inl (.inr rfl)) (fun e => hgA e.symm) 4 _
                          exact hrd.grow hg9 hv9 (fun k e => ⟨.inl (.inr e), fun e2 => by have := (hown3.lt k e).1; omega⟩) (fun k e => (hown9.lt k e).2) (fun k hk => hk.elim (fun h => .inl (.inl (.inl h))) .inr) (.inl (.inl hXg))
                        · have := hg9.size; simp only [World.setCell, Array.size_modify]; simp at this; omega
                        · refine huk.keep fun k hk => ⟨hk, fun o => World.cell?_of_block ?_⟩
                          have hk1 : w4.heap.size ≤ k := hk.1
                          have hk2 : k < w5.heap.size := hk.2
                          have hl4 := hb4.lt
                          have hl4g := hr4.lt
                          have hl56 : w5.heap.size ≤ w6.heap.size := by have := ho6.size; simpa [World.setCell] using this
                          have hkx1 := hp1.size
                          have hkx2 := hp2.size
                          rw [Below.heap_setCell w9 _ _ k (by show k ≠ w3.heap.size; omega), hg9.block k (by simp; omega) (fun e => by have := (hown3.lt k e.symm).1; omega), Below.heap_alloc WW _ k (by omega), ← hWW, Below.heap_setCell x3 _ _ k (by show k ≠ x2.heap.size; omega), hp3.block k (by simp; omega) (fun e => by injection e with e; omega), Below.heap_alloc x2 _ k (by omega), hp2.block k (by omega) (fun e => by injection e with e; omega), hp1.block k (by omega) (fun e => by injection e with e; omega)]
                        · have hz3 := (((((hzk.grown hp1 (fun e => by injection e with e; omega)).grown hp2 (fun e => by injection e with e; omega)).ext (ext_alloc x2 (.cells #[.int .i64 P1, .int .i64 P2, .int .u8 0] 161))).grown hp3 (fun e => by injection e with e; omega)).far (p := ⟨x2.heap.size, 2, none⟩) (by show w.heap.size ≠ x2.heap.size; omega) (.int .u8 (P3 : Int)))
                          rw [hWW] at hz3
                          exact ((hz3.ext (ext_alloc WW _)).grown hg9 (fun e => by have := (hown3.lt _ e.symm).1; omega)).far (p := ⟨w3.heap.size, 4, none⟩) (by show w.heap.size ≠ w3.heap.size; have := hx0.size; have := ho1.size; have := ho2.size; have := ho3.size; omega) _
                        · simp [intOf]
                          omega
                · have hkk : k = K6 := by omega
                  have hFF : F = (⟨K1, K2, K3, D5, es⟩, some bk) := by
                    rw [HFv.out, HE.out, hkk, Nat.sub_self]
                    rfl
                  have HFF := hid hFF
                  have hlt' : decide (k < K6) = false := by simp; omega
                  clear hFF hkk
                  have hgw3 : w.heap.size < w3.heap.size := by have := hx0.size; have := ho1.size; have := ho2.size; have := ho3.size; omega
                  have hl4 := hb4.lt
                  have hl4g := hr4.lt
                  have hw6w : w.heap.size ≤ w6.heap.size := hO6.size
                  have hw65 : w5.heap.size ≤ w6.heap.size := by have := ho6.size; simpa [World.setCell] using this
                  obtain ⟨Av, cv, rfl, _⟩ := hown.form
                  generalize es.length = ln at *
                  obtain ⟨KV, hKV⟩ : ∃ KV : Array Value, KV = #[.int .i64 K1, .int .i64 K2, .int .i64 K3, .slice A5 l5 q5, .slice Av ln cv] := ⟨_, rfl⟩
                  have hbV : Blk wr w3.heap.size 147 KV := hKV ▸ hbk
                  have hsV : KV.size = 5 := by rw [hKV]; rfl
                  have hinV : (Try.prog.info? 147).map (·.size) = some KV.size := by rw [hsV]; kernel_rfl
                  have honV : KV.all (·.oneCell') = true := by rw [hKV]; exact ch_one _ _ _ _ _ _ _ _ _
                  have HKV := hid hKV
                  have HsV := hid hsV
                  have HiV := hid hinV
                  have HoV := hid honV
                  clear hKV hsV hinV honV hbk
                  go_wp2_with (first
                    | (refine wpl_loadRow _ rfl rfl rfl hbV Try.underlying147 rfl HiV.out ?_)
                    | (refine wpl_row (g := w.heap.size) (cs := KV) _ _ rfl rfl rfl rfl hzk HiV.out HsV.out.symm HoV.out ?_; intro w9 hb9 ho9))
                  refine bodyPost_ret (results_cell_row rfl _ _ w.heap.size _ _ (0, 0) _ rfl hb9 Try.underlying147 rfl HiV.out) rfl ?_
                  rw [HFF.out]
                  refine ⟨_, rfl, ⟨KV, rfl, ?_⟩, ?_, ?_⟩
                  · rw [HKV.out]
                    exact ⟨_, _, rfl, huk.keep fun b hb => ⟨⟨by have h1 : w4.heap.size ≤ b := hb.1; omega, by have h2 : b < w5.heap.size := hb.2; have := ho9.size; omega⟩, fun o => ho9.cell (by have h2 : b < w5.heap.size := hb.2; omega) (by have h1 : w4.heap.size ≤ b := hb.1; omega) o⟩,
                      (hown.only2 ho9 (by omega)).own.keep fun b hb => ⟨⟨by have h1 : w6.heap.size ≤ b := hb.1; omega, hb.2⟩, fun _ => rfl⟩⟩
                  · exact (hrk.narrow (fun k hk => .inl (.inl hk)) hXg).zero hzk zeroCh_nb ho9 (by omega)
                  · exact hOk.grow2 ho9 (fun k e => by injection e with e; omega)
end
end Go.Proofs.Ytjchobncmogcpaa
