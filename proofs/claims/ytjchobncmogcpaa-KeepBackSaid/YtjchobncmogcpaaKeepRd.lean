/- The walks of the readers' small steps, on both sides. -/
import Derived.Test.YtjchobncmogcpaaKeepS
import Derived.Test.YtjchobncmogcpaaCrcR
import Derived.WalkLawsBesides
namespace Go.Proofs.Ytjchobncmogcpaa
open Go.RowKit

/-- What a reader gives up by. -/
def shortP : Ending := .panicked [{ v := .iface 214 (.agg #[]), recovered := false }]
def RdAt (X : Nat → Prop) (w : World) (g : Nat) (b : List UInt8) : Prop := ∃ v, Blk w g 164 #[v] ∧ IsSlice repByte w (outOf X w) v b ∧ b.length ≤ 1000000 ∧ X g ∧ ∀ k, X k → k < w.heap.size
theorem RdAt.lt {X : Nat → Prop} {w : World} {g : Nat} {b : List UInt8} (h : RdAt X w g b) : g < w.heap.size := by obtain ⟨v, h1, _⟩ := h; exact h1.lt
theorem RdAt.ext {X : Nat → Prop} {w w' : World} {g : Nat} {b : List UInt8} (h : RdAt X w g b) (he : Ext w w') : RdAt X w' g b := by
  obtain ⟨v, h1, h2, h3, h4, h5⟩ := h
  exact ⟨v, h1.ext he, h2.outExt he, h3, h4, fun k hk => Nat.lt_of_lt_of_le (h5 k hk) he.size⟩
def RdR (X : Nat → Prop) (w : World) (g : Nat) (s : St) : Prop := ∃ v ok c, Blk w g 168 #[v, .bool ok] ∧ IsSlice repByte w (outOf X w) v c ∧ c.length ≤ 1000000 ∧ X g ∧ (∀ k, X k → k < w.heap.size) ∧ ((s = none ∧ ok = false) ∨ (s = some c ∧ ok = true))
theorem RdR.lt {X : Nat → Prop} {w : World} {g : Nat} {s : St} (h : RdR X w g s) : g < w.heap.size := by obtain ⟨v, ok, c, h1, _⟩ := h; exact h1.lt
theorem RdR.ext {X : Nat → Prop} {w w' : World} {g : Nat} {s : St} (h : RdR X w g s) (he : Ext w w') : RdR X w' g s := by
  obtain ⟨v, ok, c, h1, h2, h3, h4, h5, h6⟩ := h
  exact ⟨v, ok, c, h1.ext he, h2.outExt he, h3, h4, fun k hk => Nat.lt_of_lt_of_le (h5 k hk) he.size, h6⟩
set_option maxRecDepth 100000
section
set_option maxHeartbeats 1000000 in
theorem ktake_ok (X : Nat → Prop) (w : World) (g n : Nat) (b b' : List UInt8) (h : RdAt X w g b) (hs : (tkS n (some b)).2 = some b') :
    Calls Try.prog 136 #[.pointer (some ⟨g, 0, none⟩), .int .i64 (n : Int)] w fun e w' => ∃ u, e = .returned u ∧ IsSlice repByte w' (fresh w w') u (tkS n (some b)).1 ∧ RdAt X w' g b' ∧ Only g w w' := by
  obtain ⟨hn, rfl, h1⟩ := tkS_ok hs
  rw [h1]
  obtain ⟨v, hb, hsl, hl, hgX, hX⟩ := h
  have HC := hid (cut_any v b n w hsl.outAll (by omega) hn)
  have hc0 : w.cell? ⟨g, 0, none⟩ = some v := hb.cell 0
  obtain ⟨A, c, rfl⟩ := hsl.shape
  have HL := hid hl
  clear hs h1 hsl hl
  generalize hLb : b.length = L at *
  have HLb := hid hLb
  clear hLb
  go_enter Try.func136, Try.ntmps136
  go_wp2_with (first
    | (go_at_call 134; refine HC.out.mono ?_; rintro e w2 ⟨u1, u2, rfl, hu1, hu2, hx2⟩; have hb2 := hb.ext hx2; have f2 := hb2.frozen 0; have e2 := hb2.cell 0; obtain ⟨A1, c1, rfl⟩ := hu1.shape; obtain ⟨A2, c2, rfl⟩ := hu2.shape; generalize hd2 : (b.drop n).length = D at hu2 ⊢; have HD2 := hid hd2; clear hd2; generalize (b.take n).length = T1 at hu1 ⊢))
  go_ret
  have ho : Only g w2 (w2.setCell ⟨g, 0, none⟩ (.slice A2 D c2)) := (Only.refl _ _).set_ _ _
  refine ⟨_, rfl, ?_, ⟨_, hb2.set_ 0 _, (hu2.outNew hX).outOnly ho hgX, ?_, hgX, fun k hk => Nat.lt_of_lt_of_le (hX k hk) (Nat.le_trans hx2.size ho.size)⟩, (Only.of_ext hx2).trans ho⟩
  · exact hu1.keep fun k hk => ⟨⟨hk.1, Nat.lt_of_lt_of_le hk.2 ho.size⟩, fun o => ho.cell hk.2 (fun e => by have := hk.1; have := hb.lt; omega) o⟩
  · rw [List.length_drop, HLb.out]; have := HL.out; omega
theorem ktake_no (X : Nat → Prop) (w : World) (g n : Nat) (b : List UInt8) (h : RdAt X w g b) (hs : (tkS n (some b)).2 = none) :
    Calls Try.prog 136 #[.pointer (some ⟨g, 0, none⟩), .int .i64 (n : Int)] w fun e w' => e = shortP ∧ Only g w w' := by
  have hn := tkS_no hs
  obtain ⟨v, hb, hsl, hl, hgX, hX⟩ := h
  have HC := hid (cutNo_any v b (n : Int) w hsl.outAll (by omega))
  have hc0 : w.cell? ⟨g, 0, none⟩ = some v := hb.cell 0
  obtain ⟨A, c, rfl⟩ := hsl.shape
  clear hs hsl
  generalize b.length = L at *
  go_enter Try.func136, Try.ntmps136
  go_wp2_with (first
    | (go_at_call 134; refine HC.out.mono ?_; rintro e w2 ⟨rfl, rfl⟩))
  exact ⟨rfl, rfl, Only.refl _ _⟩
theorem knumber_ok (X : Nat → Prop) (w : World) (g : Nat) (b b' : List UInt8) (h : RdAt X w g b) (hs : (wideS (some b)).2 = some b') :
    Calls Try.prog 138 #[.pointer (some ⟨g, 0, none⟩)] w fun e w' => e = .returned (.int .u64 ((wideS (some b)).1 : Nat)) ∧ RdAt X w' g b' ∧ Only g w w' := by
  have HT := hid (ktake_ok X w g 8 b b' h hs)
  have hl8 : (tkS 8 (some b)).1.length ≤ 8 := by rw [(tkS_ok hs).2.2, List.length_take]; omega
  have hp : numP (tkS 8 (some b)).1 = (wideS (some b)).1 := by unfold numP; rw [if_neg (by omega)]; rfl
  have HP := hid hp
  clear hp hs h hl8
  generalize (tkS 8 (some b)).1 = q at *
  generalize (wideS (some b)).1 = N at *
  have HN := hid (fun (W : World) (v : Value) (hv : IsSlice repByte W (all W) v q) => number_any v q W hv)
  go_enter Try.func138, Try.ntmps138
  go_wp2_with (first
    | (go_at_call 136; refine HT.out.mono ?_; rintro e w2 ⟨u, rfl, hu, hr, ho⟩)
    | (go_at_call 166; refine (HN.out _ _ hu.any).mono ?_; rintro e w3 ⟨rfl, rfl⟩; rw [HP.out]))
  go_ret
  exact ⟨rfl, hr, ho⟩
theorem knumber_no (X : Nat → Prop) (w : World) (g : Nat) (b : List UInt8) (h : RdAt X w g b) (hs : (wideS (some b)).2 = none) :
    Calls Try.prog 138 #[.pointer (some ⟨g, 0, none⟩)] w fun e w' => e = shortP ∧ Only g w w' := by
  have HT := hid (ktake_no X w g 8 b h hs)
  clear hs h
  unfold shortP at *
  go_enter Try.func138, Try.ntmps138
  go_wp2_with (first
    | (go_at_call 136; refine HT.out.mono ?_; rintro e w2 ⟨rfl, ho⟩))
  exact ⟨rfl, rfl, ho⟩
theorem kplain_ok (X : Nat → Prop) (w : World) (g : Nat) (b b' : List UInt8) (h : RdAt X w g b) (hs : (plainS (some b)).2 = some b') :
    Calls Try.prog 137 #[.pointer (some ⟨g, 0, none⟩)] w fun e w' => e = .returned (.int .i64 (plainS (some b)).1) ∧ RdAt X w' g b' ∧ Only g w w' := by
  have HT := hid (knumber_ok X w g b b' h hs)
  have hp : (plainS (some b)).1 = wrap64 ((wideS (some b)).1 : Nat) := rfl
  rw [hp]
  clear hp hs h
  generalize (wideS (some b)).1 = N at *
  go_enter Try.func137, Try.ntmps137
  go_wp2_with (first
    | (go_at_call 138; refine HT.out.mono ?_; rintro e w2 ⟨rfl, hr, ho⟩))
  go_ret
  exact ⟨rfl, hr, ho⟩
theorem kplain_no (X : Nat → Prop) (w : World) (g : Nat) (b : List UInt8) (h : RdAt X w g b) (hs : (plainS (some b)).2 = none) :
    Calls Try.prog 137 #[.pointer (some ⟨g, 0, none⟩)] w fun e w' => e = shortP ∧ Only g w w' := by
  have HT := hid (knumber_no X w g b h hs)
  clear hs h
  unfold shortP at *
  go_enter Try.func137, Try.ntmps137
  go_wp2_with (first
    | (go_at_call 138; refine HT.out.mono ?_; rintro e w2 ⟨rfl, ho⟩))
  exact ⟨rfl, rfl, ho⟩
theorem cntS_ok {m : Nat} {b b' : List UInt8} (h : (cntS m (some b)).2 = some b') : (wideS (some b)).2 = some b' ∧ (wideS (some b)).1 ≤ m ∧ (cntS m (some b)).1 = (wideS (some b)).1 := by
  unfold cntS at h ⊢
  by_cases hm : m < (wideS (some b)).1
  · rw [if_pos hm] at h; cases h
  · rw [if_neg hm] at h ⊢
    exact ⟨h, by omega, rfl⟩
theorem cntS_no {m : Nat} {b : List UInt8} (h : (cntS m (some b)).2 = none) : (wideS (some b)).2 = none ∨ ∃ b', (wideS (some b)).2 = some b' ∧ m < (wideS (some b)).1 := by
  unfold cntS at h
  by_cases hm : m < (wideS (some b)).1
  · cases hw : (wideS (some b)).2 with
    | none => exact .inl rfl
    | some b' => exact .inr ⟨b', rfl, hm⟩
  · rw [if_neg hm] at h; exact .inl h
set_option maxHeartbeats 1000000 in
theorem kcount_ok (X : Nat → Prop) (w : World) (g m : Nat) (b b' : List UInt8) (h : RdAt X w g b) (hm : m ≤ 1000) (hs : (cntS m (some b)).2 = some b') :
    Calls Try.prog 139 #[.pointer (some ⟨g, 0, none⟩), .int .i64 (m : Int)] w fun e w' => e = .returned (.int .i64 ((cntS m (some b)).1 : Nat)) ∧ RdAt X w' g b' ∧ Only g w w' := by
  obtain ⟨h1, h2, h3⟩ := cntS_ok hs
  have HT := hid (knumber_ok X w g b b' h h1)
  rw [h3]
  clear hs h h1 h3
  generalize (wideS (some b)).1 = N at *
  have t1 : decide ((m : Int) < (N : Int)) = false := by simp; omega
  have t2 : (m : Int) % 18446744073709551616 = m := by omega
  go_enter Try.func139, Try.ntmps139
  go_wp2_with (first
    | (go_at_call 138; refine HT.out.mono ?_; rintro e w2 ⟨rfl, hr, ho⟩))
  go_ret
  exact ⟨ret_int (by first | rfl | (unfold wrap64; omega)), hr, ho⟩
set_option maxHeartbeats 1000000 in
theorem kcount_no (X : Nat → Prop) (w : World) (g m : Nat) (b : List UInt8) (h : RdAt X w g b) (hm : m ≤ 1000) (hs : (cntS m (some b)).2 = none) :
    Calls Try.prog 139 #[.pointer (some ⟨g, 0, none⟩), .int .i64 (m : Int)] w fun e w' => e = shortP ∧ Only g w w' := by
  rcases cntS_no hs with h1 | ⟨b', h1, h2⟩
  · have HT := hid (knumber_no X w g b h h1)
    clear hs h h1
    unfold shortP at *
    go_enter Try.func139, Try.ntmps139
    go_wp2_with (first
      | (go_at_call 138; refine HT.out.mono ?_; rintro e w2 ⟨rfl, ho⟩))
    exact ⟨rfl, rfl, ho⟩
  · have HT := hid (knumber_ok X w g b b' h h1)
    clear hs h h1
    unfold shortP at *
    generalize (wideS (some b)).1 = N at *
    have t1 : decide ((m : Int) < (N : Int)) = true := by simp; omega
    have t2 : (m : Int) % 18446744073709551616 = m := by omega
    go_enter Try.func139, Try.ntmps139
    go_wp2_with (first
      | (go_at_call 138; refine HT.out.mono ?_; rintro e w2 ⟨rfl, hr, ho⟩))
    exact ⟨rfl, rfl, ho⟩
set_option maxHeartbeats 2000000 in
theorem rtake_any (X : Nat → Prop) (w : World) (g n : Nat) (s : St) (h : RdR X w g s) :
    Calls Try.prog 100 #[.pointer (some ⟨g, 0, none⟩), .int .i64 (n : Int)] w fun e w' => ∃ u, e = .returned u ∧ IsSlice repByte w' (fresh w w') u (tkS n s).1 ∧ RdR X w' g (tkS n s).2 ∧ Only g w w' := by
  obtain ⟨v, ok, c, hb, hsl, hl, hgX, hX, hst⟩ := h
  have hc0 : w.cell? ⟨g, 0, none⟩ = some v := hb.cell 0
  have hc1 : w.cell? ⟨g, 1, none⟩ = some (.bool ok) := hb.cell 1
  have hf1 := hb.frozen 1
  have hf0 := hb.frozen 0
  have hstop : RdR X (w.setCell ⟨g, 1, none⟩ (.bool false)) g none := ⟨v, false, c, hb.set_ 1 _, hsl.outOnly ((Only.refl g w).set_ 1 _) hgX, hl, hgX, fun k hk => Nat.lt_of_lt_of_le (hX k hk) (by simp [World.setCell]), .inl ⟨rfl, rfl⟩⟩
  obtain ⟨A, cc, rfl⟩ := hsl.shape
  have hn0 : decide ((n : Int) < 0) = false := by simp
  rcases hst with ⟨rfl, rfl⟩ | ⟨rfl, rfl⟩
  · clear hsl hb
    generalize c.length = L at *
    go_enter Try.func100, Try.ntmps100
    go_wp2
    go_ret
    exact ⟨_, rfl, isSlice_nil _ _ _, hstop, (Only.refl _ _).set_ _ _⟩
  · by_cases hn : n ≤ c.length
    · obtain ⟨A1, hr1, hs1⟩ := cut_to (P := Try.prog) Try.underlying33 info_byte hsl hn
      obtain ⟨A2, hr2, hs2⟩ := cut_from (P := Try.prog) Try.underlying33 info_byte hsl hn
      have hT1 : (tkS n (some c)).1 = c.take n := by rw [tkS_y hn]
      have hT2 : (tkS n (some c)).2 = some (c.drop n) := by rw [tkS_y hn]
      rw [hT1, hT2]
      have HC := hid (copyB_any _ _ w hs1.outAll (by rw [List.length_take]; omega))
      have hng : decide ((c.length : Int) < (n : Int)) = false := by simp; omega
      clear hT1 hT2 hstop
      generalize hL : c.length = L at *
      have HLL := hid hL
      clear hL
      go_enter Try.func100, Try.ntmps100
      go_wp2_with (first
        | (go_at_call 112; refine HC.out.mono ?_; rintro e w2 ⟨u1, rfl, hu1, hx2⟩; have hb2 := hb.ext hx2; have f2 := hb2.frozen 0; have e2 : w2.cell? ⟨g, 0, none⟩ = _ := hb2.cell 0))
      go_ret
      have hL2 : (c.drop n).length = L - n := by rw [List.length_drop, HLL.out]
      have ho : Only g w2 (w2.setCell ⟨g, 0, none⟩ (.slice A2 (L - n) (cc - n))) := (Only.refl _ _).set_ _ _
      refine ⟨u1, rfl, ?_, ⟨_, true, _, hb2.set_ 0 _, (hs2.outExt hx2).outOnly ho hgX, ?_, hgX, fun k hk => Nat.lt_of_lt_of_le (hX k hk) (Nat.le_trans hx2.size ho.size), .inr ⟨rfl, rfl⟩⟩, (Only.of_ext hx2).trans ho⟩
      · exact hu1.keep fun k hk => ⟨⟨hk.1, Nat.lt_of_lt_of_le hk.2 ho.size⟩, fun o => ho.cell hk.2 (fun e => by have := hk.1; have := hb.lt; omega) o⟩
      · rw [hL2]; omega
    · have hT1 : (tkS n (some c)).1 = [] := by rw [tkS_n hn]
      have hT2 : (tkS n (some c)).2 = none := by rw [tkS_n hn]
      rw [hT1, hT2]
      have hng : decide ((c.length : Int) < (n : Int)) = true := by simp; omega
      clear hT1 hT2 hsl hb
      generalize c.length = L at *
      go_enter Try.func100, Try.ntmps100
      go_wp2
      go_ret
      exact ⟨_, rfl, isSlice_nil _ _ _, hstop, (Only.refl _ _).set_ _ _⟩
end
end Go.Proofs.Ytjchobncmogcpaa
