/- The walk of the reference's Put of runs. -/
import Derived.Test.YtjchobncmogcpaaKeepP2
import Derived.Test.YtjchobncmogcpaaCrcR
namespace Go.Proofs.Ytjchobncmogcpaa
open Go.RowKit

/-- The row behind v may have turned, and what is new; v' is the row now. -/
structure Gr (v : Value) (w w' : World) (v' : Value) : Prop where
  os : w'.os = w.os
  tape : w'.tape = w.tape
  output : w'.output = w.output
  size : w.heap.size ≤ w'.heap.size
  block : ∀ k, k < w.heap.size → v.ownBlock ≠ some k → w'.heap[k]? = w.heap[k]?
  own : v'.ownBlock = v.ownBlock ∨ ∃ k, v'.ownBlock = some k ∧ w.heap.size ≤ k
section
variable {v v' v'' : Value} {w w' w'' : World}
theorem Gr.refl (v : Value) (w : World) : Gr v w w v := ⟨rfl, rfl, rfl, Nat.le_refl _, fun _ _ _ => rfl, .inl rfl⟩
theorem Gr.trans (h : Gr v w w' v') (k : Gr v' w' w'' v'') : Gr v w w'' v'' := by
  refine ⟨k.os.trans h.os, k.tape.trans h.tape, k.output.trans h.output, Nat.le_trans h.size k.size, fun i hi h2 => (k.block i (Nat.lt_of_lt_of_le hi h.size) ?_).trans (h.block i hi h2), ?_⟩
  · rcases h.own with e | ⟨j, e, hj⟩
    · rw [e]; exact h2
    · rw [e]; intro e2; injection e2 with e2; omega
  · rcases k.own with e | ⟨j, e, hj⟩
    · rw [e]; exact h.own
    · exact .inr ⟨j, e, Nat.le_trans h.size hj⟩
theorem Gr.then (h : Gr v w w' v') (k : Ext w' w'') : Gr v w w'' v' :=
  ⟨k.os.trans h.os, k.tape.trans h.tape, k.output.trans h.output, Nat.le_trans h.size k.size, fun i hi h2 => (k.block i (Nat.lt_of_lt_of_le hi h.size)).trans (h.block i hi h2), h.own⟩
theorem Gr.since (k : Ext w w') (h : Gr v w' w'' v') : Gr v w w'' v' := by
  refine ⟨h.os.trans k.os, h.tape.trans k.tape, h.output.trans k.output, Nat.le_trans k.size h.size, fun i hi h2 => (h.block i (Nat.lt_of_lt_of_le hi k.size) h2).trans (k.block i hi), ?_⟩
  rcases h.own with e | ⟨j, e, hj⟩
  · exact .inl e
  · exact .inr ⟨j, e, Nat.le_trans k.size hj⟩
theorem Gr.grow (h : w.grownBy w' v.ownBlock) (hv : v'.ownBlock = v.ownBlock ∨ v'.ownBlock = some w.heap.size) : Gr v w w' v' :=
  ⟨h.os, h.tape, h.output, h.size, fun k hk h2 => h.block k hk fun e => h2 e.symm, hv.imp id fun e => ⟨_, e, Nat.le_refl _⟩⟩
theorem Gr.blk {gl : Nat} {t : TypeId} {cs : Array Value} (h : Gr v w w' v') (hb : Blk w gl t cs) (h2 : v.ownBlock ≠ some gl) : Blk w' gl t cs := (h.block gl hb.lt h2).trans hb
theorem Gr.below {base : Nat} (h : Gr v w w' v') (hb : base ≤ w.heap.size) (hv : ∀ k, v.ownBlock = some k → base ≤ k) : Below base w w' :=
  ⟨h.os, h.tape, h.output, h.size, fun k hk => h.block k (by omega) fun e => by have := hv k e; omega⟩
theorem Gr.ne {gl : Nat} (h : Gr v w w' v') (hv : v.ownBlock ≠ some gl) (hg : gl < w.heap.size) : v'.ownBlock ≠ some gl := by
  rcases h.own with e | ⟨j, e, hj⟩
  · rw [e]; exact hv
  · rw [e]; intro e2; injection e2 with e2; omega
end
theorem lowSlice {α β : Type} {q : Rep α} {q' : Rep β} (hf : Flat q) {w W : World} {base e : Nat} {v u : Value} {xs : List α} {ys : List β} (h : IsSlice q w (all w) u xs) (hc : ∀ b, b < w.heap.size → ∀ o, W.cell? ⟨b, o, none⟩ = w.cell? ⟨b, o, none⟩) (hsz : base ≤ W.heap.size) (ho : Own q' e base W v ys) (hwb : w.heap.size ≤ base) : SliceIn q W (nb W v) (el base W v) u xs :=
  (h.keep (S' := nb W v) fun b hb => ⟨⟨Nat.lt_of_lt_of_le (Nat.lt_of_lt_of_le hb hwb) hsz, fun e => by have := (ho.lt _ e).1; have : b < w.heap.size := hb; omega⟩, fun o => hc b hb o⟩).flat hf
theorem chsB_ok : ∀ l : List Ch, l.all chOk = true → (chsB l).length ≤ 6415 * l.length
  | [], _ => by simp [chsB]
  | x :: l, h => by
    rw [List.all_cons, Bool.and_eq_true] at h
    have h2 := chsB_ok l h.2
    have h3 : x.data.length ≤ 255 ∧ x.edits.length ≤ 255 := by simpa [chOk] using h.1
    have e : chsB (x :: l) = chB x ++ chsB l := rfl
    have e2 : (chB x).length = 40 + x.data.length + 24 * x.edits.length := by
      simp only [chB, headC, List.length_append, nums8_len, edsB_len, List.length_cons, List.length_nil]
      omega
    rw [e, List.length_append, e2, List.length_cons]
    omega
theorem chCells {W : World} {g : Nat} {t : TypeId} {a b c u1 u2 : Value} (h : Blk W g t #[a, b, c, u1, u2]) : W.cell? ⟨g, 0, none⟩ = some a ∧ W.cell? ⟨g, 1, none⟩ = some b ∧ W.cell? ⟨g, 2, none⟩ = some c ∧ W.cell? ⟨g, 3, none⟩ = some u1 ∧ W.cell? ⟨g, 4, none⟩ = some u2 :=
  ⟨(h.cell 0).trans (by simp), (h.cell 1).trans (by simp), (h.cell 2).trans (by simp), (h.cell 3).trans (by simp), (h.cell 4).trans (by simp)⟩
theorem cfgCells {W : World} {g : Nat} {t : TypeId} {a b c d e f i : Value} (h : Blk W g t #[a, b, c, d, e, f, i]) : W.cell? ⟨g, 0, none⟩ = some a ∧ W.cell? ⟨g, 1, none⟩ = some b ∧ W.cell? ⟨g, 2, none⟩ = some c ∧ W.cell? ⟨g, 3, none⟩ = some d ∧ W.cell? ⟨g, 4, none⟩ = some e ∧ W.cell? ⟨g, 5, none⟩ = some f ∧ W.cell? ⟨g, 6, none⟩ = some i :=
  ⟨(h.cell 0).trans (by simp), (h.cell 1).trans (by simp), (h.cell 2).trans (by simp), (h.cell 3).trans (by simp), (h.cell 4).trans (by simp), (h.cell 5).trans (by simp), (h.cell 6).trans (by simp)⟩
theorem ints64_6 (a b c d e f : Int) : #[Value.int .i64 a, Value.int .i64 b, Value.int .i64 c, Value.int .i64 d, Value.int .i64 e, Value.int .i64 f] = ints64 [a, b, c, d, e, f] := rfl
set_option maxRecDepth 100000
section
theorem knumber_any (x : Int) (w : World) : Calls Try.prog 93 #[.int .i64 x] w fun e w' => ∃ u, e = .returned u ∧ IsSlice repByte w' (fresh w w') u (wide8 x) ∧ Ext w w' := by
  have hP := hid (fun W : World => putR_any (x % 18446744073709551616).toNat 8 W (by have := Int.emod_lt_of_pos x (show (0 : Int) < 18446744073709551616 by decide); omega) (by omega) (by omega))
  rw [wrap_nat] at hP
  go_enter Try.func93, Try.ntmps93
  go_wp2_with (go_at_call 94; refine (hP.out _).mono ?_; rintro e w2 ⟨u, rfl, hu, hx⟩)
  go_ret
  exact ⟨u, rfl, hu, hx⟩
theorem knumber8_any (x : Int) (w : World) : Calls Try.prog 93 #[.int .i64 x] w fun e w' => ∃ A c, e = .returned (.slice A 8 c) ∧ IsSlice repByte w' (fresh w w') (.slice A 8 c) (wide8 x) ∧ Ext w w' :=
  (knumber_any x w).mono fun e w' ⟨u, he, hu, hx⟩ => by
    obtain ⟨A, c, rfl⟩ := hu.shape
    rw [wide8_len] at he hu
    exact ⟨A, c, he, hu, hx⟩
theorem kput8_any (x : Int) (w : World) (hx : 0 ≤ x ∧ x < 18446744073709551616) : Calls Try.prog 94 #[.int .u64 x, .int .i64 8] w fun e w' => ∃ A c, e = .returned (.slice A 8 c) ∧ IsSlice repByte w' (fresh w w') (.slice A 8 c) (wide8 x) ∧ Ext w w' := by
  have hP := putR_any x.toNat 8 w (by omega) (by omega) (by omega)
  rw [Int.toNat_of_nonneg hx.1] at hP
  refine hP.mono fun e w' ⟨u, he, hu, hx2⟩ => ?_
  have hW : wide8 x = putB x.toNat 8 := by unfold wide8; rw [Int.emod_eq_of_lt hx.1 hx.2]
  rw [← hW] at hu
  obtain ⟨A, c, rfl⟩ := hu.shape
  rw [wide8_len] at he hu
  exact ⟨A, c, he, hu, hx2⟩


/-- What the reference's Put answers. -/
def KRes (r : KRun) (w w' : World) (u : Value) (k : Int) : Prop := (rightB r = true ∧ k = 0 ∧ IsSlice repByte w' (fresh w w') u (crcPut (bodyB r))) ∨ (rightB r = false ∧ k = 2 ∧ u = .slice none 0 0)
set_option maxHeartbeats 1000000 in
theorem kputRNo_any (w : World) (r : KRun) (u1 u2 : Value) (h1 : IsSlice (repInt .u64) w (all w) u1 r.draws) (h2 : IsSlice repCh w (all w) u2 r.chs) (hbad : 200 < r.draws.length ∨ 500 < r.chs.length) :
    Calls Try.prog 33 #[.agg (kVals r u1 u2)] w fun e w' => e = .returned (.tuple #[.slice none 0 0, .int .i64 2]) ∧ Ext w w' := by
  obtain ⟨A1, c1, rfl⟩ := h1.shape
  obtain ⟨A2, c2, rfl⟩ := h2.shape
  clear h1 h2
  unfold kVals at *
  generalize r.draws.length = dn at *
  generalize r.chs.length = cn at *
  by_cases hd : 200 < dn
  · have t1 : decide ((200 : Int) < (dn : Int)) = true := by simp; omega
    go_enter Try.func33, Try.ntmps33
    go_wp2
    go_ret2
    exact ⟨rfl, ext_alloc _ _⟩
  · have t1 : decide ((200 : Int) < (dn : Int)) = false := by simp; omega
    have t2 : decide ((500 : Int) < (cn : Int)) = true := by simp; omega
    go_enter Try.func33, Try.ntmps33
    go_wp2
    go_ret2
    exact ⟨rfl, ext_alloc _ _⟩
set_option maxHeartbeats 8000000 in
theorem kputR_any (w : World) (r : KRun) (u1 u2 : Value) (h1 : IsSlice (repInt .u64) w (all w) u1 r.draws) (h2 : IsSlice repCh w (all w) u2 r.chs) (hd2 : r.draws.length ≤ 200) (hc5 : r.chs.length ≤ 500) (hbeg : 0 ≤ r.beg ∧ r.beg < 18446744073709551616) (hlen : rightB r = true → (bodyB r).length ≤ 1000000) :
    Calls Try.prog 33 #[.agg (kVals r u1 u2)] w fun e w' => ∃ u k, e = .returned (.tuple #[u, .int .i64 k]) ∧ KRes r w w' u k ∧ Ext w w' := by
  obtain ⟨A1, dn, d1, rfl, _, _, hrow1⟩ := id h1
  obtain ⟨A2, cn, d2, rfl, _, _, hrow2⟩ := id h2
  have hdn := hrow1.1
  have hcn := hrow2.1
  have HL := hid hlen
  have HBeg := hid hbeg
  obtain ⟨KV, hKV⟩ : ∃ KV, KV = kVals r (.slice A1 dn d1) (.slice A2 cn d2) := ⟨_, rfl⟩
  obtain ⟨w1, hw1⟩ : ∃ w1, w.alloc (.cells (kVals r (.slice A1 dn d1) (.slice A2 cn d2)) 69) = w1 := ⟨_, rfl⟩
  have hx1 : Ext w w1 := hw1 ▸ ext_alloc _ _
  have hbx : Blk w1 w.heap.size 69 KV := by rw [← hw1, hKV]; exact Blk.new _ _ _
  have hsz1 : w1.heap.size = w.heap.size + 1 := by rw [← hw1]; simp
  have HK := hid (fun (W : World) (h : Blk W w.heap.size 69 KV) => kCells (h := hKV ▸ h))
  obtain ⟨b0, b1, b2, b3, b4, b5, b6, b7, b8⟩ := HK.out _ hbx
  clear hlen hKV hbeg
  unfold kVals at hw1 ⊢
  rw [hdn] at hd2
  rw [hcn] at hc5
  have HN := hid hdn
  have HC := hid hcn
  have t1 : decide ((200 : Int) < (dn : Int)) = false := by simp; omega
  have t2 : decide ((500 : Int) < (cn : Int)) = false := by simp; omega
  clear hdn hcn
  obtain ⟨w2, hw2⟩ : ∃ w2, w1.alloc (.cells #[.int .i64 r.eng, .int .i64 r.w, .int .i64 r.m, .int .i64 r.l, .int .i64 r.b, .int .i64 r.room, .int .u64 r.beg] 24) = w2 := ⟨_, rfl⟩
  have hx2 : Ext w1 w2 := hw2 ▸ ext_alloc _ _
  have hbc : Blk w2 w1.heap.size 24 #[.int .i64 r.eng, .int .i64 r.w, .int .i64 r.m, .int .i64 r.l, .int .i64 r.b, .int .i64 r.room, .int .u64 r.beg] := by rw [← hw2]; exact Blk.new _ _ _
  have hsz2 : w2.heap.size = w1.heap.size + 1 := by rw [← hw2]; simp
  obtain ⟨w3, hw3⟩ : ∃ w3, w2.alloc (.cells #[.int .u8 75, .int .u8 82] 5) = w3 := ⟨_, rfl⟩
  have hx3 : Ext w2 w3 := hw3 ▸ ext_alloc _ _
  obtain ⟨base, hbase⟩ : ∃ base, base = w2.heap.size := ⟨_, rfl⟩
  obtain ⟨v3, hv3⟩ : ∃ v3, v3 = Value.slice (some ⟨w2.heap.size, 0, none⟩) 2 2 := ⟨_, rfl⟩
  have ho3 : Own repByte 5 base w3 v3 magicB := by
    rw [hbase, ← hw3, hv3]
    exact own_lit (r := repByte) (xs := magicB) (cs := #[.int .u8 75, .int .u8 82]) (Nat.le_refl _) (by simp [magicB, maxLen]) rfl (fun j hj => by
      have : j = 0 ∨ j = 1 := by simp [magicB] at hj; omega
      rcases this with rfl | rfl <;> rfl)
  obtain ⟨w4, hw4⟩ : ∃ w4, w3.alloc (.cells #[.int .i64 r.eng, .int .i64 r.w, .int .i64 r.m, .int .i64 r.l, .int .i64 r.b, .int .i64 r.room] 3) = w4 := ⟨_, rfl⟩
  have hx4 : Ext w3 w4 := hw4 ▸ ext_alloc _ _
  obtain ⟨six, hsix⟩ : ∃ six, six = [r.eng, r.w, r.m, r.l, r.b, r.room] := ⟨_, rfl⟩
  have hbl : Blk w4 w3.heap.size 3 (ints64 six) := by rw [← hw4, hsix]; exact Blk.newE rfl (ints64_6 _ _ _ _ _ _)
  have hsixl : six.length = 6 := by rw [hsix]; rfl
  have hbc3 := hbc.ext hx3
  obtain ⟨e0, e1, e2, e3, e4, e5, e6⟩ := cfgCells hbc
  obtain ⟨f0, f1, f2, f3, f4, f5, f6⟩ := cfgCells hbc3
  have hown3 : v3.ownBlock ≠ some w3.heap.size := fun e => by have := (ho3.lt _ e).2; omega
  have ho4 := ho3.ext hx4
  have hbase4 : base ≤ w4.heap.size := by have := hx3.size; have := hx4.size; omega
  have hxb : w.heap.size < base := by have := hx2.size; omega
  have hxc : w1.heap.size < base := by omega
  have HSix := hid hsix
  have HSL := hid hsixl
  have HV3 := hid hv3
  have hx14 : Ext w1 w4 := Ext.trans hx2 (Ext.trans hx3 hx4)
  have HBX := hid (hbx.ext hx14)
  have HBC := hid (hbc.ext (Ext.trans hx3 hx4))
  have HBR := hid (fun (W : World) (hB : Below base w4 W) => HK.out W (HBX.out.below hB hxb))
  have HCR := hid (fun (W : World) (hB : Below base w4 W) => cfgCells (HBC.out.below hB hxc))
  have HSZ := hid (And.intro hsz1 (And.intro hsz2 hbase))
  have hNUM := hid knumber8_any
  clear hsix hsixl hsz2 hbase hbx hbc hbc3 ho3 hsz1 h1 h2
  clear hv3
  go_enter Try.func33, Try.ntmps33
  go_wp2_with fail
  rw [show (Value.slice (some ⟨w2.heap.size, 0, none⟩) 2 2) = v3 from HV3.out.symm]
  go_loopw [5, 7] (fun bv i wr => ∃ k : Nat, k ≤ 6 ∧ i = .int .i64 k ∧ Own repByte 5 base wr bv (magicB ++ nums8 (six.take k)) ∧ Gr v3 w4 wr bv) (fun _ i _ => 6 - (intOf i).toNat)
  case atStart => exact ⟨0, Nat.zero_le _, rfl, by simpa [nums8] using ho4, Gr.refl _ _⟩
  case round =>
    obtain ⟨k, hk, rfl, ho, hgr⟩ := hrel
    by_cases hlt : k < 6
    · obtain ⟨x, hx⟩ : ∃ x, six[k]? = some x := ⟨_, List.getElem?_eq_getElem (by rw [HSL.out]; exact hlt)⟩
      have hcx : wr.cell? ⟨w3.heap.size, k, none⟩ = some (.int .i64 x) := ((hgr.blk hbl hown3).cell k).trans (ints64_at hx)
      have HT := hid (show nums8 (six.take (k + 1)) = nums8 (six.take k) ++ wide8 x by rw [take_succ_of hx, nums8_snoc])
      have hQ : (magicB ++ nums8 (six.take k)).length ≤ 1000 := by rw [List.length_append, nums8_len, List.length_take]; simp [magicB]; omega
      generalize hpb : magicB ++ nums8 (six.take k) = pb at *
      have HPB := hid hpb
      clear hpb hx
      obtain ⟨A0, c0, rfl, _⟩ := ho.form
      generalize hplg : pb.length = pl at *
      have HPL := hid hplg
      clear hplg
      have hszr : base ≤ wr.heap.size := Nat.le_trans hbase4 hgr.size
      go_wp2_with (first
        | (go_at_call 93; refine (hNUM.out x _).mono ?_; rintro e wn1 ⟨An1, cn1, rfl, hun1, hxn1⟩; have huS1 := newN flat_byte hun1 ho.lt hszr; have ownN1 := ho.ext hxn1)
        | (at_builtin; refine wpl_app (r := repByte) (base := base) _ _ rfl rfl Try.underlying33 info_byte (by decide) ownN1 huS1 rfl rfl (by have := HPL.out; rw [wide8_len]; omega) (by have := HPL.out; rw [wide8_len]; simp only [maxLen]; omega) (Nat.le_trans hszr hxn1.size) ?_; intro v1' w1' hown1' hg1' hv1'; obtain ⟨Av1, cv1, rfl, _⟩ := hown1'.form; rw [List.length_append, HPL.out, wide8_len] at hown1' hv1' ⊢; have hgr1' := Gr.since hxn1 (Gr.grow hg1' hv1')))
      go_roundw
      case rel => exact ⟨k + 1, by omega, by go_num, by rw [HT.out, ← List.append_assoc, HPB.out]; exact hown1', hgr.trans hgr1'⟩
      case measure => simp [intOf]; omega
    · obtain rfl : k = 6 := by omega
      rw [List.take_of_length_le (by rw [HSL.out]; exact Nat.le_refl _)] at ho
      have hl4 : ∀ k, v3.ownBlock = some k → base ≤ k := fun k e => (ho4.lt k e).1
      have hB := hgr.below hbase4 hl4
      obtain ⟨q0, q1, q2, q3, q4, q5, q6⟩ := HCR.out _ hB
      obtain ⟨A0, c0, rfl, _⟩ := ho.form
      generalize hp1 : magicB ++ nums8 six = p1 at *
      have hl1 : p1.length = 50 := by rw [← hp1, List.length_append, nums8_len, HSL.out]; rfl
      have HP1 := hid hp1
      have HL1 := hid hl1
      rw [hl1] at ho ⊢
      clear hp1 hl1 hgr hbl hown3 ho4 hl4 e0 e1 e2 e3 e4 e5 e6 f0 f1 f2 f3 f4 f5 f6 b0 b1 b2 b3 b4 b5 b6 b7 b8 t1 t2 hw1 hw2 hw3 hw4
      have hszr : base ≤ wr.heap.size := Nat.le_trans hbase4 hB.size
      go_upto_region 11 with (first
        | (go_at_call 94; refine (kput8_any r.beg _ HBeg.out).mono ?_; rintro e wn2 ⟨An2, cn2, rfl, hun2, hxn2⟩; have huS2 := newN flat_byte hun2 ho.lt hszr; have ownN2 := ho.ext hxn2)
        | (at_builtin; refine wpl_app (r := repByte) (base := base) _ _ rfl rfl Try.underlying33 info_byte (by decide) ownN2 huS2 rfl rfl (by have := HL1.out; rw [wide8_len]; omega) (by have := HL1.out; rw [wide8_len]; simp only [maxLen]; omega) (Nat.le_trans hszr hxn2.size) ?_; intro v2' w2' hown2' hg2' hv2'; obtain ⟨Av2, cv2, rfl, _⟩ := hown2'.form; rw [List.length_append, HL1.out, wide8_len] at hown2' hv2' ⊢; have hgr2' := Gr.since hxn2 (Gr.grow hg2' hv2'); have hB2 := Below.trans hB (hgr2'.below hszr (fun k e => (ho.lt k e).1)); obtain ⟨g0, g1, g2, g3, g4, g5, g6, g7, g8⟩ := HBR.out _ hB2))
      generalize hp2 : p1 ++ wide8 r.beg = p2 at *
      have hl2 : p2.length = 58 := by rw [← hp2, List.length_append, wide8_len, HL1.out]
      have HP2 := hid hp2
      have HL2 := hid hl2
      clear hp2 hl2
      have hsz2 : base ≤ w2'.heap.size := Nat.le_trans hbase4 hB2.size
      go_wp2_with (first
        | (go_at_call 93; refine (hNUM.out (dn : Int) _).mono ?_; rintro e wn3 ⟨An3, cn3, rfl, hun3, hxn3⟩; have huS3 := newN flat_byte hun3 hown2'.lt hsz2; have ownN3 := hown2'.ext hxn3)
        | (at_builtin; refine wpl_app (r := repByte) (base := base) _ _ rfl rfl Try.underlying33 info_byte (by decide) ownN3 huS3 rfl rfl (by have := HL2.out; rw [wide8_len]; omega) (by have := HL2.out; rw [wide8_len]; simp only [maxLen]; omega) (Nat.le_trans hsz2 hxn3.size) ?_; intro v3' w3' hown3' hg3' hv3'; obtain ⟨Av3, cv3, rfl, _⟩ := hown3'.form; rw [List.length_append, HL2.out, wide8_len] at hown3' hv3' ⊢; have hgr3' := Gr.since hxn3 (Gr.grow hg3' hv3'); have hB3 := Below.trans hB2 (hgr3'.below hsz2 (fun k e => (hown2'.lt k e).1))))
      generalize hp3 : p2 ++ wide8 (dn : Int) = p3 at *
      have hl3 : p3.length = 66 := by rw [← hp3, List.length_append, wide8_len, HL2.out]
      have HP3 := hid hp3
      have HL3 := hid hl3
      have hown3s := hown3'
      clear hp3 hl3
      go_loopw [5, 8] (fun bv i wr => ∃ k : Nat, k ≤ dn ∧ i = .int .i64 k ∧ Own repByte 5 base wr bv (p3 ++ nums8 (r.draws.take k)) ∧ Below base w4 wr) (fun _ i _ => dn - (intOf i).toNat)
      case atStart => exact ⟨0, Nat.zero_le _, rfl, by simpa [nums8] using hown3', hB3⟩
      case round =>
        obtain ⟨k, hk, rfl, ho, hBk⟩ := hrel
        obtain ⟨g0, g1, g2, g3, g4, g5, g6, g7, g8⟩ := HBR.out _ hBk
        have hszk : base ≤ wr.heap.size := Nat.le_trans hbase4 hBk.size
        by_cases hlt : k < dn
        · obtain ⟨A0, c0, rfl, _⟩ := ho.form
          obtain ⟨b, off, x, rfl, hbl, hx, hcx, hwf⟩ := hrow1.int hlt
          have hxr := hid (wrapU_id hwf)
          have hcx' : wr.cell? ⟨b, off + k, none⟩ = some (.int .u64 x) := (World.cell?_of_block (hBk.block b (Nat.lt_trans hbl hxb))).trans ((Ext.cell (Ext.trans hx1 hx14) hbl _).trans hcx)
          have HT := hid (show nums8 (r.draws.take (k + 1)) = nums8 (r.draws.take k) ++ wide8 x by rw [take_succ_of hx, nums8_snoc])
          have hQ : (p3 ++ nums8 (r.draws.take k)).length ≤ 2000 := by rw [List.length_append, nums8_len, List.length_take, HL3.out]; omega
          generalize hpb : p3 ++ nums8 (r.draws.take k) = pb at *
          have HPB := hid hpb
          clear hpb hx hwf
          generalize hplg : pb.length = pl at *
          have HPL := hid hplg
          clear hplg
          go_wp2_with (first
            | (go_at_call 94; refine (kput8_any x _ hxr.out).mono ?_; rintro e wn4 ⟨An4, cn4, rfl, hun4, hxn4⟩; have huS4 := newN flat_byte hun4 ho.lt hszk; have ownN4 := ho.ext hxn4)
            | (at_builtin; refine wpl_app (r := repByte) (base := base) _ _ rfl rfl Try.underlying33 info_byte (by decide) ownN4 huS4 rfl rfl (by have := HPL.out; rw [wide8_len]; omega) (by have := HPL.out; rw [wide8_len]; simp only [maxLen]; omega) (Nat.le_trans hszk hxn4.size) ?_; intro v4' w4' hown4' hg4' hv4'; obtain ⟨Av4, cv4, rfl, _⟩ := hown4'.form; rw [List.length_append, HPL.out, wide8_len] at hown4' hv4' ⊢; have hgr4' := Gr.since hxn4 (Gr.grow hg4' hv4')))
          go_roundw
          case rel => exact ⟨k + 1, by omega, by go_num, by rw [HT.out, ← List.append_assoc, HPB.out]; exact hown4', Below.trans hBk (hgr4'.below hszk (fun j e => (ho.lt j e).1))⟩
          case measure => simp [intOf]; omega
        · obtain rfl : k = dn := by omega
          rw [List.take_of_length_le (by rw [HN.out]; exact Nat.le_refl _)] at ho
          obtain ⟨A0, c0, rfl, _⟩ := ho.form
          have hl4 : (p3 ++ nums8 r.draws).length = 66 + 8 * k := by rw [List.length_append, nums8_len, HL3.out, HN.out]
          rw [hl4] at ho ⊢
          generalize hp4 : p3 ++ nums8 r.draws = p4 at *
          have HP4 := hid hp4
          have HL4 := hid hl4
          clear hp4 hl4
          go_wp2_with (first
            | (go_at_call 93; refine (hNUM.out (cn : Int) _).mono ?_; rintro e wn5 ⟨An5, cn5, rfl, hun5, hxn5⟩; have huS5 := newN flat_byte hun5 ho.lt hszk; have ownN5 := ho.ext hxn5)
            | (at_builtin; refine wpl_app (r := repByte) (base := base) _ _ rfl rfl Try.underlying33 info_byte (by decide) ownN5 huS5 rfl rfl (by have := HL4.out; rw [wide8_len]; omega) (by have := HL4.out; rw [wide8_len]; simp only [maxLen]; omega) (Nat.le_trans hszk hxn5.size) ?_; intro v5' w5' hown5' hg5' hv5'; obtain ⟨Av5, cv5, rfl, _⟩ := hown5'.form; rw [List.length_append, HL4.out, wide8_len] at hown5' hv5' ⊢; have hgr5' := Gr.since hxn5 (Gr.grow hg5' hv5'); have hB5 := Below.trans hBk (hgr5'.below hszk (fun j e => (ho.lt j e).1)); obtain ⟨_, _, _, _, _, _, _, h7, h8⟩ := HBR.out _ hB5))
          generalize hp5 : p4 ++ wide8 (cn : Int) = p5 at *
          have hl5 : p5.length ≤ 2000 := by rw [← hp5, List.length_append, wide8_len, HL4.out]; omega
          have HP5 := hid hp5
          have HLp5 := hid hl5
          have HB5 := hid (show bodyB r = p5 ++ chsB r.chs by
            rw [← hp5, ← HP4.out, ← HP3.out, ← HP2.out, ← HP1.out]
            unfold bodyB headB
            rw [HN.out, HC.out, HSix.out]
            simp [nums8])
          clear hp5 hl5
          go_loopw [5, 9] (fun bv i wr => ∃ k : Nat, k ≤ cn ∧ i = .int .i64 k ∧ (r.chs.take k).all chOk = true ∧ Own repByte 5 base wr bv (p5 ++ chsB (r.chs.take k)) ∧ Below base w4 wr) (fun _ i _ => cn - (intOf i).toNat)
          case atStart => exact ⟨0, Nat.zero_le _, rfl, by simp, by simpa [chsB] using hown5', hB5⟩
          case round =>
            obtain ⟨k3, hk3, rfl, hall, ho, hB6⟩ := hrel
            have HALL := hid hall
            clear hall
            obtain ⟨_, _, _, _, _, _, _, r7, r8⟩ := HBR.out _ hB6
            have hszk : base ≤ wr.heap.size := Nat.le_trans hbase4 hB6.size
            by_cases hlt : k3 < cn
            · obtain ⟨A0, c0, rfl, _⟩ := ho.form
              obtain ⟨b, off, x, A', c, A'', c', rfl, hbl, hxg, hs1, hs2, q0, q1, q2, q3, q4⟩ := hrow2.ch hlt
              have hcell : ∀ (W : World), Below base w4 W → ∀ b, b < w.heap.size → ∀ o, W.cell? ⟨b, o, none⟩ = w.cell? ⟨b, o, none⟩ := fun W hB b hb o => (World.cell?_of_block (hB.block b (Nat.lt_trans hb hxb))).trans (Ext.cell (Ext.trans hx1 hx14) hb _)
              have z0 := (hcell _ hB6 b hbl _).trans q0
              have z1 := (hcell _ hB6 b hbl _).trans q1
              have z2 := (hcell _ hB6 b hbl _).trans q2
              have z3 := (hcell _ hB6 b hbl _).trans q3
              have z4 := (hcell _ hB6 b hbl _).trans q4
              have HX := hid hxg
              have hc : chOk x = (decide (x.data.length ≤ 255) && decide (x.edits.length ≤ 255)) := rfl
              have HT := hid (show chsB (r.chs.take (k3 + 1)) = chsB (r.chs.take k3) ++ chB x by rw [take_succ_of hxg]; simp [chsB])
              have hQ : (p5 ++ chsB (r.chs.take k3)).length ≤ 3300000 := by
                have h2 := chsB_ok (r.chs.take k3) HALL.out
                rw [List.length_take] at h2
                have h5 := HLp5.out
                rw [List.length_append]
                omega
              have HCH := hid (show chB x = nums8 [x.kind, x.who, x.at_, (x.data.length : Int)] ++ x.data ++ nums8 [(x.edits.length : Int)] ++ edsB x.edits from rfl)
              have HDat := hid (show x.data.length = x.data.length from rfl)
              generalize hpb : p5 ++ chsB (r.chs.take k3) = pb at *
              have HPB := hid hpb
              have HCell := hid hcell
              clear hpb hxg hcell HDat
              generalize hplg : pb.length = pl at *
              have HPL := hid hplg
              have HS1 := hid hs1
              have HS2 := hid hs2
              generalize hdl : x.data.length = dl at *
              generalize hel : x.edits.length = el' at *
              have HDL := hid hdl
              have HEL := hid hel
              obtain ⟨wX, hwX⟩ : ∃ wX, wr.alloc (.cells #[.int .i64 x.kind, .int .i64 x.who, .int .i64 x.at_, .slice A' dl c, .slice A'' el' c'] 147) = wX := ⟨_, rfl⟩
              have hxX : Ext wr wX := hwX ▸ ext_alloc _ _
              have hbX : Blk wX wr.heap.size 147 #[.int .i64 x.kind, .int .i64 x.who, .int .i64 x.at_, .slice A' dl c, .slice A'' el' c'] := by rw [← hwX]; exact Blk.new _ _ _
              have hBX : Below base w4 wX := Below.trans hB6 (hxX.mono hszk)
              have hoX := ho.ext hxX
              obtain ⟨x0, x1, x2, x3, x4⟩ := chCells hbX
              have hExt : Ext w wX := Below.trans (Ext.trans hx1 hx14) (hBX.mono (by omega))
              clear hplg hs1 hs2 hdl hel
              by_cases hd : 255 < dl
              · have t3 : decide ((255 : Int) < (dl : Int)) = true := by simp; omega
                have hno := hid (all_take_no HX.out (hc.trans (by simp; omega)))
                clear hc
                go_wp2
                go_ret2
                exact ⟨_, 2, rfl, .inr ⟨by unfold rightB; rw [hno.out]; simp, rfl, rfl⟩, hExt⟩
              · have t3 : decide ((255 : Int) < (dl : Int)) = false := by simp; omega
                by_cases he : 255 < el'
                · have t4 : decide ((255 : Int) < (el' : Int)) = true := by simp; omega
                  have hno := hid (all_take_no HX.out (hc.trans (by simp; omega)))
                  clear hc
                  go_wp2
                  go_ret2
                  exact ⟨_, 2, rfl, .inr ⟨by unfold rightB; rw [hno.out]; simp, rfl, rfl⟩, hExt⟩
                · have t4 : decide ((255 : Int) < (el' : Int)) = false := by simp; omega
                  have HCk := hid (hc.trans (by simp; omega) : chOk x = true)
                  have hnX : (Value.slice A0 pl c0).ownBlock ≠ some wr.heap.size := fun e => by have := (ho.lt _ e).2; omega
                  have hszX : base ≤ wX.heap.size := Nat.le_trans hszk hxX.size
                  have hGX := Gr.refl (Value.slice A0 pl c0) wX
                  clear hc
                  go_upto_region 23 with fail
                  go_upto_region 24 with (first
                    | (go_at_call 93; refine (hNUM.out x.kind _).mono ?_; rintro e wn6 ⟨An6, cn6, rfl, hun6, hxn6⟩; have huS6 := newN flat_byte hun6 hoX.lt hszX; have ownN6 := hoX.ext hxn6)
                    | (at_builtin; refine wpl_app (r := repByte) (base := base) _ _ rfl rfl Try.underlying33 info_byte (by decide) ownN6 huS6 rfl rfl (by have := HPL.out; rw [wide8_len]; omega) (by have := HPL.out; rw [wide8_len]; simp only [maxLen]; omega) (Nat.le_trans hszX hxn6.size) ?_; intro v6' w6' hown6' hg6' hv6'; obtain ⟨Av6, cv6, rfl, _⟩ := hown6'.form; rw [List.length_append, HPL.out, wide8_len] at hown6' hv6' ⊢; have hgr6' := Gr.since hxn6 (Gr.grow hg6' hv6'); have hG6 := hGX.trans hgr6'; have hB6a := Below.trans hBX (hG6.below hszX (fun j e => (hoX.lt j e).1)); obtain ⟨y60, y61, y62, y63, y64⟩ := chCells (hG6.blk hbX hnX)))
                  generalize hp6 : pb ++ wide8 x.kind = pp6 at *
                  have hl6 : pp6.length = pl + 8 := by rw [← hp6, List.length_append, HPL.out, wide8_len]
                  have HP6 := hid hp6
                  have HL6 := hid hl6
                  have hsz6 : base ≤ w6'.heap.size := Nat.le_trans hbase4 hB6a.size
                  clear hp6 hl6
                  go_upto_region 25 with (first
                    | (go_at_call 93; refine (hNUM.out x.who _).mono ?_; rintro e wn7 ⟨An7, cn7, rfl, hun7, hxn7⟩; have huS7 := newN flat_byte hun7 hown6'.lt hsz6; have ownN7 := hown6'.ext hxn7)
                    | (at_builtin; refine wpl_app (r := repByte) (base := base) _ _ rfl rfl Try.underlying33 info_byte (by decide) ownN7 huS7 rfl rfl (by have := HL6.out; rw [wide8_len]; omega) (by have := HL6.out; rw [wide8_len]; simp only [maxLen]; omega) (Nat.le_trans hsz6 hxn7.size) ?_; intro v7' w7' hown7' hg7' hv7'; obtain ⟨Av7, cv7, rfl, _⟩ := hown7'.form; rw [List.length_append, HL6.out, wide8_len] at hown7' hv7' ⊢; have hgr7' := Gr.since hxn7 (Gr.grow hg7' hv7'); have hG7 := hG6.trans hgr7'; have hB7a := Below.trans hBX (hG7.below hszX (fun j e => (hoX.lt j e).1)); obtain ⟨y70, y71, y72, y73, y74⟩ := chCells (hG7.blk hbX hnX)))
                  generalize hp7 : pp6 ++ wide8 x.who = pp7 at *
                  have hl7 : pp7.length = pl + 8 + 8 := by rw [← hp7, List.length_append, HL6.out, wide8_len]
                  have HP7 := hid hp7
                  have HL7 := hid hl7
                  have hsz7 : base ≤ w7'.heap.size := Nat.le_trans hbase4 hB7a.size
                  clear hp7 hl7
                  go_upto_region 26 with (first
                    | (go_at_call 93; refine (hNUM.out x.at_ _).mono ?_; rintro e wn8 ⟨An8, cn8, rfl, hun8, hxn8⟩; have huS8 := newN flat_byte hun8 hown7'.lt hsz7; have ownN8 := hown7'.ext hxn8)
                    | (at_builtin; refine wpl_app (r := repByte) (base := base) _ _ rfl rfl Try.underlying33 info_byte (by decide) ownN8 huS8 rfl rfl (by have := HL7.out; rw [wide8_len]; omega) (by have := HL7.out; rw [wide8_len]; simp only [maxLen]; omega) (Nat.le_trans hsz7 hxn8.size) ?_; intro v8' w8' hown8' hg8' hv8'; obtain ⟨Av8, cv8, rfl, _⟩ := hown8'.form; rw [List.length_append, HL7.out, wide8_len] at hown8' hv8' ⊢; have hgr8' := Gr.since hxn8 (Gr.grow hg8' hv8'); have hG8 := hG7.trans hgr8'; have hB8a := Below.trans hBX (hG8.below hszX (fun j e => (hoX.lt j e).1)); obtain ⟨y80, y81, y82, y83, y84⟩ := chCells (hG8.blk hbX hnX)))
                  generalize hp8 : pp7 ++ wide8 x.at_ = pp8 at *
                  have hl8 : pp8.length = pl + 8 + 8 + 8 := by rw [← hp8, List.length_append, HL7.out, wide8_len]
                  have HP8 := hid hp8
                  have HL8 := hid hl8
                  have hsz8 : base ≤ w8'.heap.size := Nat.le_trans hbase4 hB8a.size
                  clear hp8 hl8
                  go_upto_region 27 with (first
                    | (go_at_call 93; refine (hNUM.out (dl : Int) _).mono ?_; rintro e wn9 ⟨An9, cn9, rfl, hun9, hxn9⟩; have huS9 := newN flat_byte hun9 hown8'.lt hsz8; have ownN9 := hown8'.ext hxn9)
                    | (at_builtin; refine wpl_app (r := repByte) (base := base) _ _ rfl rfl Try.underlying33 info_byte (by decide) ownN9 huS9 rfl rfl (by have := HL8.out; rw [wide8_len]; omega) (by have := HL8.out; rw [wide8_len]; simp only [maxLen]; omega) (Nat.le_trans hsz8 hxn9.size) ?_; intro v9' w9' hown9' hg9' hv9'; obtain ⟨Av9, cv9, rfl, _⟩ := hown9'.form; rw [List.length_append, HL8.out, wide8_len] at hown9' hv9' ⊢; have hgr9' := Gr.since hxn9 (Gr.grow hg9' hv9'); have hG9 := hG8.trans hgr9'; have hB9a := Below.trans hBX (hG9.below hszX (fun j e => (hoX.lt j e).1)); obtain ⟨y90, y91, y92, y93, y94⟩ := chCells (hG9.blk hbX hnX)))
                  generalize hp9 : pp8 ++ wide8 (dl : Int) = pp9 at *
                  have hl9 : pp9.length = pl + 8 + 8 + 8 + 8 := by rw [← hp9, List.length_append, HL8.out, wide8_len]
                  have HP9 := hid hp9
                  have HL9 := hid hl9
                  have hsz9 : base ≤ w9'.heap.size := Nat.le_trans hbase4 hB9a.size
                  clear hp9 hl9
                  go_upto_region 28 with (first
                    | (at_builtin; refine wpl_app (r := repByte) (base := base) _ _ rfl rfl Try.underlying33 info_byte (by decide) hown9' (lowSlice flat_byte HS1.out (HCell.out _ hB9a) hsz9 hown9' (by omega)) rfl rfl (by have := HL9.out; have := HDL.out; omega) (by have := HL9.out; have := HDL.out; simp only [maxLen]; omega) hsz9 ?_; intro v10' w10' hown10' hg10' hv10'; obtain ⟨Av10, cv10, rfl, _⟩ := hown10'.form; rw [List.length_append, HL9.out, HDL.out] at hown10' hv10' ⊢; have hgr10' := Gr.grow hg10' hv10'; have hG10 := hG9.trans hgr10'; have hB10a := Below.trans hBX (hG10.below hszX (fun j e => (hoX.lt j e).1)); obtain ⟨y100, y101, y102, y103, y104⟩ := chCells (hG10.blk hbX hnX)))
                  generalize hp10 : pp9 ++ x.data = pp10 at *
                  have hl10 : pp10.length = pl + 8 + 8 + 8 + 8 + dl := by rw [← hp10, List.length_append, HL9.out, HDL.out]
                  have HP10 := hid hp10
                  have HL10 := hid hl10
                  have hsz10 : base ≤ w10'.heap.size := Nat.le_trans hbase4 hB10a.size
                  clear hp10 hl10
                  go_wp2_with (first
                    | (go_at_call 93; refine (hNUM.out (el' : Int) _).mono ?_; rintro e wn11 ⟨An11, cn11, rfl, hun11, hxn11⟩; have huS11 := newN flat_byte hun11 hown10'.lt hsz10; have ownN11 := hown10'.ext hxn11)
                    | (at_builtin; refine wpl_app (r := repByte) (base := base) _ _ rfl rfl Try.underlying33 info_byte (by decide) ownN11 huS11 rfl rfl (by have := HL10.out; rw [wide8_len]; omega) (by have := HL10.out; rw [wide8_len]; simp only [maxLen]; omega) (Nat.le_trans hsz10 hxn11.size) ?_; intro v11' w11' hown11' hg11' hv11'; obtain ⟨Av11, cv11, rfl, _⟩ := hown11'.form; rw [List.length_append, HL10.out, wide8_len] at hown11' hv11' ⊢; have hgr11' := Gr.since hxn11 (Gr.grow hg11' hv11'); have hG11 := hG10.trans hgr11'; have hB11a := Below.trans hBX (hG11.below hszX (fun j e => (hoX.lt j e).1)); obtain ⟨y110, y111, y112, y113, y114⟩ := chCells (hG11.blk hbX hnX)))
                  generalize hp11 : pp10 ++ wide8 (el' : Int) = pp11 at *
                  have hl11 : pp11.length = pl + 8 + 8 + 8 + 8 + dl + 8 := by rw [← hp11, List.length_append, HL10.out, wide8_len]
                  have HP11 := hid hp11
                  have HL11 := hid hl11
                  have hsz11 : base ≤ w11'.heap.size := Nat.le_trans hbase4 hB11a.size
                  clear hp11 hl11
                  have hbX11 := hG11.blk hbX hnX
                  have hnv11 := hG11.ne hnX hbX.lt
                  have HPP := hid (show chB x = chB x from rfl)
                  obtain ⟨_, _, _, hvE, _, _, hrowE⟩ := id HS2.out
                  injection hvE with e1 e2 e3
                  subst e1 e2 e3
                  have hBd11 := hB11a
                  go_loopw [5, 11] (fun bv i wq => ∃ j : Nat, j ≤ el' ∧ i = .int .i64 j ∧ Own repByte 5 base wq bv (pp11 ++ edsB (x.edits.take j)) ∧ Gr (.slice Av11 (pl + 8 + 8 + 8 + 8 + dl + 8) cv11) w11' wq bv) (fun _ i _ => el' - (intOf i).toNat)
                  case atStart => exact ⟨0, Nat.zero_le _, rfl, by simpa [edsB] using hown11', Gr.refl _ _⟩
                  case round =>
                    obtain ⟨j, hj, rfl, hoq, hGq⟩ := hrel
                    have hBq := Below.trans hB11a (hGq.below hsz11 (fun j e => (hown11'.lt j e).1))
                    have hszq : base ≤ wr.heap.size := Nat.le_trans hbase4 hBq.size
                    have hbq := hGq.blk hbX11 hnv11
                    obtain ⟨y0, y1, y2, y3, y4⟩ := chCells hbq
                    have hnq := hGq.ne hnv11 hbX11.lt
                    by_cases hlj : j < el'
                    · obtain ⟨be, oe, ed, rfl, hbe, hxe, s0, s1, s2⟩ := hrowE.ed hlj
                      have c0' := (HCell.out _ hBq be hbe _).trans s0
                      have c1' := (HCell.out _ hBq be hbe _).trans s1
                      have c2' := (HCell.out _ hBq be hbe _).trans s2
                      have HTE := hid (show edsB (x.edits.take (j + 1)) = edsB (x.edits.take j) ++ edB ed by rw [take_succ_of hxe, edsB_snoc])
                      obtain ⟨Aq, cq, rfl, _⟩ := hoq.form
                      have hQe : (pp11 ++ edsB (x.edits.take j)).length ≤ 3400000 := by rw [List.length_append, edsB_len, List.length_take, HL11.out]; omega
                      generalize hpe : pp11 ++ edsB (x.edits.take j) = pe at *
                      have HPE := hid hpe
                      clear hpe hxe
                      generalize hple : pe.length = ple at *
                      have HLE := hid hple
                      clear hple
                      go_upto_region 33 with (first
                        | (go_at_call 93; refine (hNUM.out ed.kind _).mono ?_; rintro e wn12 ⟨An12, cn12, rfl, hun12, hxn12⟩; have huS12 := newN flat_byte hun12 hoq.lt hszq; have ownN12 := hoq.ext hxn12)
                        | (at_builtin; refine wpl_app (r := repByte) (base := base) _ _ rfl rfl Try.underlying33 info_byte (by decide) ownN12 huS12 rfl rfl (by have := HLE.out; rw [wide8_len]; omega) (by have := HLE.out; rw [wide8_len]; simp only [maxLen]; omega) (Nat.le_trans hszq hxn12.size) ?_; intro v12' w12' hown12' hg12' hv12'; obtain ⟨Av12, cv12, rfl, _⟩ := hown12'.form; rw [List.length_append, HLE.out, wide8_len] at hown12' hv12' ⊢; have hgr12' := Gr.since hxn12 (Gr.grow hg12' hv12'); have hG12 := hgr12'; have hB12a := Below.trans hBq (hG12.below hszq (fun j e => (hoq.lt j e).1)); obtain ⟨y120, y121, y122, y123, y124⟩ := chCells (hG12.blk hbq hnq); have d120 := (HCell.out _ hB12a be hbe _).trans s0; have d121 := (HCell.out _ hB12a be hbe _).trans s1; have d122 := (HCell.out _ hB12a be hbe _).trans s2))
                      have HL12 := hid (show (pe ++ wide8 ed.kind).length = ple + 8 by rw [List.length_append, HLE.out, wide8_len])
                      have hsz12 : base ≤ w12'.heap.size := Nat.le_trans hbase4 hB12a.size
                      generalize hp12 : pe ++ wide8 ed.kind = pe12 at *
                      have HP12 := hid hp12
                      clear hp12
                      go_upto_region 34 with (first
                        | (go_at_call 93; refine (hNUM.out ed.at_ _).mono ?_; rintro e wn13 ⟨An13, cn13, rfl, hun13, hxn13⟩; have huS13 := newN flat_byte hun13 hown12'.lt hsz12; have ownN13 := hown12'.ext hxn13)
                        | (at_builtin; refine wpl_app (r := repByte) (base := base) _ _ rfl rfl Try.underlying33 info_byte (by decide) ownN13 huS13 rfl rfl (by have := HL12.out; rw [wide8_len]; omega) (by have := HL12.out; rw [wide8_len]; simp only [maxLen]; omega) (Nat.le_trans hsz12 hxn13.size) ?_; intro v13' w13' hown13' hg13' hv13'; obtain ⟨Av13, cv13, rfl, _⟩ := hown13'.form; rw [List.length_append, HL12.out, wide8_len] at hown13' hv13' ⊢; have hgr13' := Gr.since hxn13 (Gr.grow hg13' hv13'); have hG13 := (hG12.trans hgr13'); have hB13a := Below.trans hBq (hG13.below hszq (fun j e => (hoq.lt j e).1)); obtain ⟨y130, y131, y132, y133, y134⟩ := chCells (hG13.blk hbq hnq); have d130 := (HCell.out _ hB13a be hbe _).trans s0; have d131 := (HCell.out _ hB13a be hbe _).trans s1; have d132 := (HCell.out _ hB13a be hbe _).trans s2))
                      have HL13 := hid (show (pe12 ++ wide8 ed.at_).length = ple + 8 + 8 by rw [List.length_append, HL12.out, wide8_len])
                      have hsz13 : base ≤ w13'.heap.size := Nat.le_trans hbase4 hB13a.size
                      generalize hp13 : pe12 ++ wide8 ed.at_ = pe13 at *
                      have HP13 := hid hp13
                      clear hp13
                      go_wp2_with (first
                        | (go_at_call 93; refine (hNUM.out (wrap64 (ed.b.toNat : Int)) _).mono ?_; rintro e wn14 ⟨An14, cn14, rfl, hun14, hxn14⟩; have huS14 := newN flat_byte hun14 hown13'.lt hsz13; have ownN14 := hown13'.ext hxn14)
                        | (at_builtin; refine wpl_app (r := repByte) (base := base) _ _ rfl rfl Try.underlying33 info_byte (by decide) ownN14 huS14 rfl rfl (by have := HL13.out; rw [wide8_len]; omega) (by have := HL13.out; rw [wide8_len]; simp only [maxLen]; omega) (Nat.le_trans hsz13 hxn14.size) ?_; intro v14' w14' hown14' hg14' hv14'; obtain ⟨Av14, cv14, rfl, _⟩ := hown14'.form; rw [List.length_append, HL13.out, wide8_len] at hown14' hv14' ⊢; have hgr14' := Gr.since hxn14 (Gr.grow hg14' hv14'); have hG14 := (hG13.trans hgr14'); have hB14a := Below.trans hBq (hG14.below hszq (fun j e => (hoq.lt j e).1)); obtain ⟨y140, y141, y142, y143, y144⟩ := chCells (hG14.blk hbq hnq); have d140 := (HCell.out _ hB14a be hbe _).trans s0; have d141 := (HCell.out _ hB14a be hbe _).trans s1; have d142 := (HCell.out _ hB14a be hbe _).trans s2))
                      refine ⟨⟨j + 1, by omega, by go_num, ?_, hGq.trans hG14⟩, ?_⟩
                      · rw [HTE.out, ← List.append_assoc, HPE.out]
                        unfold edB nums8
                        simp only [List.flatMap_cons, List.flatMap_nil, List.append_nil, ← List.append_assoc, HP12.out, HP13.out]
                        rw [wide8_wrap] at hown14'
                        exact hown14'
                      · simp [intOf]
                        omega
                    · obtain rfl : j = el' := by omega
                      rw [List.take_of_length_le (by rw [HEL.out]; exact Nat.le_refl _)] at hoq
                      go_wp2
                      refine ⟨⟨k3 + 1, by omega, by go_num, by rw [all_take_succ HX.out, HALL.out, HCk.out]; rfl, ?_, hBq⟩, ?_⟩
                      · rw [HT.out, ← List.append_assoc, HPB.out, HCH.out]
                        simp only [nums8, List.flatMap_cons, List.flatMap_nil, List.append_nil, ← List.append_assoc, HP6.out, HP7.out, HP8.out, HP9.out, HP10.out, HP11.out]
                        exact hoq
                      · simp [intOf]
                        omega
            · obtain rfl : k3 = cn := by omega
              rw [List.take_of_length_le (by rw [HC.out]; exact Nat.le_refl _), ← HB5.out] at ho
              have hyes : rightB r = true := by
                have h := HALL.out
                rw [List.take_of_length_le (by rw [HC.out]; exact Nat.le_refl _)] at h
                unfold rightB
                rw [h, HN.out, HC.out]
                simp
                omega
              have HYES := hid hyes
              have hlb := HL.out hyes
              have hW : Below w.heap.size w wr := Below.trans (Ext.trans hx1 hx14) (hB6.mono (by omega))
              have hsl := ho.slice
              have hPU := hid (fun (W : World) (he : Ext wr W) => crcPutR_any _ _ W (hsl.ext he) hlb)
              generalize hbb : bodyB r = bb at *
              have HBB := hid hbb
              clear hbb
              clear hyes
              go_wp2_with (first
                | (go_at_call 95; refine (hPU.out _ (Below.refl _ _)).mono ?_; rintro e w8 ⟨u8, rfl, hu8, hx8⟩))
              go_ret2
              exact ⟨u8, 0, rfl, .inl ⟨HYES.out, rfl, by rw [HBB.out]; exact hu8.since hW⟩, Ext.trans hW hx8⟩
end
end Go.Proofs.Ytjchobncmogcpaa

