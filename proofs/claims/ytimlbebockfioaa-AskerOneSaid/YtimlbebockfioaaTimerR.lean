/- The reference's timers: a row of structs. -/
import Derived.Test.YtimlbebockfioaaObj
import Derived.Test.YtimlbebockfioaaTimerPlain
import Derived.Test.YtimlbebockfioaaRowOps
import Derived.StillTailTactics
import Derived.Deep.DeepCutAuto
import Derived.Deep.RegionLaw
import Derived.Deep.RegionHeld3
import Derived.BigQuiet
import Derived.Deep.QuietTactic
import Derived.Test.YtimlbebockfioaaProg
namespace Go.Proofs.Ytimlbebockfioaa
open Go.RowKit

def repTm : Rep Tm where
  size := 3
  holds _ _ cs x := cs = [.int .i64 x.key, .int .i64 x.left, .int .i64 x.span]
  len := by rintro _ _ _ _ rfl; rfl
  one := by
    rintro _ _ _ _ rfl u hu
    simp at hu
    rcases hu with rfl | rfl | rfl <;> rfl
  keepP := by rintro _ _ _ _ _ _ rfl _; rfl
theorem flat_tm : Flat repTm := fun _ _ _ _ _ _ h => h
theorem RowAt.tm {w : World} {S : Nat → Prop} {A n} {xs : List Tm} (h : RowAt repTm w S A n xs) {k : Nat} (hk : k < n) :
    ∃ b off x, A = some ⟨b, off, none⟩ ∧ S b ∧ xs[k]? = some x ∧ w.cell? ⟨b, off + k * 3, none⟩ = some (.int .i64 x.key) ∧ w.cell? ⟨b, off + k * 3 + 1, none⟩ = some (.int .i64 x.left) ∧ w.cell? ⟨b, off + k * 3 + 2, none⟩ = some (.int .i64 x.span) := by
  obtain ⟨b, off, ds, x, hA, hb, hx, rfl, hc⟩ := h.get hk
  exact ⟨b, off, x, hA, hb, hx, hc 0 (by simp), hc 1 (by simp), hc 2 (by simp)⟩
theorem Own.tmCells {e : TypeId} {base g n c : Nat} {w : World} {T : List Tm} (h : Own repTm e base w (.slice (some ⟨g, 0, none⟩) n c) T) {i : Nat} {t : Tm} (ht : T[i]? = some t) :
    w.cell? ⟨g, i * 3, none⟩ = some (.int .i64 t.key) ∧ w.cell? ⟨g, i * 3 + 1, none⟩ = some (.int .i64 t.left) ∧ w.cell? ⟨g, i * 3 + 2, none⟩ = some (.int .i64 t.span) := by
  obtain ⟨ds, rfl, hc⟩ := h.cells ht
  exact ⟨hc 0 (by simp), hc 1 (by simp), hc 2 (by simp)⟩
/-- The reference's timers: its block, its row. -/
def RtAt (w : World) (gr : Nat) (most : Int) (T : List Tm) : Prop :=
  ∃ v, Blk w gr 89 #[.int .i64 most, v] ∧ Own repTm 91 (gr + 1) w v T
theorem RtAt.ext {w w' : World} {gr : Nat} {most : Int} {T : List Tm} (h : RtAt w gr most T) (he : Ext w w') : RtAt w' gr most T := by
  obtain ⟨v, h1, h2⟩ := h
  exact ⟨v, h1.ext he, h2.ext he⟩
theorem RtAt.kept {w w' : World} {gr b : Nat} {most : Int} {T : List Tm} (h : RtAt w gr most T) (hg : Only b w w') (hb : b < gr) : RtAt w' gr most T := by
  obtain ⟨v, h1, h2⟩ := h
  exact ⟨v, h1.grown hg (fun e => by injection e with e; omega), h2.out (X := fun k => k = b) (Out.of_only hg rfl) (fun k hk => by omega)⟩
theorem info_tm : (Try.prog.info? 91).map (fun i => (i.zero, i.size, i.bytes)) = some (some (.agg #[.int .i64 0, .int .i64 0, .int .i64 0]), 3, 24) := by kernel_rfl
theorem elem_tm : ElemInfo Try.prog 91 3 24 := elemInfo (z := .agg #[.int .i64 0, .int .i64 0, .int .i64 0]) (by kernel_rfl) rfl
theorem info_intT : ElemInfo Try.prog 3 1 8 := elemInfo (z := .int .i64 0) (by kernel_rfl) rfl
theorem Own.lowT {α : Type} {q : Rep α} {e base base' : Nat} {W : World} {v : Value} {xs : List α} (h : Own q e base W v xs) (hb : base' ≤ base) : Own q e base' W v xs := by
  obtain ⟨ys, ⟨h1, h2⟩, h3⟩ := h
  refine ⟨ys, ⟨h1, ?_⟩, fun j hj => q.keep (h3 j hj) fun b hb' => ⟨⟨by have := hb'.1; omega, hb'.2⟩, fun _ => rfl⟩⟩
  rcases h2 with h2 | ⟨g, cap, cur, r1, r2, r3⟩
  · exact .inl h2
  · exact .inr ⟨g, cap, cur, r1, by omega, r3⟩
/-- The blocks of the reference's timers. -/
def rtOwn (w : World) (gr : Nat) (k : Nat) : Prop := k = gr ∨ ∃ v : Value, w.cell? ⟨gr, 1, none⟩ = some v ∧ v.ownBlock = some k
theorem rtOwn_is {w : World} {gr : Nat} {t : TypeId} {m v : Value} (h : Blk w gr t #[m, v]) (k : Nat) : rtOwn w gr k ↔ k = gr ∨ v.ownBlock = some k := by
  have hc : w.cell? ⟨gr, 1, none⟩ = some v := h.cell 1
  unfold rtOwn
  constructor
  · rintro (h | ⟨u, h1, h2⟩)
    · exact .inl h
    · rw [hc] at h1
      injection h1 with h1
      exact .inr (h1 ▸ h2)
  · rintro (h | h)
    · exact .inl h
    · exact .inr ⟨v, hc, h⟩
/-- What a call turns, and what it has behind it. -/
def RtFr (w w' : World) (gr : Nat) : Prop := Out (rtOwn w gr) w w' ∧ ∀ k, rtOwn w' gr k → rtOwn w gr k ∨ w.heap.size ≤ k
theorem RtFr.of_ext {w w' : World} {gr : Nat} {t : TypeId} {m v : Value} (h : Blk w gr t #[m, v]) (he : Ext w w') : RtFr w w' gr :=
  ⟨Out.of_ext he, fun k hk => .inl ((rtOwn_is h k).2 ((rtOwn_is (h.ext he) k).1 hk))⟩
/-- A timer is stored whole. -/
theorem Own.storeTm {e base g n c : Nat} {w : World} {T : List Tm} (h : Own repTm e base w (.slice (some ⟨g, 0, none⟩) n c) T) {i : Nat} {t : Tm} (ht : T[i]? = some t) (x : Tm) :
    Own repTm e base (w.setCells g (i * 3) [.int .i64 x.key, .int .i64 x.left, .int .i64 x.span]) (.slice (some ⟨g, 0, none⟩) n c) (T.set i x) := by
  have hi := lt_of_get ht
  have h1 := h.setAt flat_tm ht (q := 0) (by decide) (.int .i64 x.key) (x' := ⟨x.key, t.left, t.span⟩) rfl (fun cs hc => by subst hc; rfl)
  have h2 := h1.setAt flat_tm (i := i) (x := ⟨x.key, t.left, t.span⟩) (by simp [hi]) (q := 1) (by decide) (.int .i64 x.left) (x' := ⟨x.key, x.left, t.span⟩) rfl (fun cs hc => by subst hc; rfl)
  have h3 := h2.setAt flat_tm (i := i) (x := ⟨x.key, x.left, t.span⟩) (by simp [hi]) (q := 2) (by decide) (.int .i64 x.span) (x' := ⟨x.key, x.left, x.span⟩) rfl (fun cs hc => by subst hc; rfl)
  simp only [List.set_set] at h3
  exact h3
theorem only_setCellsT (g : Nat) : ∀ (vs : List Value) (o : Nat) (w : World), Only g w (w.setCells g o vs)
  | [], _, _ => Only.refl _ _
  | v :: r, o, w => by
    rw [World.setCells]
    exact ((Only.refl g w).set_ o v).trans (only_setCellsT g r (o + 1) _)
section
variable {P : Program} {w : World} {ops : Array Oper} {rest : List Oper} {o : Oper} {a : Act} {Q : Exit → Act → World → Prop}
theorem wpl_storeTm {ty e base g n c p : Nat} {T : List Tm} {i : Nat} {t : Tm} (x : Tm) (s y : Operand) (hgd : o.guard = none) (ho : o.op = .store ty s y) (hx : a.eval s = .pointer (some ⟨g, p, none⟩)) (hp : p = i * 3)
    (hy : a.eval y = .agg #[.int .i64 x.key, .int .i64 x.left, .int .i64 x.span]) (hown : Own repTm e base w (.slice (some ⟨g, 0, none⟩) n c) T) (ht : T[i]? = some t) (hi : (P.info? ty).map (·.size) = some 3)
    (h : ∀ w', Own repTm e base w' (.slice (some ⟨g, 0, none⟩) n c) (T.set i x) → Only g w w' → wpList P ops Q rest (a.put o.dst undef) w') : wpList P ops Q (o :: rest) a w := by
  subst hp
  obtain ⟨c0, c1, c2⟩ := hown.tmCells ht
  obtain ⟨g', c', hv, _, _, _, _, cur, hb, _⟩ := hown.blockOf (by have := lt_of_get ht; omega)
  injection hv with e1 _ _
  injection e1 with e1
  injection e1 with e1 _ _
  subst e1
  refine wpList_store_mid hgd ty s y ho g (i * 3) #[.int .i64 x.key, .int .i64 x.left, .int .i64 x.span] hx hy (fun j hj => ?_) hi (by simp [Value.oneCell']) (h _ (hown.storeTm ht x) (only_setCellsT g _ _ _))
  have hj3 : j < 3 := hj
  refine ⟨?_, hb.frozen _⟩
  match j, hj3 with
  | 0, _ => show (w.cell? ⟨g, i * 3, none⟩).isSome = true; rw [c0]; rfl
  | 1, _ => show (w.cell? ⟨g, i * 3 + 1, none⟩).isSome = true; rw [c1]; rfl
  | 2, _ => show (w.cell? ⟨g, i * 3 + 2, none⟩).isSome = true; rw [c2]; rfl
end
theorem still_tailT {P : Program} {id : Nat} {Q : Exit → Act → World → Prop} {a : Act} {w : World} {l : List Oper} (n : Nat) (hm : P.follows .mixedOrders = true) (hB : Region.lexTailB .any l.toArray n = true)
    (h : ∀ w', w' = w.drewN 1 → wpStill P l.toArray w' (fun a' => wpList P l.toArray Q (l.drop n) a' w') (l.take n) a) : (Code.region id l.toArray true).wp P Q a w := wp_region_still_tail n hm hB (h _ rfl)
def Under (T : List Tm) (k : Int) (j : Nat) : Prop := ∀ (i : Nat) (t : Tm), i < j → T[i]? = some t → t.key < k
set_option maxRecDepth 100000
section
theorem rtNew_yes (w : World) (m : Int) (h1 : 1 ≤ m) (h2 : m ≤ 64) :
    Calls Try.prog 42 #[.int .i64 m] w fun e w' => ∃ gr, e = .returned (.tuple #[.pointer (some ⟨gr, 0, none⟩), .int .i64 0]) ∧ w.heap.size ≤ gr ∧ RtAt w' gr m [] ∧ Ext w w' := by
  have hd1 : decide (m < 1) = false := decide_eq_false (by omega)
  have hd2 : decide (64 < m) = false := decide_eq_false (by omega)
  go_enter Try.func42, Try.ntmps42
  go_wp2
  go_ret2
  exact ⟨w.heap.size, rfl, Nat.le_refl _, ⟨.slice none 0 0, Blk.new w _ _, own_nil _ _ _ _⟩, ext_alloc _ _⟩
theorem rtNew_no (w : World) (m : Int) (h : m < 1 ∨ 64 < m) :
    Calls Try.prog 42 #[.int .i64 m] w fun e w' => e = .returned (.tuple #[.pointer none, .int .i64 1]) ∧ w = w' := by
  rcases h with h | h
  · have hd1 : decide (m < 1) = true := decide_eq_true (by omega)
    go_enter Try.func42, Try.ntmps42
    go_wp2
    go_ret2
    exact ⟨rfl, rfl⟩
  · have hd1 : decide (m < 1) = false := decide_eq_false (by omega)
    have hd2 : decide (64 < m) = true := decide_eq_true (by omega)
    go_enter Try.func42, Try.ntmps42
    go_wp2
    go_ret2
    exact ⟨rfl, rfl⟩
theorem rtAt_any (w : World) (gr : Nat) (most : Int) (T : List Tm) (h : RtAt w gr most T) (k : Int) :
    Calls Try.prog 65 #[.pointer (some ⟨gr, 0, none⟩), .int .i64 k] w fun e w' => e = .returned (.tuple #[.int .i64 (tplace T k), .bool (tfound T k)]) ∧ ∃ n, w' = w.drewN n := by
  obtain ⟨v, hb, hown⟩ := h
  obtain ⟨A, c, rfl, hc1, hc2, hrow⟩ := hown.form
  have e1 : w.cell? ⟨gr, 1, none⟩ = some (.slice A T.length c) := hb.cell 1
  obtain ⟨n, hn⟩ : ∃ n, n = T.length := ⟨_, rfl⟩
  rw [← hn] at e1 hrow hc1
  have HN := hid hn
  unfold maxLen at hc2
  obtain ⟨pl, hpl⟩ : ∃ pl, pl = tplace T k := ⟨_, rfl⟩
  obtain ⟨fl, hfl⟩ : ∃ fl, fl = tfound T k := ⟨_, rfl⟩
  rw [← hpl, ← hfl]
  have HPL := hid hpl
  have HFL := hid hfl
  clear hb hown hn hpl hfl
  go_enter Try.func65, Try.ntmps65
  go_wp2
  go_loop [6] (fun i => ∃ j : Nat, j ≤ n ∧ i = .int .i64 j ∧ Under T k j) (fun i => n - (intOf i).toNat)
  case atStart => exact ⟨0, Nat.zero_le _, rfl, fun i t hi => by omega⟩
  case round =>
    obtain ⟨j, hj, rfl, hun⟩ := hrel
    by_cases hlt : j < n
    · obtain ⟨b, off, x, rfl, _, hx, c0, _, _⟩ := hrow.tm hlt
      have HX := hid hx
      have HU := hid hun
      by_cases hk : k ≤ x.key
      · have hp : tplace T k = j := tplace_is hun (fun t ht => by rw [hx] at ht; injection ht with ht; rw [← ht]; exact hk) (by have := HN.out; omega)
        have hf : tfound T k = (x.key == k) := by unfold tfound; rw [hp, hx]; rfl
        have HP := hid (HPL.out.trans hp)
        have HF := hid (HFL.out.trans hf)
        generalize x.key = xk at *
        clear hp hf hx hun
        go_wp2
        go_quiet (fail)
        go_wp2
        go_ret2
        refine ⟨?_, _, rfl⟩
        have e1 := HP.out
        have e2 := HF.out
        subst e1 e2
        rfl
      · clear hx hun
        go_wp2
        go_round
        case rel =>
          refine ⟨j + 1, by omega, by go_num, fun i t hi ht => ?_⟩
          by_cases hij : i = j
          · rw [hij, HX.out] at ht
            injection ht with ht
            rw [← ht]; omega
          · exact HU.out i t (by omega) ht
        case measure => simp [intOf]; omega
    · obtain rfl : j = n := by omega
      have hp : tplace T k = j := tplace_is hun (fun t ht => by have := lt_of_get ht; have := HN.out; omega) (by have := HN.out; omega)
      have hf : tfound T k = false := by unfold tfound; rw [hp, List.getElem?_eq_none (by have := HN.out; omega)]; rfl
      have HP := hid (HPL.out.trans hp)
      have HF := hid (HFL.out.trans hf)
      clear hp hf hun
      go_wp2
      go_ret2
      refine ⟨?_, 0, rfl⟩
      have e1 := HP.out
      have e2 := HF.out
      subst e1 e2
      rfl
set_option maxHeartbeats 1000000 in
theorem rtSet_any (w : World) (gr : Nat) (most : Int) (T : List Tm) (h : RtAt w gr most T) (hT : T.length ≤ 100000) (k : Int) :
    Calls Try.prog 66 #[.pointer (some ⟨gr, 0, none⟩), .int .i64 k] w fun e w' => e = .returned (.tuple #[]) ∧ RtAt w' gr most (tset T ⟨k, 1, 1⟩) ∧ Below gr w w' ∧ RtFr w w' gr := by
  have HAT := hid (rtAt_any w gr most T h k)
  have HIS : Wall (tset T ⟨k, 1, 1⟩ = if tfound T k = true then T.set (tplace T k) ⟨k, 1, 1⟩ else T.take (tplace T k) ++ ⟨k, 1, 1⟩ :: T.drop (tplace T k)) := hid (tset_is T ⟨k, 1, 1⟩)
  have hpl := tplace_le T k
  have HFO : Wall (tfound T k = true → ∃ t, T[tplace T k]? = some t) := hid (fun hf => by
    unfold tfound at hf
    cases hx : T[tplace T k]? with
    | none => rw [hx] at hf; cases hf
    | some t => exact ⟨t, rfl⟩)
  obtain ⟨v, hb, hown⟩ := h
  have hblt := hb.lt
  have e1 : w.cell? ⟨gr, 1, none⟩ = some v := hb.cell 1
  have HB := hid hb
  obtain ⟨A, c, hv, hc1, hc2, hrow⟩ := hown.form
  cases hf : tfound T k with
  | true =>
    obtain ⟨t, ht⟩ := HFO.out hf
    obtain ⟨g, c', hv', hg1, hg2, _⟩ := hown.blockOf (by have := lt_of_get ht; omega)
    rw [hv'] at hv e1 hown HB
    rw [hf] at HAT
    have HF := hid hf
    have HT := hid ht
    have hlt := lt_of_get ht
    obtain ⟨n, hn⟩ : ∃ n, n = T.length := ⟨_, rfl⟩
    rw [← hn] at e1 hown hlt HB
    have HN := hid hn
    obtain ⟨pl, hp⟩ : ∃ pl, pl = tplace T k := ⟨_, rfl⟩
    rw [← hp] at HAT HIS HT hlt
    have HOW := hid hown
    unfold maxLen at hc2
    clear hb hown hf ht hn hp hv hv' hrow HFO hpl hc1
    go_enter Try.func66, Try.ntmps66
    go_wp2_with (go_at_call 65; refine HAT.out.mono ?_; rintro e w1 ⟨rfl, d, hw1⟩; have hx1 : Ext w w1 := (by rw [hw1]; exact ext_drewN _ _); have f1 := (hx1.cell hblt 1).trans e1; clear hw1)
    refine still_tailT 7 (by kernel_rfl) (by kernel_rfl) ?_
    intro w2 hw2
    have hx : Ext w w2 := by rw [hw2]; exact Ext.trans (Ext.trans hx1 (ext_alloc _ _)) (ext_drewN _ 1)
    have f2 := (hx.cell hblt 1).trans e1
    have hblk2 := HB.out.ext hx
    obtain ⟨y0, y1, y2⟩ : w2.cell? ⟨w1.heap.size, 0, none⟩ = some (.int .i64 k) ∧ w2.cell? ⟨w1.heap.size, 1, none⟩ = some (.int .i64 1) ∧ w2.cell? ⟨w1.heap.size, 2, none⟩ = some (.int .i64 1) := by rw [hw2]; simp
    clear hw2
    simp only [List.take_succ_cons, List.take_zero, List.drop_succ_cons, List.drop_zero]
    repeat still_step
    refine wpStill_nil ?_
    refine wpl_storeTm ⟨k, 1, 1⟩ _ _ rfl rfl rfl rfl rfl ((HOW.out).ext hx) HT.out (by kernel_rfl) ?_
    intro w3 hown3 ho3
    go_wp2
    refine bodyPost_ret (results_none rfl _ _ _) rfl ?_
    have hblk3 := hblk2.grown ho3 (fun e => by injection e with e; omega)
    refine ⟨rfl, ⟨_, hblk3, ?_⟩, ?_, (Out.of_ext hx).trans (Out.of_only ho3 ((rtOwn_is HB.out _).2 (.inr rfl))), fun q hq => .inl ((rtOwn_is HB.out _).2 ((rtOwn_is hblk3 _).1 hq))⟩
    · rw [HIS.out, if_pos HF.out]
      exact hown3
    · exact Below.grown (hx.mono (by omega)) ho3 (by have := hx.size; omega) (fun b hb => by injection hb with hb; omega)
  | false =>
    rw [hf] at HAT
    have HF := hid hf
    subst hv
    obtain ⟨n, hn⟩ : ∃ n, n = T.length := ⟨_, rfl⟩
    rw [← hn] at e1 hrow hc1 hpl hT
    have HOW := hid hown
    obtain ⟨pl, hp⟩ : ∃ pl, pl = tplace T k := ⟨_, rfl⟩
    rw [← hp] at HAT HIS hpl
    have hst := hown.slice
    rw [← hn] at hst
    obtain ⟨A1, hr1, hs1⟩ := cut_to (P := Try.prog) Try.underlying87 elem_tm hst (k := pl) hpl
    obtain ⟨A2, hr2, hs2⟩ := cut_from (P := Try.prog) Try.underlying87 elem_tm hst (k := pl) hpl
    have HN := hid hn
    have hl1 : (T.take pl).length = pl := by rw [List.length_take, ← hn]; omega
    have hl2 : (T.drop pl).length = n - pl := by rw [List.length_drop, ← hn]
    have HL1 := hid hl1
    have HL2 := hid hl2
    clear hb hown hf hn hp hrow HFO hst hl1 hl2
    go_enter Try.func66, Try.ntmps66
    go_upto_region 4 with (go_at_call 65; refine HAT.out.mono ?_; rintro e w1 ⟨rfl, d, hw1⟩; have hx1 : Ext w w1 := (by rw [hw1]; exact ext_drewN _ _); have f1 := (hx1.cell hblt 1).trans e1; clear hw1)
    have hxa : Ext w (w1.alloc (.cells #[.int .i64 k, .int .i64 1, .int .i64 1] 91)) := Ext.trans hx1 (ext_alloc _ _)
    obtain ⟨y0, y1, y2⟩ : (w1.alloc (.cells #[.int .i64 k, .int .i64 1, .int .i64 1] 91)).cell? ⟨w1.heap.size, 0, none⟩ = some (.int .i64 k) ∧ (w1.alloc (.cells #[.int .i64 k, .int .i64 1, .int .i64 1] 91)).cell? ⟨w1.heap.size, 1, none⟩ = some (.int .i64 1) ∧ (w1.alloc (.cells #[.int .i64 k, .int .i64 1, .int .i64 1] 91)).cell? ⟨w1.heap.size, 2, none⟩ = some (.int .i64 1) := by simp
    have hyl : w1.heap.size < (w1.alloc (.cells #[.int .i64 k, .int .i64 1, .int .i64 1] 91)).heap.size := by simp
    have hgx : gr < (w1.alloc (.cells #[.int .i64 k, .int .i64 1, .int .i64 1] 91)).heap.size := by have := hx1.size; simp; omega
    have f2 := (hxa.cell hblt 1).trans e1
    clear f1
    generalize hw2 : w1.alloc (.cells #[.int .i64 k, .int .i64 1, .int .i64 1] 91) = w2 at *
    generalize w1.heap.size = gx at *
    clear hw2 hx1
    go_upto_region 5 with (at_builtin; refine wpl_app (r := repTm) (base := w2.heap.size) (v := .slice (some ⟨w2.heap.size, 0, none⟩) 0 0) (xs := []) (news := T.take pl) _ _ rfl rfl Try.underlying87 elem_tm (by decide) (own_lit (xs := []) (Nat.le_refl _) (by simp [maxLen]) (by simp) (by simp)) ((hs1.off (Ext.trans hxa (ext_alloc w2 _)) (by simp [Value.ownBlock]; exact hxa.size)).flat flat_tm) rfl rfl (by have := HL1.out; simp; omega) (by have := HL1.out; simp [maxLen]; omega) (by simp) ?_; intro v3 w3 hown3 hg3 _)
    have hx3 : Ext w2 w3 := Below.grown (ext_alloc w2 _) hg3 (by simp) (by simp [Value.ownBlock])
    have y0' := (hx3.cell hyl 0).trans y0
    have y1' := (hx3.cell hyl 1).trans y1
    have y2' := (hx3.cell hyl 2).trans y2
    have hbs := hx3.size
    have hown3' : Own repTm 91 w2.heap.size w3 v3 (T.take pl) := by simpa using hown3
    clear hown3 hg3 y0 y1 y2
    go_upto_region 6 with (at_builtin; refine wpl_app1 (r := repTm) (base := w2.heap.size) (x := ⟨k, 1, 1⟩) (cs := #[.int .i64 k, .int .i64 1, .int .i64 1]) _ _ rfl rfl Try.underlying87 elem_tm (by decide) hown3' rfl rfl rfl rfl (by have := HL1.out; omega) (by have := HL1.out; simp only [maxLen]; omega) hbs ?_; intro v4 w4 hown4 hg4)
    have hx4 : Ext w2 w4 := Below.grown hx3 hg4 hbs (fun b hb => (hown3'.lt b hb).1)
    have f4 := (hx4.cell hgx 1).trans f2
    have hxw4 := Ext.trans hxa hx4
    have hl4 : (T.take pl ++ [(⟨k, 1, 1⟩ : Tm)]).length = pl + 1 := by rw [List.length_append, HL1.out]; rfl
    have HL4 := hid hl4
    clear hl4 y0' y1' y2' f2 hg4
    go_wp2_with (at_builtin; refine wpl_app (r := repTm) (base := w2.heap.size) (xs := T.take pl ++ [⟨k, 1, 1⟩]) (news := T.drop pl) _ _ rfl rfl Try.underlying87 elem_tm (by decide) hown4 ((hs2.off hxw4 (fun b hb => Nat.le_trans hxa.size (hown4.lt b hb).1)).flat flat_tm) rfl rfl (by rw [HL4.out, HL2.out]; omega) (by rw [HL4.out, HL2.out]; simp only [maxLen]; omega) (by have := hx4.size; omega) ?_; intro v5 w5 hown5 hg5 _; obtain ⟨NL, hNL⟩ : ∃ NL, NL = T.take pl ++ [⟨k, 1, 1⟩] ++ T.drop pl := ⟨_, rfl⟩; rw [← hNL] at hown5; have HNL := hid hNL; clear hNL; obtain ⟨A5, c5, rfl, _⟩ := hown5.form; have hx5 : Ext w w5 := Below.grown hxw4 hg5 hxw4.size (fun b hb => Nat.le_trans hxa.size (hown4.lt b hb).1); have hb5 := HB.out.ext hx5; have f5 := hb5.cell 1; have f6 := hb5.frozen 1)
    go_end0
    have hs := hb5.set_ 1 (.slice A5 NL.length c5)
    have ho : Only gr w5 (w5.setCell ⟨gr, 1, none⟩ (.slice A5 NL.length c5)) := (Only.refl _ _).set_ _ _
    refine ⟨rfl, ⟨_, hs, ?_⟩, ?_, (Out.of_ext hx5).trans (Out.of_only ho (.inl rfl)), fun q hq => ?_⟩
    rotate_right
    · rcases (rtOwn_is hs _).1 hq with e | e
      · exact .inl (.inl e)
      · exact .inr (by have := (hown5.lt q e).1; have := hxa.size; omega)
    · rw [HIS.out, if_neg (by rw [HF.out]; decide)]
      have h6 := (hown5.out (X := fun b => b = gr) (Out.of_only ho rfl) (fun b hb => by omega)).lowT (base' := gr + 1) (by omega)
      rw [HNL.out] at h6 ⊢
      simpa using h6
    · exact Below.grown (hx5.mono (by omega)) ho (by have := hx5.size; omega) (fun b hb => by injection hb with hb; omega)
end
end Go.Proofs.Ytimlbebockfioaa
