/- The pusher's reference (kedgeref24) in memory; its packet, its on. -/
import Derived.Test.YtimlbebockfioaaTimerR2
import Derived.Test.YtimlbebockfioaaPusher3
import Derived.Test.YtimlbebockfioaaRingR
namespace Go.Proofs.Ytimlbebockfioaa
open Go.RowKit

theorem Out.trans2 {X Y : Nat → Prop} {a b c : World} (h : Out X a b) (k : Out Y b c) (hY : ∀ q, q < a.heap.size → Y q → X q) : Out X a c :=
  ⟨k.os.trans h.os, k.tape.trans h.tape, k.output.trans h.output, Nat.le_trans h.size k.size, fun i hi hn => (k.block i (Nat.lt_of_lt_of_le hi h.size) fun hy => hn (hY i hi hy)).trans (h.block i hi hn)⟩
theorem Own.keepFlat {α : Type} {r : Rep α} {e base : Nat} {w w' : World} {v : Value} {xs : List α} (hf : Flat r) (h : Own r e base w v xs) {row : Option Nat} (hg : w.grownBy w' row) (hne : v.ownBlock = none ∨ v.ownBlock ≠ row) : Own r e base w' v xs := by
  obtain ⟨ys, h1, h2⟩ := h
  exact ⟨ys, h1.kept hg hne, fun j hj => hf _ _ _ _ _ _ (h2 j hj)⟩
theorem rtOwn_lt {w : World} {gt : Nat} {most : Int} {T : List Tm} (h : RtAt w gt most T) {k : Nat} (hk : rtOwn w gt k) : k < w.heap.size := by
  obtain ⟨v, hb, ho⟩ := h
  rcases (rtOwn_is hb k).1 hk with e | e
  · rw [e]; exact hb.lt
  · exact (ho.lt k e).2
theorem rtOwn_ext {w w' : World} {gt : Nat} {most : Int} {T : List Tm} (h : RtAt w gt most T) (he : Ext w w') {k : Nat} (hk : rtOwn w' gt k) : rtOwn w gt k := by
  obtain ⟨v, hb, ho⟩ := h
  exact (rtOwn_is hb k).2 ((rtOwn_is (hb.ext he) k).1 hk)
/-- What the reference is made of: F is where its messages lie. -/
structure RpAt (F : Nat → Prop) (w : World) (gr gt : Nat) (c : Cfg) (s : Ps) : Prop where
  fr : ¬ rtOwn w gt gr
  fp : ∀ k, F k → (k ≠ gr ∧ ¬ rtOwn w gt k) ∧ k < w.heap.size
  rt : RtAt w gt c.b s.T
  is : ∃ lv, Blk w gr 86 (psCells c lv s.base s.next gt) ∧ RowF F (repSlice repByte) 39 w lv s.acc
def RpFr (w w' : World) (gr gt : Nat) : Prop := Out (fun k => k = gr ∨ rtOwn w gt k) w w' ∧ ∀ k, rtOwn w' gt k → rtOwn w gt k ∨ w.heap.size ≤ k
theorem RpFr.trans {a b c : World} {gr gt : Nat} (h : RpFr a b gr gt) (k : RpFr b c gr gt) : RpFr a c gr gt :=
  ⟨h.1.trans2 k.1 fun q hq hy => hy.elim .inl fun hy => (h.2 q hy).elim .inr fun h => by omega, fun q hq => by
    rcases k.2 q hq with h1 | h1
    · exact h.2 q h1
    · exact .inr (Nat.le_trans h.1.size h1)⟩
theorem rpCellsAt {w : World} {gr gt base next : Nat} {c : Cfg} {lv : Value} (h : Blk w gr 86 (psCells c lv base next gt)) :
    w.cell? ⟨gr, 1, none⟩ = some (.int .i64 c.w) ∧ w.cell? ⟨gr, 2, none⟩ = some (.int .i64 c.m) ∧ w.cell? ⟨gr, 5, none⟩ = some (.int .i64 c.room) ∧ w.cell? ⟨gr, 7, none⟩ = some lv ∧ w.cell? ⟨gr, 8, none⟩ = some (.int .i64 (base : Int)) ∧ w.cell? ⟨gr, 9, none⟩ = some (.int .i64 (next : Int)) ∧ w.cell? ⟨gr, 10, none⟩ = some (.pointer (some ⟨gt, 0, none⟩)) ∧
    w.frozen? ⟨gr, 7, none⟩ = false ∧ w.frozen? ⟨gr, 8, none⟩ = false ∧ w.frozen? ⟨gr, 9, none⟩ = false :=
  ⟨h.cell 1, h.cell 2, h.cell 5, h.cell 7, h.cell 8, h.cell 9, h.cell 10, h.frozen 7, h.frozen 8, h.frozen 9⟩
section
variable {F : Nat → Prop} {w w' : World} {gr gt : Nat} {c : Cfg} {s : Ps}
theorem RpAt.ltp (h : RpAt F w gr gt c s) : gr < w.heap.size := by obtain ⟨lv, h1, _⟩ := h.is; exact h1.lt
theorem RpAt.ltt (h : RpAt F w gr gt c s) : gt < w.heap.size := rtOwn_lt h.rt (.inl rfl)
theorem RpFr.of_ext (h : RpAt F w gr gt c s) (he : Ext w w') : RpFr w w' gr gt := ⟨Out.of_ext he, fun _ hk => .inl (rtOwn_ext h.rt he hk)⟩
theorem RpAt.ext (h : RpAt F w gr gt c s) (he : Ext w w') : RpAt F w' gr gt c s := by
  obtain ⟨lv, h1, h2⟩ := h.is
  exact ⟨fun hk => h.fr (rtOwn_ext h.rt he hk), fun k hk => ⟨⟨(h.fp k hk).1.1, fun hh => (h.fp k hk).1.2 (rtOwn_ext h.rt he hh)⟩, Nat.lt_of_lt_of_le (h.fp k hk).2 he.size⟩, h.rt.ext he, lv, h1.ext he, h2.frame he.size fun k hk _ => he.block k hk⟩
/-- The timers turn. -/
theorem RpAt.timer (h : RpAt F w gr gt c s) (hf : RtFr w w' gt) {T : List Tm} (ht : RtAt w' gt c.b T) : RpAt F w' gr gt c ⟨s.acc, s.base, s.next, T⟩ ∧ RpFr w w' gr gt := by
  obtain ⟨lv, h1, h2⟩ := h.is
  have hlt := h1.lt
  refine ⟨⟨fun hk => ?_, fun k hk => ⟨⟨(h.fp k hk).1.1, fun hh => ?_⟩, Nat.lt_of_lt_of_le (h.fp k hk).2 hf.1.size⟩, ht, lv, h1.out hf.1 h.fr, h2.frame hf.1.size fun k hk hF => hf.1.block k hk (h.fp k hF).1.2⟩, hf.1.mono fun k hk => .inr hk, hf.2⟩
  · rcases hf.2 _ hk with e | e
    · exact h.fr e
    · omega
  · rcases hf.2 _ hh with e | e
    · exact (h.fp k hk).1.2 e
    · have := (h.fp k hk).2; omega
/-- A cell of its own turns. -/
theorem RpAt.own (h : RpAt F w gr gt c s) (s' : Ps) (ha : s'.acc = s.acc) (hT : s'.T = s.T) (ho : Only gr w w') {lv : Value} (hv : w.cell? ⟨gr, 7, none⟩ = some lv) (hb : Blk w' gr 86 (psCells c lv s'.base s'.next gt)) : RpAt F w' gr gt c s' ∧ RpFr w w' gr gt ∧ ∀ k, rtOwn w' gt k → rtOwn w gt k := by
  obtain ⟨lv', h1, h2⟩ := h.is
  obtain rfl : lv' = lv := by
    have := (rpCellsAt h1).2.2.2.1
    rw [hv] at this
    injection this with this
    exact this.symm
  have hgt : gt ≠ gr := fun e => h.fr (.inl e.symm)
  have hrt := h.rt
  obtain ⟨v, hbt, hot⟩ := hrt
  have hbt' := hbt.grown ho (fun e => by injection e with e; exact hgt e)
  have hown : ∀ k, rtOwn w' gt k → rtOwn w gt k := fun k hk => (rtOwn_is hbt k).2 ((rtOwn_is hbt' k).1 hk)
  refine ⟨⟨fun hk => h.fr (hown _ hk), fun k hk => ⟨⟨(h.fp k hk).1.1, fun hh => (h.fp k hk).1.2 (hown _ hh)⟩, Nat.lt_of_lt_of_le (h.fp k hk).2 ho.size⟩, ?_, lv', hb, ?_⟩, ⟨Out.of_only ho (.inl rfl), fun k hk => .inl (hown k hk)⟩, hown⟩
  · rw [hT]
    refine ⟨v, hbt', hot.keepFlat flat_tm ho ?_⟩
    cases hv' : v.ownBlock
    · exact .inl rfl
    · rename_i k
      exact .inr fun e => by injection e with e; exact h.fr ((rtOwn_is hbt gr).2 (.inr (e ▸ hv')))
  · rw [ha]
    exact h2.frame ho.size fun k hk hF => ho.block k hk (fun e => (h.fp k hF).1.1 (by injection e))
end
set_option maxRecDepth 100000
section
set_option maxHeartbeats 2000000 in
theorem rpSlide_any (F : Nat → Prop) (w : World) (gr gt : Nat) (c : Cfg) (s : Ps) (h : RpAt F w gr gt c s) (hc : c.m ≤ 65536) (place : Nat) (x : List UInt8) (hx : s.acc[place]? = some x) (h64 : x.length ≤ 64) :
    Calls Try.prog 62 #[.pointer (some ⟨gr, 0, none⟩), .int .i64 (place : Int)] w fun e w' => ∃ v, e = .returned (.agg #[.bool false, .int .i64 (modV place c.m), .int .u64 0, v]) ∧ IsSlice repByte w' (fresh w w') v x ∧ Ext w w' := by
  obtain ⟨lv, hbk, hrow⟩ := h.is
  have hsl := hrow.slice
  obtain ⟨A, n, cc, rfl, hn1, hn2, hr⟩ := hsl
  have hn := hr.1
  have hpl := lt_of_get hx
  have hdn : place < n := by omega
  obtain ⟨bk, off, A', m, c', y, rfl, hbS, hy, hm1, hm2, hry, hcy⟩ := hr.slice hdn
  obtain rfl : x = y := by rw [hx] at hy; injection hy
  have hsy : IsSlice repByte w (all w) (.slice A' m c') x := IsSlice.keep ⟨A', m, c', rfl, hm1, hm2, hry⟩ fun b hb => ⟨hb.2, fun _ => rfl⟩
  obtain ⟨_, c2, _, c7, _, _, _, _, _, _⟩ := rpCellsAt hbk
  have hgr := hbk.lt
  have hbk2 := hbS.2
  unfold maxLen at hn2
  have HM := hid (fun (W : World) => modR_any place c.m W (by omega))
  obtain ⟨sq, hsq⟩ : ∃ sq, sq = modV place c.m := ⟨_, rfl⟩
  rw [← hsq] at HM ⊢
  have hx1 := ext_alloc w (.cells #[.bool false, .int .i64 0, .int .u64 0, .slice none 0 0] 41)
  have hb1 := Blk.new w 41 #[.bool false, .int .i64 0, .int .u64 0, .slice none 0 0]
  have HS := hid (fun (W : World) (he : Ext w W) => (⟨(he.cell hgr 2).trans c2, (he.cell hgr 7).trans c7, (he.cell hbk2 _).trans hcy⟩ :
    W.cell? ⟨gr, 2, none⟩ = some (.int .i64 c.m) ∧ W.cell? ⟨gr, 7, none⟩ = some (.slice (some ⟨bk, off, none⟩) n cc) ∧ W.cell? ⟨bk, off + place, none⟩ = some (.slice A' m c')))
  have HJ := hid (fun (W : World) (he : Ext w W) => copyB_any (.slice A' m c') x W (hsy.ext he) (by omega))
  have hplI : (place : Int) < (n : Int) := by omega
  clear hsq hsy hy hn hrow hr hry hbk h hx hpl hcy c2 c7 hbS
  go_enter Try.func62, Try.ntmps62
  go_upto_region 1 with (fail)
  generalize w.alloc (.cells #[.bool false, .int .i64 0, .int .u64 0, .slice none 0 0] 41) = w1 at *
  have HB1 := hid hb1
  have hgs1 := hb1.lt
  clear hb1
  have xd : Ext w w1.drew := Ext.trans hx1 (Below.drew (Below.refl _ _))
  go_region_held3 (fun W => W.cell? ⟨gr, 2, none⟩ = some (.int .i64 c.m) ∧ W.cell? ⟨gr, 7, none⟩ = some (.slice (some ⟨bk, off, none⟩) n cc) ∧ W.cell? ⟨bk, off + place, none⟩ = some (.slice A' m c'))
    (first | with_reducible exact HS.out _ xd | with_reducible exact HS.out _ x3 | (refine HS.out _ ?_; repeat (first | exact xd | exact x3 | exact hx1 | refine Below.drew ?_ | refine Below.setCell ?_ (by simp) _ | refine Below.alloc ?_ (by simp) _)))
    (first
      | (go_at_call 83; refine (HM.out _).mono ?_; rintro r w2 ⟨rfl, rfl⟩)
      | (go_at_call 58; refine (HJ.out _ xd).mono ?_; rintro r w3 ⟨u, rfl, hu, hx3⟩; have x3 := Ext.trans xd hx3; have hu' : IsSlice repByte w3 (fresh w1.drew w3) u x := hu; obtain ⟨Au, cu, rfl⟩ := hu'.shape; clear hu; have hb3 := HB1.out.ext (Ext.trans (Below.drew (Below.refl _ _)) hx3); have z0 := hb3.cell 0; have z1 := hb3.cell 1; have z2 := hb3.cell 2; have z3 := hb3.cell 3; have y0 := hb3.frozen 0; have y1 := hb3.frozen 1; have y2 := hb3.frozen 2; have y3 := hb3.frozen 3))
  all_goals
    have hb6 := (((hb3.set_ 0 (.bool false)).set_ 1 (.int .i64 sq)).set_ 2 (.int .u64 0)).set_ 3 (.slice Au x.length cu)
    have ho6 : Only w.heap.size w3 ((((w3.setCell ⟨w.heap.size, 0, none⟩ (.bool false)).setCell ⟨w.heap.size, 1, none⟩ (.int .i64 sq)).setCell ⟨w.heap.size, 2, none⟩ (.int .u64 0)).setCell ⟨w.heap.size, 3, none⟩ (.slice Au x.length cu)) := ((((Only.refl _ _).set_ _ _).set_ _ _).set_ _ _).set_ _ _
    have hb7 : Blk ((((w3.setCell ⟨w.heap.size, 0, none⟩ (.bool false)).setCell ⟨w.heap.size, 1, none⟩ (.int .i64 sq)).setCell ⟨w.heap.size, 2, none⟩ (.int .u64 0)).setCell ⟨w.heap.size, 3, none⟩ (.slice Au x.length cu)) w.heap.size 41 #[.bool false, .int .i64 sq, .int .u64 0, .slice Au x.length cu] := hb6
    have hx6 := ho6.ext_new x3 (Nat.le_refl _)
    have hszu : w1.heap.size ≤ w1.drew.heap.size := by simp
    have hu7 : IsSlice repByte ((((w3.setCell ⟨w.heap.size, 0, none⟩ (.bool false)).setCell ⟨w.heap.size, 1, none⟩ (.int .i64 sq)).setCell ⟨w.heap.size, 2, none⟩ (.int .u64 0)).setCell ⟨w.heap.size, 3, none⟩ (.slice Au x.length cu)) (fresh w _) (.slice Au x.length cu) x := hu'.keep fun k hk => ⟨⟨by have := hk.1; omega, Nat.lt_of_lt_of_le hk.2 ho6.size⟩, fun o => ho6.cell hk.2 (by have := hk.1; omega) o⟩
    clear hb6 ho6 z0 z1 z2 z3 y0 y1 y2 y3 hb3
    go_wp2_with fail
    exact bodyPost_ret (results_cell_row rfl _ _ w.heap.size _ _ (0, 0) _ rfl hb7 Try.underlying41 rfl (by kernel_rfl)) rfl ⟨_, rfl, hu7, hx6⟩
end
end Go.Proofs.Ytimlbebockfioaa
