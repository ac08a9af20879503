/- The walks of chance's choices. -/
import Derived.Deep.RegionHeld3
import Derived.Deep.DeepCutAuto
import Derived.Test.YtheopadakjojkaaMessage
namespace Go.Proofs.Ytheopadakjojkaa
open Go.RowKit

/-- An edit, a choice. -/
structure Ed where
  kind : Int
  at_ : Int
  b : UInt8
structure Ch where
  kind : Int
  who : Int
  at_ : Int
  data : List UInt8
  edits : List Ed
def repEd : Rep Ed where
  size := 3
  holds _ _ cs x := cs = [.int .i64 x.kind, .int .i64 x.at_, .int .u8 (x.b.toNat : Int)]
  len := by rintro _ _ _ _ rfl; rfl
  one := by
    rintro _ _ _ _ rfl u hu
    simp at hu
    rcases hu with rfl | rfl | rfl <;> rfl
  keep := by rintro _ _ _ _ _ _ rfl _; rfl
def repCh : Rep Ch where
  size := 5
  holds w S cs x := ∃ u v, cs = [.int .i64 x.kind, .int .i64 x.who, .int .i64 x.at_, u, v] ∧ IsSlice repByte w S u x.data ∧ IsSlice repEd w S v x.edits
  len := by rintro _ _ _ _ ⟨u, v, rfl, _, _⟩; rfl
  one := by
    rintro _ _ _ _ ⟨u', v', rfl, ⟨_, _, _, rfl, _⟩, ⟨_, _, _, rfl, _⟩⟩ u hu
    simp at hu
    rcases hu with rfl | rfl | rfl | rfl | rfl <;> rfl
  keep := by rintro _ _ _ _ _ _ ⟨u, v, rfl, h, k⟩ hk; exact ⟨u, v, rfl, h.keep hk, k.keep hk⟩

/-- What an edit is thrown as. -/
def edG (s : Int) : Ed := ⟨belowI s 4, belowI (stepI s) 12, byteAt (stepI (stepI s)) 0⟩
theorem DiceAt.far {w : World} {g : Nat} {s : Int} (h : DiceAt w g s) {p : Addr} (hp : g ≠ p.block) (u : Value) : DiceAt (w.setCell p u) g s := ⟨h.1.far hp u, h.2⟩
theorem DiceAt.ext {w w' : World} {g : Nat} {s : Int} (h : DiceAt w g s) (he : Ext w w') : DiceAt w' g s := ⟨h.1.ext he, h.2⟩

theorem lit_ed {w V : World} {n : Nat} {ed : Ed} (hn : n = V.heap.size) (hw : w.heap.size ≤ V.heap.size) : IsSlice repEd (V.alloc (.cells #[.int .i64 ed.kind, .int .i64 ed.at_, .int .u8 (ed.b.toNat : Int)] 134)) (fresh w (V.alloc (.cells #[.int .i64 ed.kind, .int .i64 ed.at_, .int .u8 (ed.b.toNat : Int)] 134))) (.slice (some ⟨n, 0, none⟩) 1 1) [ed] := by
  subst hn
  exact (Own.fresh (own_lit1 (r := repEd) (base := V.heap.size) (x := ed) (e := 134) (cs := #[.int .i64 ed.kind, .int .i64 ed.at_, .int .u8 (ed.b.toNat : Int)]) (Nat.le_refl _) rfl)).keep fun b hb => ⟨⟨Nat.le_trans hw hb.1, hb.2⟩, fun _ => rfl⟩
theorem put5 {w0 w : World} {g gz : Nat} {t : TypeId} {u0 u1 u2 u3 u4 x0 x1 x2 x3 x4 : Value} (hz : Blk w gz t #[u0, u1, u2, u3, u4]) (h0 : w0.heap.size ≤ gz) (ho : Only g w0 w) :
    Blk (((((w.setCell ⟨gz, 0, none⟩ x0).setCell ⟨gz, 1, none⟩ x1).setCell ⟨gz, 2, none⟩ x2).setCell ⟨gz, 3, none⟩ x3).setCell ⟨gz, 4, none⟩ x4) gz t #[x0, x1, x2, x3, x4] ∧ (∀ b t cs, b ≠ gz → Blk w b t cs → Blk (((((w.setCell ⟨gz, 0, none⟩ x0).setCell ⟨gz, 1, none⟩ x1).setCell ⟨gz, 2, none⟩ x2).setCell ⟨gz, 3, none⟩ x3).setCell ⟨gz, 4, none⟩ x4) b t cs) ∧ Only g w0 (((((w.setCell ⟨gz, 0, none⟩ x0).setCell ⟨gz, 1, none⟩ x1).setCell ⟨gz, 2, none⟩ x2).setCell ⟨gz, 3, none⟩ x3).setCell ⟨gz, 4, none⟩ x4) :=
  ⟨((((hz.set_ 0 x0).set_ 1 x1).set_ 2 x2).set_ 3 x3).set_ 4 x4, fun _ _ _ hb h => ((((h.far hb x0).far hb x1).far hb x2).far hb x3).far hb x4, ((((ho.farSet h0 0 x0).farSet h0 1 x1).farSet h0 2 x2).farSet h0 3 x3).farSet h0 4 x4⟩
theorem zeroCells {w : World} {g : Nat} {t : TypeId} {x y z u v : Value} (h : Blk w g t #[x, y, z, u, v]) : w.cell? ⟨g, 0, none⟩ = some x ∧ w.cell? ⟨g, 1, none⟩ = some y ∧ w.cell? ⟨g, 2, none⟩ = some z ∧ w.cell? ⟨g, 3, none⟩ = some u ∧ w.cell? ⟨g, 4, none⟩ = some v :=
  ⟨h.cell 0, h.cell 1, h.cell 2, h.cell 3, h.cell 4⟩
theorem w8cells {w : World} {g : Nat} {t : TypeId} {a b c d e f i j : Int} (h : Blk w g t #[.int .i64 a, .int .i64 b, .int .i64 c, .int .i64 d, .int .i64 e, .int .i64 f, .int .i64 i, .int .i64 j]) : w.cell? ⟨g, 0, none⟩ = some (.int .i64 a) ∧ w.cell? ⟨g, 1, none⟩ = some (.int .i64 b) ∧ w.cell? ⟨g, 2, none⟩ = some (.int .i64 c) ∧ w.cell? ⟨g, 3, none⟩ = some (.int .i64 d) ∧ w.cell? ⟨g, 4, none⟩ = some (.int .i64 e) ∧ w.cell? ⟨g, 5, none⟩ = some (.int .i64 f) ∧ w.cell? ⟨g, 6, none⟩ = some (.int .i64 i) ∧ w.cell? ⟨g, 7, none⟩ = some (.int .i64 j) :=
  ⟨h.cell 0, h.cell 1, h.cell 2, h.cell 3, h.cell 4, h.cell 5, h.cell 6, h.cell 7⟩

theorem zcells {w : World} {g : Nat} {t : TypeId} (h : Blk w g t #[.int .i64 0, .int .i64 0, .int .i64 0, .slice none 0 0, .slice none 0 0]) : w.cell? ⟨g, 0, none⟩ = some (.int .i64 0) ∧ w.cell? ⟨g, 1, none⟩ = some (.int .i64 0) ∧ w.cell? ⟨g, 2, none⟩ = some (.int .i64 0) ∧ w.cell? ⟨g, 3, none⟩ = some (.slice none 0 0) ∧ w.cell? ⟨g, 4, none⟩ = some (.slice none 0 0) ∧ w.frozen? ⟨g, 0, none⟩ = false ∧ w.frozen? ⟨g, 1, none⟩ = false ∧ w.frozen? ⟨g, 2, none⟩ = false ∧ w.frozen? ⟨g, 3, none⟩ = false ∧ w.frozen? ⟨g, 4, none⟩ = false :=
  ⟨h.cell 0, h.cell 1, h.cell 2, h.cell 3, h.cell 4, h.frozen 0, h.frozen 1, h.frozen 2, h.frozen 3, h.frozen 4⟩

set_option maxRecDepth 100000
section
set_option maxHeartbeats 800000 in
theorem edit_any (w : World) (g : Nat) (s : Int) (h : DiceAt w g s) :
    Calls Try.prog 112 #[.pointer (some ⟨g, 0, none⟩)] w fun e w' => e = .returned (.agg #[.int .i64 (edG s).kind, .int .i64 (edG s).at_, .int .u8 ((edG s).b.toNat : Int)]) ∧ DiceAt w' g (stepI (stepI (stepI s))) ∧ Only g w w' := by
  have hlt := h.1.lt
  have hr1 := below_range s (n := 4) (by omega)
  have hr2 := below_range (stepI s) (n := 12) (by omega)
  have hr3 := below_range (stepI (stepI s)) (n := 256) (by omega)
  have hbv : ((edG s).b.toNat : Int) = belowI (stepI (stepI s)) 256 := byteAt_val (stepI (stepI s)) 0
  rw [hbv]
  show Calls _ _ _ _ fun e w' => e = .returned (.agg #[.int .i64 (belowI s 4), .int .i64 (belowI (stepI s) 12), .int .u8 (belowI (stepI (stepI s)) 256)]) ∧ _
  clear hbv
  have c1 := fun w h => below_any w g s 4 h (by omega) (by omega)
  have c2 := fun w h => below_any w g (stepI s) 12 h (by omega) (by omega)
  have c3 := fun w h => below_any w g (stepI (stepI s)) 256 h (by omega) (by omega)
  generalize belowI s 4 = x1 at *
  generalize belowI (stepI s) 12 = x2 at *
  generalize belowI (stepI (stepI s)) 256 = x3 at *
  have C1 := hid c1
  have C2 := hid c2
  have C3 := hid c3
  clear c1 c2 c3
  go_enter Try.func112, Try.ntmps112
  go_wp2_with fail
  have hd0 : DiceAt ((w.alloc (.cells #[.int .i64 0, .int .i64 0, .int .u8 0] 134)).alloc (.cells #[.int .i64 0, .int .i64 0, .int .u8 0] 134)) g s := h.ext (Ext.trans (ext_alloc _ _) (ext_alloc _ _))
  have ho0 : Only g w ((w.alloc (.cells #[.int .i64 0, .int .i64 0, .int .u8 0] 134)).alloc (.cells #[.int .i64 0, .int .i64 0, .int .u8 0] 134)) := Only.of_ext (Ext.trans (ext_alloc _ _) (ext_alloc _ _))
  have hr0 : Blk ((w.alloc (.cells #[.int .i64 0, .int .i64 0, .int .u8 0] 134)).alloc (.cells #[.int .i64 0, .int .i64 0, .int .u8 0] 134)) w.heap.size 134 #[.int .i64 0, .int .i64 0, .int .u8 0] := (Blk.new _ _ _).ext (ext_alloc _ _)
  have hb0 : Blk ((w.alloc (.cells #[.int .i64 0, .int .i64 0, .int .u8 0] 134)).alloc (.cells #[.int .i64 0, .int .i64 0, .int .u8 0] 134)) (w.heap.size + 1) 134 #[.int .i64 0, .int .i64 0, .int .u8 0] := by
    have := Blk.new (w.alloc (.cells #[.int .i64 0, .int .i64 0, .int .u8 0] 134)) 134 #[.int .i64 0, .int .i64 0, .int .u8 0]
    simpa using this
  generalize (w.alloc (.cells #[.int .i64 0, .int .i64 0, .int .u8 0] 134)).alloc (.cells #[.int .i64 0, .int .i64 0, .int .u8 0] 134) = v0 at *
  have hne : w.heap.size + 1 ≠ g := by omega
  have hne2 : w.heap.size ≠ g := by omega
  refine (C1.out v0 hd0).mono ?_
  rintro e v1 ⟨rfl, hd1, ho1⟩
  have hb1 := hb0.grown ho1 (fun e => hne (by injection e))
  have hr1' := hr0.grown ho1 (fun e => hne2 (by injection e))
  have e1 : v1.cell? ⟨w.heap.size + 1, 0, none⟩ = some (.int .i64 0) := hb1.cell 0
  have f1 := hb1.frozen 0
  go_wp2_with fail
  have hb2 : Blk (v1.setCell ⟨w.heap.size + 1, 0, none⟩ (.int .i64 x1)) (w.heap.size + 1) 134 #[.int .i64 x1, .int .i64 0, .int .u8 0] := hb1.set_ 0 _
  have hr2' := hr1'.far (p := ⟨w.heap.size + 1, 0, none⟩) (by simp) (.int .i64 x1)
  have hd2 := hd1.far (p := ⟨w.heap.size + 1, 0, none⟩) (fun e => hne e.symm) (.int .i64 x1)
  have ho2 := (ho0.trans ho1).farSet (gb := w.heap.size + 1) (by omega) 0 (.int .i64 x1)
  generalize v1.setCell ⟨w.heap.size + 1, 0, none⟩ (.int .i64 x1) = v2 at *
  clear e1 f1 hb1 hr1'
  refine (C2.out v2 hd2).mono ?_
  rintro e v3 ⟨rfl, hd3, ho3⟩
  have hb3 := hb2.grown ho3 (fun e => hne (by injection e))
  have hr3' := hr2'.grown ho3 (fun e => hne2 (by injection e))
  have e3 : v3.cell? ⟨w.heap.size + 1, 1, none⟩ = some (.int .i64 0) := hb3.cell 1
  have f3 := hb3.frozen 1
  go_wp2_with fail
  have hb4 : Blk (v3.setCell ⟨w.heap.size + 1, 1, none⟩ (.int .i64 x2)) (w.heap.size + 1) 134 #[.int .i64 x1, .int .i64 x2, .int .u8 0] := hb3.set_ 1 _
  have hr4' := hr3'.far (p := ⟨w.heap.size + 1, 1, none⟩) (by simp) (.int .i64 x2)
  have hd4 := hd3.far (p := ⟨w.heap.size + 1, 1, none⟩) (fun e => hne e.symm) (.int .i64 x2)
  have ho4 := (ho2.trans ho3).farSet (gb := w.heap.size + 1) (by omega) 1 (.int .i64 x2)
  generalize v3.setCell ⟨w.heap.size + 1, 1, none⟩ (.int .i64 x2) = v4 at *
  clear e3 f3 hb3 hr3'
  refine (C3.out v4 hd4).mono ?_
  rintro e v5 ⟨rfl, hd5, ho5⟩
  have hb5 := hb4.grown ho5 (fun e => hne (by injection e))
  have hr5' := hr4'.grown ho5 (fun e => hne2 (by injection e))
  have e50 : v5.cell? ⟨w.heap.size + 1, 0, none⟩ = some (.int .i64 x1) := hb5.cell 0
  have e51 : v5.cell? ⟨w.heap.size + 1, 1, none⟩ = some (.int .i64 x2) := hb5.cell 1
  have e52 : v5.cell? ⟨w.heap.size + 1, 2, none⟩ = some (.int .u8 0) := hb5.cell 2
  have f5 := hb5.frozen 2
  have q50 : v5.cell? ⟨w.heap.size, 0, none⟩ = some (.int .i64 0) := hr5'.cell 0
  have q51 : v5.cell? ⟨w.heap.size, 1, none⟩ = some (.int .i64 0) := hr5'.cell 1
  have q52 : v5.cell? ⟨w.heap.size, 2, none⟩ = some (.int .u8 0) := hr5'.cell 2
  have g50 := hr5'.frozen 0
  have g51 := hr5'.frozen 1
  have g52 := hr5'.frozen 2
  go_wp2
  have hd6 := hd5.far (p := ⟨w.heap.size + 1, 2, none⟩) (fun e => hne e.symm) (.int .u8 x3)
  have hr6 : Blk ((((v5.setCell ⟨w.heap.size + 1, 2, none⟩ (.int .u8 x3)).setCell ⟨w.heap.size, 0, none⟩ (.int .i64 x1)).setCell ⟨w.heap.size, 1, none⟩ (.int .i64 x2)).setCell ⟨w.heap.size, 2, none⟩ (.int .u8 x3)) w.heap.size 134 #[.int .i64 x1, .int .i64 x2, .int .u8 x3] :=
    (((hr5'.far (p := ⟨w.heap.size + 1, 2, none⟩) (by simp) (.int .u8 x3)).set_ 0 (.int .i64 x1)).set_ 1 (.int .i64 x2)).set_ 2 (.int .u8 x3)
  have hd7 := ((hd6.far (p := ⟨w.heap.size, 0, none⟩) (fun e => hne2 e.symm) (.int .i64 x1)).far (p := ⟨w.heap.size, 1, none⟩) (fun e => hne2 e.symm) (.int .i64 x2)).far (p := ⟨w.heap.size, 2, none⟩) (fun e => hne2 e.symm) (.int .u8 x3)
  have ho7 := ((((ho4.trans ho5).farSet (gb := w.heap.size + 1) (by omega) 2 (.int .u8 x3)).farSet (gb := w.heap.size) (by omega) 0 (.int .i64 x1)).farSet (gb := w.heap.size) (by omega) 1 (.int .i64 x2)).farSet (gb := w.heap.size) (by omega) 2 (.int .u8 x3)
  exact bodyPost_ret (results_cell_row rfl _ _ w.heap.size _ _ (0, 0) _ rfl hr6 Try.underlying134 rfl (by kernel_rfl)) rfl ⟨rfl, hd7, ho7⟩
set_option maxHeartbeats 800000 in
theorem frame_any (w0 w : World) (g gc : Nat) (s k y z : Int) (u v : Value) (h : DiceAt w g s) (hc : Blk w gc 84 #[.int .i64 k, .int .i64 y, .int .i64 z, u, v]) (hne : gc ≠ g) (h0 : w0.heap.size ≤ gc) (ho : Only g w0 w) :
    Calls Try.prog 111 #[.pointer (some ⟨g, 0, none⟩), .pointer (some ⟨gc, 0, none⟩)] w fun e w' => e = .returned (.tuple #[]) ∧ DiceAt w' g (stepI (stepI s)) ∧ Blk w' gc 84 #[.int .i64 k, .int .i64 (belowI s 2), .int .i64 (belowI (stepI s) 4), u, v] ∧ (∀ b t cs, b ≠ g → b ≠ gc → Blk w b t cs → Blk w' b t cs) ∧ Only g w0 w' := by
  have c1 := below_any w g s 2 h (by omega) (by omega)
  have c2 := fun w h => below_any w g (stepI s) 4 h (by omega) (by omega)
  generalize belowI s 2 = x1 at *
  generalize belowI (stepI s) 4 = x2 at *
  have C1 := hid c1
  have C2 := hid c2
  clear c1 c2
  go_enter Try.func111, Try.ntmps111
  go_wp2_with fail
  refine C1.out.mono ?_
  rintro e v1 ⟨rfl, hd1, ho1⟩
  have hb1 := hc.grown ho1 (fun e => hne (by injection e))
  have e1 : v1.cell? ⟨gc, 1, none⟩ = some (.int .i64 y) := hb1.cell 1
  have f1 := hb1.frozen 1
  go_wp2_with fail
  have hb2 : Blk (v1.setCell ⟨gc, 1, none⟩ (.int .i64 x1)) gc 84 #[.int .i64 k, .int .i64 x1, .int .i64 z, u, v] := hb1.set_ 1 _
  have hd2 := hd1.far (p := ⟨gc, 1, none⟩) (fun e => hne e.symm) (.int .i64 x1)
  have ho2 := (ho.trans ho1).farSet h0 1 (.int .i64 x1)
  have hp2 : ∀ b t cs, b ≠ g → b ≠ gc → Blk w b t cs → Blk (v1.setCell ⟨gc, 1, none⟩ (.int .i64 x1)) b t cs := fun b t cs h1 h2 hb => (hb.grown ho1 (fun e => h1 (by injection e))).far h2 _
  generalize v1.setCell ⟨gc, 1, none⟩ (.int .i64 x1) = v2 at *
  clear e1 f1 hb1
  refine (C2.out v2 hd2).mono ?_
  rintro e v3 ⟨rfl, hd3, ho3⟩
  have hb3 := hb2.grown ho3 (fun e => hne (by injection e))
  have e3 : v3.cell? ⟨gc, 2, none⟩ = some (.int .i64 z) := hb3.cell 2
  have f3 := hb3.frozen 2
  go_wp2
  have hb4 : Blk (v3.setCell ⟨gc, 2, none⟩ (.int .i64 x2)) gc 84 #[.int .i64 k, .int .i64 x1, .int .i64 x2, u, v] := hb3.set_ 2 _
  have hd4 := hd3.far (p := ⟨gc, 2, none⟩) (fun e => hne e.symm) (.int .i64 x2)
  have ho4 := (ho2.trans ho3).farSet h0 2 (.int .i64 x2)
  exact ⟨rfl, .tuple #[], by simp [results], rfl, hd4, hb4, fun b t cs h1 h2 hb => ((hp2 b t cs h1 h2 hb).grown ho3 (fun e => h1 (by injection e))).far h2 _, ho4⟩
/-- The choice behind its kind. -/
def chG (k : Int) (s : Int) : Ch × Int :=
  if k = 0 then (⟨k, 0, 0, bytesN ((belowI s 4).toNat + 1) (stepI s), []⟩, stN ((belowI s 4).toNat + 1) (stepI s))
  else if k = 2 ∨ k = 6 then (⟨k, belowI s 2, 0, [], []⟩, stepI s)
  else if k = 3 ∨ k = 4 then (⟨k, belowI s 2, belowI (stepI s) 4, [], []⟩, stepI (stepI s))
  else if k = 5 then (⟨k, belowI s 2, belowI (stepI s) 4, [], [edG (stepI (stepI s))]⟩, stepI (stepI (stepI (stepI (stepI s)))))
  else if k = 7 then (⟨k, 0, 1, [], []⟩, s)
  else (⟨k, 0, 0, [], []⟩, s)
set_option maxHeartbeats 1600000 in
theorem choice_any (w : World) (g : Nat) (s : Int) (a b c d e f i j : Int) (sum : Int) (hw : ∀ x ∈ [a, b, c, d, e, f, i, j], 0 ≤ x ∧ x ≤ 1000) (hs1 : 1 ≤ sum) (hs2 : sum ≤ 8000) (h : DiceAt w g s) :
    Calls Try.prog 96 #[.pointer (some ⟨g, 0, none⟩), w8 a b c d e f i j, .int .i64 sum] w fun r w' => ∃ cs, r = .returned (.agg cs) ∧ repCh.holds w' (fresh w w') cs.toList (chG (kindG [a, b, c, d, e, f, i, j] (belowI s sum) 0) (stepI s)).1 ∧ DiceAt w' g (chG (kindG [a, b, c, d, e, f, i, j] (belowI s sum) 0) (stepI s)).2 ∧ Only g w w' := by
  have hr := below_range s hs1
  have hb := fun w h => below_any w g s sum h hs1 (by omega)
  generalize belowI s sum = n at *
  have hk := fun w => kind_any a b c d e f i j n hr.1 (by omega) hw w
  generalize kindG [a, b, c, d, e, f, i, j] n 0 = k at *
  have HB := hid hb
  have HK := hid hk
  have hlt := h.1.lt
  clear hb hk hw
  go_enter Try.func96, Try.ntmps96
  go_wp2_with fail
  have hd0 : DiceAt ((w.alloc (.cells #[.int .i64 a, .int .i64 b, .int .i64 c, .int .i64 d, .int .i64 e, .int .i64 f, .int .i64 i, .int .i64 j] 76)).alloc (.cells #[.int .i64 0, .int .i64 0, .int .i64 0, .slice none 0 0, .slice none 0 0] 84)) g s := h.ext (Ext.trans (ext_alloc _ _) (ext_alloc _ _))
  have ho0 : Only g w ((w.alloc (.cells #[.int .i64 a, .int .i64 b, .int .i64 c, .int .i64 d, .int .i64 e, .int .i64 f, .int .i64 i, .int .i64 j] 76)).alloc (.cells #[.int .i64 0, .int .i64 0, .int .i64 0, .slice none 0 0, .slice none 0 0] 84)) := Only.of_ext (Ext.trans (ext_alloc _ _) (ext_alloc _ _))
  have hr0 : Blk ((w.alloc (.cells #[.int .i64 a, .int .i64 b, .int .i64 c, .int .i64 d, .int .i64 e, .int .i64 f, .int .i64 i, .int .i64 j] 76)).alloc (.cells #[.int .i64 0, .int .i64 0, .int .i64 0, .slice none 0 0, .slice none 0 0] 84)) (w.heap.size + 1) 84 #[.int .i64 0, .int .i64 0, .int .i64 0, .slice none 0 0, .slice none 0 0] := by
    have := Blk.new (w.alloc (.cells #[.int .i64 a, .int .i64 b, .int .i64 c, .int .i64 d, .int .i64 e, .int .i64 f, .int .i64 i, .int .i64 j] 76)) 84 #[.int .i64 0, .int .i64 0, .int .i64 0, .slice none 0 0, .slice none 0 0]
    simpa using this
  have hw0 : Blk ((w.alloc (.cells #[.int .i64 a, .int .i64 b, .int .i64 c, .int .i64 d, .int .i64 e, .int .i64 f, .int .i64 i, .int .i64 j] 76)).alloc (.cells #[.int .i64 0, .int .i64 0, .int .i64 0, .slice none 0 0, .slice none 0 0] 84)) w.heap.size 76 #[.int .i64 a, .int .i64 b, .int .i64 c, .int .i64 d, .int .i64 e, .int .i64 f, .int .i64 i, .int .i64 j] := (Blk.new _ _ _).ext (ext_alloc _ _)
  have hz0 : ((w.alloc (.cells #[.int .i64 a, .int .i64 b, .int .i64 c, .int .i64 d, .int .i64 e, .int .i64 f, .int .i64 i, .int .i64 j] 76)).alloc (.cells #[.int .i64 0, .int .i64 0, .int .i64 0, .slice none 0 0, .slice none 0 0] 84)).heap.size = w.heap.size + 2 := by simp
  generalize ((w.alloc (.cells #[.int .i64 a, .int .i64 b, .int .i64 c, .int .i64 d, .int .i64 e, .int .i64 f, .int .i64 i, .int .i64 j] 76)).alloc (.cells #[.int .i64 0, .int .i64 0, .int .i64 0, .slice none 0 0, .slice none 0 0] 84)) = v0 at *
  have q0 : v0.cell? ⟨w.heap.size, 0, none⟩ = some (.int .i64 a) := hw0.cell 0
  have q1 : v0.cell? ⟨w.heap.size, 1, none⟩ = some (.int .i64 b) := hw0.cell 1
  have q2 : v0.cell? ⟨w.heap.size, 2, none⟩ = some (.int .i64 c) := hw0.cell 2
  have q3 : v0.cell? ⟨w.heap.size, 3, none⟩ = some (.int .i64 d) := hw0.cell 3
  have q4 : v0.cell? ⟨w.heap.size, 4, none⟩ = some (.int .i64 e) := hw0.cell 4
  have q5 : v0.cell? ⟨w.heap.size, 5, none⟩ = some (.int .i64 f) := hw0.cell 5
  have q6 : v0.cell? ⟨w.heap.size, 6, none⟩ = some (.int .i64 i) := hw0.cell 6
  have q7 : v0.cell? ⟨w.heap.size, 7, none⟩ = some (.int .i64 j) := hw0.cell 7
  have hne2 : w.heap.size ≠ g := by omega
  have hne1 : w.heap.size + 1 ≠ g := by omega
  have hne3 : v0.heap.size ≠ g := by omega
  have hw0d : Blk v0.drew w.heap.size 76 #[.int .i64 a, .int .i64 b, .int .i64 c, .int .i64 d, .int .i64 e, .int .i64 f, .int .i64 i, .int .i64 j] := hw0
  have hw0a : Blk ((v0.alloc (.cells #[.int .i64 0, .int .i64 0, .int .i64 0, .slice none 0 0, .slice none 0 0] 84)).drew) w.heap.size 76 #[.int .i64 a, .int .i64 b, .int .i64 c, .int .i64 d, .int .i64 e, .int .i64 f, .int .i64 i, .int .i64 j] := Blk.alloc hw0 _
  have hd0d : DiceAt v0.drew g s := hd0
  have hd0a : DiceAt ((v0.alloc (.cells #[.int .i64 0, .int .i64 0, .int .i64 0, .slice none 0 0, .slice none 0 0] 84)).drew) g s := ⟨Blk.alloc hd0.1 _, hd0.2⟩
  have hz0a : Blk ((v0.alloc (.cells #[.int .i64 0, .int .i64 0, .int .i64 0, .slice none 0 0, .slice none 0 0] 84)).drew) v0.heap.size 84 #[.int .i64 0, .int .i64 0, .int .i64 0, .slice none 0 0, .slice none 0 0] := Blk.new v0 _ _
  have HZ0 := hid hz0
  clear hz0
  have hg1 : some (w.heap.size + 1) ≠ some g := fun e => hne1 (by injection e)
  have hg2 : some w.heap.size ≠ some g := fun e => hne2 (by injection e)
  have hg3 : some v0.heap.size ≠ some g := fun e => hne3 (by injection e)
  go_upto_region 1 with fail
  go_cut [7] (fun s7 wx => ∃ gc : Nat, s7 = .pointer (some ⟨gc, 0, none⟩) ∧ w.heap.size + 2 ≤ gc ∧ Blk wx gc 84 #[.int .i64 k, .int .i64 0, .int .i64 0, .slice none 0 0, .slice none 0 0] ∧ DiceAt wx g (stepI s) ∧ Blk wx (w.heap.size + 1) 84 #[.int .i64 0, .int .i64 0, .int .i64 0, .slice none 0 0, .slice none 0 0] ∧ Only g w wx)
  case first =>
    go_region_held3 (fun w' => w'.cell? ⟨w.heap.size, 0, none⟩ = some (.int .i64 a) ∧ w'.cell? ⟨w.heap.size, 1, none⟩ = some (.int .i64 b) ∧ w'.cell? ⟨w.heap.size, 2, none⟩ = some (.int .i64 c) ∧ w'.cell? ⟨w.heap.size, 3, none⟩ = some (.int .i64 d) ∧ w'.cell? ⟨w.heap.size, 4, none⟩ = some (.int .i64 e) ∧ w'.cell? ⟨w.heap.size, 5, none⟩ = some (.int .i64 f) ∧ w'.cell? ⟨w.heap.size, 6, none⟩ = some (.int .i64 i) ∧ w'.cell? ⟨w.heap.size, 7, none⟩ = some (.int .i64 j))
      (first | with_reducible exact w8cells hw3 | with_reducible exact w8cells hw2a | with_reducible exact w8cells hw2 | with_reducible exact w8cells hw0a | with_reducible exact w8cells hw0d | with_reducible exact w8cells (Blk.alloc hw3 _) | with_reducible exact w8cells (Blk.far (Blk.far (Blk.far (Blk.far (Blk.far hw3 (by first | exact Nat.ne_of_lt hw2.lt | exact Nat.ne_of_lt hw0.lt) _) (by first | exact Nat.ne_of_lt hw2.lt | exact Nat.ne_of_lt hw0.lt) _) (by first | exact Nat.ne_of_lt hw2.lt | exact Nat.ne_of_lt hw0.lt) _) (by first | exact Nat.ne_of_lt hw2.lt | exact Nat.ne_of_lt hw0.lt) _) (by first | exact Nat.ne_of_lt hw2.lt | exact Nat.ne_of_lt hw0.lt) _))
      (first
        | (go_at_call 60; refine (HB.out _ (by with_reducible assumption)).mono ?_; rintro r w2 ⟨rfl, hd2, ho2⟩; first | (have hw2 := (by with_reducible exact Blk.grown hw0d ho2 hg2 : Blk w2 w.heap.size 76 #[.int .i64 a, .int .i64 b, .int .i64 c, .int .i64 d, .int .i64 e, .int .i64 f, .int .i64 i, .int .i64 j]); have hz2a : Blk (w2.alloc (.cells #[.int .i64 0, .int .i64 0, .int .i64 0, .slice none 0 0, .slice none 0 0] 84)) w2.heap.size 84 #[.int .i64 0, .int .i64 0, .int .i64 0, .slice none 0 0, .slice none 0 0] := Blk.new w2 _ _; have hw2a : Blk (w2.alloc (.cells #[.int .i64 0, .int .i64 0, .int .i64 0, .slice none 0 0, .slice none 0 0] 84)) w.heap.size 76 #[.int .i64 a, .int .i64 b, .int .i64 c, .int .i64 d, .int .i64 e, .int .i64 f, .int .i64 i, .int .i64 j] := Blk.alloc hw2 _) | (have hw2 := (by with_reducible exact Blk.grown hw0a ho2 hg2 : Blk w2 w.heap.size 76 #[.int .i64 a, .int .i64 b, .int .i64 c, .int .i64 d, .int .i64 e, .int .i64 f, .int .i64 i, .int .i64 j]); have hz2 := (by with_reducible exact Blk.grown hz0a ho2 hg3 : Blk w2 v0.heap.size 84 #[.int .i64 0, .int .i64 0, .int .i64 0, .slice none 0 0, .slice none 0 0]); obtain ⟨zc0, zc1, zc2, zc3, zc4, zf0, zf1, zf2, zf3, zf4⟩ := zcells hz2))
        | (go_at_call 109; refine (HK.out _).mono ?_; rintro r w3 ⟨rfl, hx3⟩; first | (have hz3 := (by with_reducible exact Blk.ext hz2 hx3 : Blk w3 v0.heap.size 84 #[.int .i64 0, .int .i64 0, .int .i64 0, .slice none 0 0, .slice none 0 0]); have hw3 := (by with_reducible exact Blk.ext hw2 hx3 : Blk w3 w.heap.size 76 #[.int .i64 a, .int .i64 b, .int .i64 c, .int .i64 d, .int .i64 e, .int .i64 f, .int .i64 i, .int .i64 j]); obtain ⟨zc0, zc1, zc2, zc3, zc4, zf0, zf1, zf2, zf3, zf4⟩ := zcells hz3) | (have hw3 := (by with_reducible exact Blk.ext hw2a hx3 : Blk w3 w.heap.size 76 #[.int .i64 a, .int .i64 b, .int .i64 c, .int .i64 d, .int .i64 e, .int .i64 f, .int .i64 i, .int .i64 j]); have hz3 := (by with_reducible exact Blk.ext hz2a hx3 : Blk w3 w2.heap.size 84 #[.int .i64 0, .int .i64 0, .int .i64 0, .slice none 0 0, .slice none 0 0]); obtain ⟨zc0, zc1, zc2, zc3, zc4, zf0, zf1, zf2, zf3, zf4⟩ := zcells hz3) | (have hw3 := (by with_reducible exact Blk.ext hw2 hx3 : Blk w3 w.heap.size 76 #[.int .i64 a, .int .i64 b, .int .i64 c, .int .i64 d, .int .i64 e, .int .i64 f, .int .i64 i, .int .i64 j]))))
    · have ho3 : Only g w w3 := ((ho0.then (Below.drew (Below.refl _ _))).trans ho2).then hx3
      have hr3 := (Blk.grown (w := v0.drew) hr0 ho2 hg1).ext hx3
      have hd3 := hd2.ext hx3
      have hs02 : v0.heap.size ≤ w2.heap.size := ho2.size
      have hs23 := hx3.size
      have := HZ0.out
      go_wp2_with fail
      go_meet
      exact ⟨w3.heap.size, rfl, by omega, Blk.new _ _ _, hd3.ext (ext_alloc _ _), hr3.alloc _, ho3.then (ext_alloc _ _)⟩
    · have hx23 := Ext.of_alloc hx3
      have ho3 : Only g w w3 := ((ho0.then (Below.drew (Below.refl _ _))).trans ho2).then hx23
      have hr3 := (Blk.grown (w := v0.drew) hr0 ho2 hg1).ext hx23
      have hd3 := hd2.ext hx23
      have hs02 : v0.heap.size ≤ w2.heap.size := ho2.size
      have := HZ0.out
      obtain ⟨p1, p2, p3⟩ := put5 (x0 := .int .i64 k) (x1 := .int .i64 0) (x2 := .int .i64 0) (x3 := .slice none 0 0) (x4 := .slice none 0 0) hz3 (by omega) ho3
      have hd5 := p2 g _ _ (by omega) hd3.1
      have hr5 := p2 _ _ _ (by omega) hr3
      go_wp2_with fail
      go_meet
      exact ⟨_, rfl, by omega, p1, ⟨hd5, hd3.2⟩, hr5, p3⟩
    · have ho3 : Only g w w3 := ((ho0.then (Ext.trans (ext_alloc _ _) (Below.drew (Below.refl _ _)))).trans ho2).then hx3
      have hr3 := (Blk.grown (Blk.drew (Blk.alloc hr0 _)) ho2 hg1).ext hx3
      have hd3 := hd2.ext hx3
      have := HZ0.out
      obtain ⟨p1, p2, p3⟩ := put5 (x0 := .int .i64 k) (x1 := .int .i64 0) (x2 := .int .i64 0) (x3 := .slice none 0 0) (x4 := .slice none 0 0) hz3 (by omega) ho3
      have hd5 := p2 g _ _ (by omega) hd3.1
      have hr5 := p2 _ _ _ (by omega) hr3
      go_wp2_with fail
      go_meet
      exact ⟨_, rfl, by omega, p1, ⟨hd5, hd3.2⟩, hr5, p3⟩
  case rest =>
    obtain ⟨gc, rfl, hgc, hbc, hdc, hbr, hoc⟩ := hcut
    have e0 : wc.cell? ⟨gc, 0, none⟩ = some (.int .i64 k) := hbc.cell 0
    have HCC := hid (zeroCells hbc)
    have hgz := hbr.lt
    by_cases hk0 : k = 0
    · subst hk0
      have hch : chG 0 (stepI s) = (⟨0, 0, 0, bytesN ((belowI (stepI s) 4).toNat + 1) (stepI (stepI s)), []⟩, stN ((belowI (stepI s) 4).toNat + 1) (stepI (stepI s))) := by unfold chG; simp
      have HCH := hid hch
      clear hch
      go_wp2_with fail
      refine (message_any wc g _ hdc).mono ?_
      generalize bytesN ((belowI (stepI s) 4).toNat + 1) (stepI (stepI s)) = bs at *
      generalize stN ((belowI (stepI s) 4).toNat + 1) (stepI (stepI s)) = st at *
      rintro r w4 ⟨u, rfl, hu, hd4, ho4⟩
      obtain ⟨A, q, rfl⟩ := hu.shape
      have hb4 := hbc.grown ho4 (fun e => by injection e with e; omega)
      have hr4 := hbr.grown ho4 hg1
      have ho04 := hoc.trans ho4
      obtain ⟨zc0, zc1, zc2, zc3, zc4, zf0, zf1, zf2, zf3, zf4⟩ := zcells hr4
      obtain ⟨_, yc1, yc2, yc3, yc4⟩ := zeroCells hb4
      have yc0 : w4.cell? ⟨gc, 0, none⟩ = some (.int .i64 0) := hb4.cell 0
      have yf3 := hb4.frozen 3
      go_wp2
      rw [HCH.out]
      have hbr5 := hr4.far (p := ⟨gc, 3, none⟩) (by show w.heap.size + 1 ≠ gc; omega) (.slice A bs.length q)
      have hdc5 := hd4.far (p := ⟨gc, 3, none⟩) (by show g ≠ gc; omega) (.slice A bs.length q)
      have hoc5 := ho04.farSet (gb := gc) (by omega) 3 (.slice A bs.length q)
      have hgcl := hbc.lt
      have hs0 := hoc.size
      obtain ⟨p1, p2, p3⟩ := put5 hbr5 (by omega) hoc5
      refine bodyPost_ret (results_cell_row rfl _ _ (w.heap.size + 1) _ _ (0, 0) _ rfl p1 Try.underlying84 rfl (by kernel_rfl)) rfl ⟨_, rfl, ⟨_, _, rfl, hu.keep fun b hb => ⟨⟨by have := hb.1; omega, by have := hb.2; simpa [World.setCell] using this⟩, fun o => ?_⟩, isSlice_nil _ _ _⟩, ⟨p2 g _ _ (by omega) hdc5.1, hdc5.2⟩, p3⟩
      have hb1 := hb.1
      rw [World.cell?_setCell_other, World.cell?_setCell_other, World.cell?_setCell_other, World.cell?_setCell_other, World.cell?_setCell_other, World.cell?_setCell_other]
      all_goals (intro e; simp only [Addr.mk.injEq] at e; omega)
    by_cases hk2 : k = 2
    · subst hk2
      have hch : chG 2 (stepI s) = (⟨2, belowI (stepI s) 2, 0, [], []⟩, stepI (stepI s)) := by unfold chG; simp
      have HCH := hid hch
      clear hch
      go_wp2_with fail
      refine (below_any wc g _ 2 hdc (by omega) (by omega)).mono ?_
      rintro r w4 ⟨rfl, hd4, ho4⟩
      have hb4 := hbc.grown ho4 (fun e => by injection e with e; omega)
      have hr4 := hbr.grown ho4 hg1
      have ho04 := hoc.trans ho4
      obtain ⟨zc0, zc1, zc2, zc3, zc4, zf0, zf1, zf2, zf3, zf4⟩ := zcells hr4
      obtain ⟨_, yc1, yc2, yc3, yc4⟩ := zeroCells hb4
      have yc0 : w4.cell? ⟨gc, 0, none⟩ = some (.int .i64 2) := hb4.cell 0
      have yf1 := hb4.frozen 1
      generalize belowI (stepI s) 2 = x at *
      go_wp2
      rw [HCH.out]
      have hbr5 := hr4.far (p := ⟨gc, 1, none⟩) (by show w.heap.size + 1 ≠ gc; omega) (.int .i64 x)
      have hdc5 := hd4.far (p := ⟨gc, 1, none⟩) (by show g ≠ gc; omega) (.int .i64 x)
      have hoc5 := ho04.farSet (gb := gc) (by omega) 1 (.int .i64 x)
      obtain ⟨p1, p2, p3⟩ := put5 hbr5 (by omega) hoc5
      exact bodyPost_ret (results_cell_row rfl _ _ (w.heap.size + 1) _ _ (0, 0) _ rfl p1 Try.underlying84 rfl (by kernel_rfl)) rfl ⟨_, rfl, ⟨_, _, rfl, isSlice_nil _ _ _, isSlice_nil _ _ _⟩, ⟨p2 g _ _ (by omega) hdc5.1, hdc5.2⟩, p3⟩
    by_cases hk6 : k = 6
    · subst hk6
      have hch : chG 6 (stepI s) = (⟨6, belowI (stepI s) 2, 0, [], []⟩, stepI (stepI s)) := by unfold chG; simp
      have HCH := hid hch
      clear hch
      go_wp2_with fail
      refine (below_any wc g _ 2 hdc (by omega) (by omega)).mono ?_
      rintro r w4 ⟨rfl, hd4, ho4⟩
      have hb4 := hbc.grown ho4 (fun e => by injection e with e; omega)
      have hr4 := hbr.grown ho4 hg1
      have ho04 := hoc.trans ho4
      obtain ⟨zc0, zc1, zc2, zc3, zc4, zf0, zf1, zf2, zf3, zf4⟩ := zcells hr4
      obtain ⟨_, yc1, yc2, yc3, yc4⟩ := zeroCells hb4
      have yc0 : w4.cell? ⟨gc, 0, none⟩ = some (.int .i64 6) := hb4.cell 0
      have yf1 := hb4.frozen 1
      generalize belowI (stepI s) 2 = x at *
      go_wp2
      rw [HCH.out]
      have hbr5 := hr4.far (p := ⟨gc, 1, none⟩) (by show w.heap.size + 1 ≠ gc; omega) (.int .i64 x)
      have hdc5 := hd4.far (p := ⟨gc, 1, none⟩) (by show g ≠ gc; omega) (.int .i64 x)
      have hoc5 := ho04.farSet (gb := gc) (by omega) 1 (.int .i64 x)
      obtain ⟨p1, p2, p3⟩ := put5 hbr5 (by omega) hoc5
      exact bodyPost_ret (results_cell_row rfl _ _ (w.heap.size + 1) _ _ (0, 0) _ rfl p1 Try.underlying84 rfl (by kernel_rfl)) rfl ⟨_, rfl, ⟨_, _, rfl, isSlice_nil _ _ _, isSlice_nil _ _ _⟩, ⟨p2 g _ _ (by omega) hdc5.1, hdc5.2⟩, p3⟩
    by_cases hk3 : k = 3
    · subst hk3
      have hch : chG 3 (stepI s) = (⟨3, belowI (stepI s) 2, belowI (stepI (stepI s)) 4, [], []⟩, stepI (stepI (stepI s))) := by unfold chG; simp
      have HCH := hid hch
      clear hch
      go_wp2_with fail
      refine (frame_any w wc g gc _ _ _ _ _ _ hdc hbc (by omega) (by omega) hoc).mono ?_
      rintro r w4 ⟨rfl, hd4, hb4, hp4, ho4⟩
      have hr4 := hp4 _ _ _ hne1 (by omega) hbr
      obtain ⟨zc0, zc1, zc2, zc3, zc4, zf0, zf1, zf2, zf3, zf4⟩ := zcells hr4
      obtain ⟨_, yc1, yc2, yc3, yc4⟩ := zeroCells hb4
      have yc0 : w4.cell? ⟨gc, 0, none⟩ = some (.int .i64 3) := hb4.cell 0
      generalize belowI (stepI s) 2 = x at *
      generalize belowI (stepI (stepI s)) 4 = y at *
      go_wp2
      rw [HCH.out]
      obtain ⟨p1, p2, p3⟩ := put5 hr4 (by omega) ho4
      exact bodyPost_ret (results_cell_row rfl _ _ (w.heap.size + 1) _ _ (0, 0) _ rfl p1 Try.underlying84 rfl (by kernel_rfl)) rfl ⟨_, rfl, ⟨_, _, rfl, isSlice_nil _ _ _, isSlice_nil _ _ _⟩, ⟨p2 g _ _ (by omega) hd4.1, hd4.2⟩, p3⟩
    by_cases hk4 : k = 4
    · subst hk4
      have hch : chG 4 (stepI s) = (⟨4, belowI (stepI s) 2, belowI (stepI (stepI s)) 4, [], []⟩, stepI (stepI (stepI s))) := by unfold chG; simp
      have HCH := hid hch
      clear hch
      go_wp2_with fail
      refine (frame_any w wc g gc _ _ _ _ _ _ hdc hbc (by omega) (by omega) hoc).mono ?_
      rintro r w4 ⟨rfl, hd4, hb4, hp4, ho4⟩
      have hr4 := hp4 _ _ _ hne1 (by omega) hbr
      obtain ⟨zc0, zc1, zc2, zc3, zc4, zf0, zf1, zf2, zf3, zf4⟩ := zcells hr4
      obtain ⟨_, yc1, yc2, yc3, yc4⟩ := zeroCells hb4
      have yc0 : w4.cell? ⟨gc, 0, none⟩ = some (.int .i64 4) := hb4.cell 0
      generalize belowI (stepI s) 2 = x at *
      generalize belowI (stepI (stepI s)) 4 = y at *
      go_wp2
      rw [HCH.out]
      obtain ⟨p1, p2, p3⟩ := put5 hr4 (by omega) ho4
      exact bodyPost_ret (results_cell_row rfl _ _ (w.heap.size + 1) _ _ (0, 0) _ rfl p1 Try.underlying84 rfl (by kernel_rfl)) rfl ⟨_, rfl, ⟨_, _, rfl, isSlice_nil _ _ _, isSlice_nil _ _ _⟩, ⟨p2 g _ _ (by omega) hd4.1, hd4.2⟩, p3⟩
    by_cases hk5 : k = 5
    · subst hk5
      have hch : chG 5 (stepI s) = (⟨5, belowI (stepI s) 2, belowI (stepI (stepI s)) 4, [], [edG (stepI (stepI (stepI s)))]⟩, stepI (stepI (stepI (stepI (stepI (stepI s)))))) := by unfold chG; simp
      have HCH := hid hch
      clear hch
      go_wp2_with fail
      refine (frame_any w wc g gc _ _ _ _ _ _ hdc hbc (by omega) (by omega) hoc).mono ?_
      rintro r w4 ⟨rfl, hd4, hb4, hp4, ho4⟩
      have hr4 := hp4 _ _ _ hne1 (by omega) hbr
      have hgc4 := hb4.lt
      generalize belowI (stepI s) 2 = x at *
      generalize belowI (stepI (stepI s)) 4 = y at *
      go_wp2_with fail
      refine (edit_any w4 g _ hd4).mono ?_
      generalize edG (stepI (stepI (stepI s))) = ed at *
      generalize stepI (stepI (stepI (stepI (stepI (stepI s))))) = st at *
      rintro r w5 ⟨rfl, hd5, ho5⟩
      have hb5 := hb4.grown ho5 (fun e => by injection e with e; omega)
      have hr5 := hr4.grown ho5 hg1
      have ho05 := ho4.trans ho5
      have hgc5 := hb5.lt
      obtain ⟨zc0, zc1, zc2, zc3, zc4, zf0, zf1, zf2, zf3, zf4⟩ := zcells hr5
      obtain ⟨yc0, yc1, yc2, yc3, yc4⟩ := zeroCells hb5
      have yf4 := hb5.frozen 4
      have hs0 := ho05.size
      have hr7 : Blk ((w5.setCell ⟨gc, 4, none⟩ (.slice (some ⟨w5.heap.size, 0, none⟩) 1 1)).alloc (.cells #[.int .i64 ed.kind, .int .i64 ed.at_, .int .u8 (ed.b.toNat : Int)] 134)) (w.heap.size + 1) 84 #[.int .i64 0, .int .i64 0, .int .i64 0, .slice none 0 0, .slice none 0 0] := (hr5.far (p := ⟨gc, 4, none⟩) (by show w.heap.size + 1 ≠ gc; omega) _).alloc _
      have hb7 : Blk ((w5.setCell ⟨gc, 4, none⟩ (.slice (some ⟨w5.heap.size, 0, none⟩) 1 1)).alloc (.cells #[.int .i64 ed.kind, .int .i64 ed.at_, .int .u8 (ed.b.toNat : Int)] 134)) gc 84 #[.int .i64 5, .int .i64 x, .int .i64 y, .slice none 0 0, .slice (some ⟨w5.heap.size, 0, none⟩) 1 1] := Blk.alloc (hb5.set_ 4 _) _
      have hd7 : DiceAt ((w5.setCell ⟨gc, 4, none⟩ (.slice (some ⟨w5.heap.size, 0, none⟩) 1 1)).alloc (.cells #[.int .i64 ed.kind, .int .i64 ed.at_, .int .u8 (ed.b.toNat : Int)] 134)) g st := ⟨(hd5.1.far (p := ⟨gc, 4, none⟩) (by show g ≠ gc; omega) _).alloc _, hd5.2⟩
      have ho7 : Only g w ((w5.setCell ⟨gc, 4, none⟩ (.slice (some ⟨w5.heap.size, 0, none⟩) 1 1)).alloc (.cells #[.int .i64 ed.kind, .int .i64 ed.at_, .int .u8 (ed.b.toNat : Int)] 134)) := (ho05.farSet (gb := gc) (by omega) 4 _).then (ext_alloc _ _)
      have hl7 : IsSlice repEd ((w5.setCell ⟨gc, 4, none⟩ (.slice (some ⟨w5.heap.size, 0, none⟩) 1 1)).alloc (.cells #[.int .i64 ed.kind, .int .i64 ed.at_, .int .u8 (ed.b.toNat : Int)] 134)) (fresh w5 ((w5.setCell ⟨gc, 4, none⟩ (.slice (some ⟨w5.heap.size, 0, none⟩) 1 1)).alloc (.cells #[.int .i64 ed.kind, .int .i64 ed.at_, .int .u8 (ed.b.toNat : Int)] 134))) (.slice (some ⟨w5.heap.size, 0, none⟩) 1 1) [ed] := lit_ed (by simp [World.setCell]) (by simp [World.setCell])
      go_upto_region 16 with fail
      generalize ((w5.setCell ⟨gc, 4, none⟩ (.slice (some ⟨w5.heap.size, 0, none⟩) 1 1)).alloc (.cells #[.int .i64 ed.kind, .int .i64 ed.at_, .int .u8 (ed.b.toNat : Int)] 134)) = w7 at *
      clear zc0 zc1 zc2 zc3 zc4 zf0 zf1 zf2 zf3 zf4 yc0 yc1 yc2 yc3 yc4 yf4
      obtain ⟨zc0, zc1, zc2, zc3, zc4, zf0, zf1, zf2, zf3, zf4⟩ := zcells hr7
      obtain ⟨yc0, yc1, yc2, yc3, yc4⟩ := zeroCells hb7
      go_wp2
      rw [HCH.out]
      obtain ⟨p1, p2, p3⟩ := put5 hr7 (by omega) ho7
      refine bodyPost_ret (results_cell_row rfl _ _ (w.heap.size + 1) _ _ (0, 0) _ rfl p1 Try.underlying84 rfl (by kernel_rfl)) rfl ⟨_, rfl, ⟨_, _, rfl, isSlice_nil _ _ _, hl7.keep fun b hb => ⟨⟨by have := hb.1; omega, by have := hb.2; simpa [World.setCell] using this⟩, fun o => ?_⟩⟩, ⟨p2 g _ _ (by omega) hd7.1, hd7.2⟩, p3⟩
      have hb1 := hb.1
      rw [World.cell?_setCell_other, World.cell?_setCell_other, World.cell?_setCell_other, World.cell?_setCell_other, World.cell?_setCell_other]
      all_goals (intro e; simp only [Addr.mk.injEq] at e; omega)
    by_cases hk7 : k = 7
    · subst hk7
      have hch : chG 7 (stepI s) = (⟨7, 0, 1, [], []⟩, stepI s) := by unfold chG; simp
      have HCH := hid hch
      clear hch
      obtain ⟨zc0, zc1, zc2, zc3, zc4, zf0, zf1, zf2, zf3, zf4⟩ := zcells hbr
      obtain ⟨_, yc1, yc2, yc3, yc4⟩ := HCC.out
      have yf2 := hbc.frozen 2
      go_wp2
      rw [HCH.out]
      have hbr5 := hbr.far (p := ⟨gc, 2, none⟩) (by show w.heap.size + 1 ≠ gc; omega) (.int .i64 1)
      have hdc5 := hdc.far (p := ⟨gc, 2, none⟩) (by show g ≠ gc; omega) (.int .i64 1)
      have hoc5 := hoc.farSet (gb := gc) (by omega) 2 (.int .i64 1)
      obtain ⟨p1, p2, p3⟩ := put5 hbr5 (by omega) hoc5
      exact bodyPost_ret (results_cell_row rfl _ _ (w.heap.size + 1) _ _ (0, 0) _ rfl p1 Try.underlying84 rfl (by kernel_rfl)) rfl ⟨_, rfl, ⟨_, _, rfl, isSlice_nil _ _ _, isSlice_nil _ _ _⟩, ⟨p2 g _ _ (by omega) hdc5.1, hdc5.2⟩, p3⟩
    · have hch : chG k (stepI s) = (⟨k, 0, 0, [], []⟩, stepI s) := by unfold chG; rw [if_neg hk0, if_neg (by omega), if_neg (by omega), if_neg hk5, if_neg hk7]
      have HCH := hid hch
      clear hch
      obtain ⟨zc0, zc1, zc2, zc3, zc4, zf0, zf1, zf2, zf3, zf4⟩ := zcells hbr
      obtain ⟨_, yc1, yc2, yc3, yc4⟩ := HCC.out
      go_wp2
      rw [HCH.out]
      obtain ⟨p1, p2, p3⟩ := put5 hbr (by omega) hoc
      exact bodyPost_ret (results_cell_row rfl _ _ (w.heap.size + 1) _ _ (0, 0) _ rfl p1 Try.underlying84 rfl (by kernel_rfl)) rfl ⟨_, rfl, ⟨_, _, rfl, isSlice_nil _ _ _, isSlice_nil _ _ _⟩, ⟨p2 g _ _ (by omega) hdc.1, hdc.2⟩, p3⟩
end
end Go.Proofs.Ytheopadakjojkaa
