/- The pusher: State, Timers, Tick. -/
import Derived.Test.YtimlbebockfioaaPusher6
namespace Go.Proofs.Ytimlbebockfioaa
open Go.RowKit

def dueN (T : List Tm) : List Nat := (dueT T).map Int.toNat
theorem dueT_mem {T : List Tm} {k : Int} (h : k ∈ dueT T) : k ∈ T.map (·.key) := by
  obtain ⟨t, ht, rfl⟩ := List.mem_map.1 h
  exact mem_key (List.mem_filter.1 ht).1
theorem dueN_is {W R : Nat} {most : Int} {s : Ps} (h : PsOk W R most s) : dueT s.T = natsI (dueN s.T) := by
  unfold natsI dueN
  rw [List.map_map]
  refine (List.map_id _).symm.trans (List.map_congr_left fun k hk => ?_)
  have := h.keyB k (dueT_mem hk)
  show k = ((k.toNat : Nat) : Int)
  omega
theorem dueN_in {W R : Nat} {most : Int} {s : Ps} (h : PsOk W R most s) : ∀ p ∈ dueN s.T, s.base ≤ p ∧ p < s.acc.length := fun p hp => by
  obtain ⟨k, hk, rfl⟩ := List.mem_map.1 hp
  have := h.keyB k (dueT_mem hk)
  have := h.nl
  omega
theorem dueN_len (T : List Tm) : (dueN T).length ≤ T.length := by unfold dueN; rw [List.length_map]; exact dueT_len T
set_option maxRecDepth 100000
section
set_option maxHeartbeats 1000000 in
theorem psState_any (F : Nat → Prop) (w : World) (gp gt b : Nat) (c : Cfg) (s : Ps) (h : PsAt F w gp gt b c s) (hb : s.base ≤ s.acc.length) (hl : s.acc.length ≤ 1000000) :
    Calls Try.prog 11 #[.pointer (some ⟨gp, 0, none⟩)] w fun e w' => e = .returned (.agg #[.int .i64 (s.acc.length : Int), .int .i64 (s.base : Int), .int .i64 (s.next : Int)]) ∧ Ext w w' := by
  have hx1 := ext_alloc w (.cells #[.int .i64 0, .int .i64 0, .int .i64 0] 34)
  have h1 := h.ext hx1
  have HI := hid (psIs_any F _ gp gt b c s h1)
  obtain ⟨lv, hbk, _⟩ := h.is
  have hgl := hbk.lt
  have hbb := Blk.new w 34 #[.int .i64 0, .int .i64 0, .int .i64 0]
  obtain ⟨L, hL⟩ : ∃ L : Int, L = (s.acc.length : Int) := ⟨_, rfl⟩
  obtain ⟨B, hB⟩ : ∃ B : Int, B = (s.base : Int) := ⟨_, rfl⟩
  obtain ⟨X, hX⟩ : ∃ X : Int, X = (s.next : Int) := ⟨_, rfl⟩
  obtain ⟨_, _, _, _, c8, c9, _, _, _, _⟩ := psCellsAt hbk
  rw [← hL, ← hB, ← hX]
  rw [← hB] at c8
  rw [← hX] at c9
  have HACC := hid fun (W : World) (he : Ext w W) => psAccepted_any F W gp gt b c s (h.ext he) hb hl
  rw [← hL] at HACC
  have HS := hid (fun (W : World) (he : Ext w W) => (⟨(he.cell hgl 8).trans c8, (he.cell hgl 9).trans c9⟩ :
    W.cell? ⟨gp, 8, none⟩ = some (.int .i64 B) ∧ W.cell? ⟨gp, 9, none⟩ = some (.int .i64 X)))
  clear h h1 hb hl hbk hL hB hX c8 c9
  go_enter Try.func11, Try.ntmps11
  go_upto_region 3 with (first
    | (go_at_call 36; refine HI.out.mono ?_; rintro e w2 ⟨rfl, rfl⟩))
  generalize w.alloc (.cells #[.int .i64 0, .int .i64 0, .int .i64 0] 34) = w1 at *
  have xd : Ext w w1.drew := Ext.trans hx1 (Below.drew (Below.refl _ _))
  have HBB := hid hbb
  have hgs := hbb.lt
  clear hbb
  go_region_held3 (fun W => W.cell? ⟨gp, 8, none⟩ = some (.int .i64 B) ∧ W.cell? ⟨gp, 9, none⟩ = some (.int .i64 X))
    (first | exact HS.out _ xd | exact HS.out _ x3 | (refine HS.out _ ?_; repeat (first | exact xd | exact x3 | exact hx1 | refine Below.drew ?_ | refine Below.setCell ?_ (by simp) _ | refine Below.alloc ?_ (by simp) _)))
    (first
      | (go_at_call 37; refine (HACC.out _ xd).mono ?_; rintro r w3 ⟨rfl, hn3⟩; have hd3 : Ext w1 w3 := (by obtain ⟨n3, rfl⟩ := hn3; exact Ext.trans (Below.drew (Below.refl _ _)) (ext_drewN _ n3)); clear hn3; have x3 := Ext.trans hx1 hd3; have hb3 := HBB.out.ext hd3; have z0 := hb3.cell 0; have z1 := hb3.cell 1; have z2 := hb3.cell 2; have y0 := hb3.frozen 0; have y1 := hb3.frozen 1; have y2 := hb3.frozen 2))
  all_goals
    have hb6 : Blk (((w3.setCell ⟨w.heap.size, 0, none⟩ (.int .i64 L)).setCell ⟨w.heap.size, 1, none⟩ (.int .i64 B)).setCell ⟨w.heap.size, 2, none⟩ (.int .i64 X)) w.heap.size 34 #[.int .i64 L, .int .i64 B, .int .i64 X] := ((hb3.set_ 0 (.int .i64 L)).set_ 1 (.int .i64 B)).set_ 2 (.int .i64 X)
    have ho6 : Only w.heap.size w3 (((w3.setCell ⟨w.heap.size, 0, none⟩ (.int .i64 L)).setCell ⟨w.heap.size, 1, none⟩ (.int .i64 B)).setCell ⟨w.heap.size, 2, none⟩ (.int .i64 X)) := (((Only.refl _ _).set_ _ _).set_ _ _).set_ _ _
    have hx6 := ho6.ext_new x3 (Nat.le_refl _)
    clear ho6 z0 z1 z2 y0 y1 y2 hb3
    go_wp2_with fail
    exact bodyPost_ret (results_cell_row rfl _ _ w.heap.size _ _ (0, 0) _ rfl hb6 Try.underlying34 rfl (by kernel_rfl)) rfl ⟨rfl, hx6⟩
theorem psTimers_any (F : Nat → Prop) (w : World) (gp gt b : Nat) (c : Cfg) (s : Ps) (h : PsAt F w gp gt b c s) (ht : TmOk c.b s.T) (hn : s.T.length ≤ 1000) :
    Calls Try.prog 13 #[.pointer (some ⟨gp, 0, none⟩)] w fun e w' => ∃ u, e = .returned u ∧ IsSlice (repInt .i64) w' (fresh w w') u (s.T.map (·.key)) ∧ Ext w w' := by
  have HI := hid (psIs_any F _ gp gt b c s h)
  have HK := hid (tmKeys_any w gt b c.b s.T h.tm ht hn)
  obtain ⟨lv, hbk, _⟩ := h.is
  obtain ⟨_, _, _, _, _, _, c10, _, _, _⟩ := psCellsAt hbk
  clear h ht hn hbk
  go_enter Try.func13, Try.ntmps13
  go_wp2_with (first
    | (go_at_call 36; refine HI.out.mono ?_; rintro e w2 ⟨rfl, rfl⟩)
    | (go_at_call 38; refine HK.out.mono ?_; rintro e w3 ⟨u, rfl, hu, hx3⟩))
  go_ret
  exact ⟨u, rfl, hu, hx3⟩
theorem psTick_any (F : Nat → Prop) (w : World) (gp gt b : Nat) (c : Cfg) (s : Ps) (W R : Nat) (h : PsAt F w gp gt b c s) (hok : c.Ok) (ok : PsOk W R c.b s) (hl : s.acc.length ≤ 1000000) (hT : s.T.length ≤ 1000) (hb64 : c.b ≤ 64) :
    Calls Try.prog 17 #[.pointer (some ⟨gp, 0, none⟩)] w fun e w' => ∃ u, e = .returned u ∧ IsSlice repSl w' (fresh w w') u ((dueN s.T).map (slideOf c.m s)) ∧ PsAt F w' gp gt b c ⟨s.acc, s.base, s.next, tickT c.b s.T⟩ ∧ Only b w w' := by
  have HI := hid (psIs_any F _ gp gt b c s h)
  have HT := hid (tmTick_any w gt b c.b s.T h.tm ok.tm hT hb64)
  have hdue := dueN_is ok
  have hdb := dueN_in ok
  have hdl := dueN_len s.T
  obtain ⟨lv, hbk, _⟩ := h.is
  obtain ⟨_, _, _, _, _, _, c10, _, _, _⟩ := psCellsAt hbk
  have HH := hid h
  have HSENT := hid fun (W3 : World) (h3 : PsAt F W3 gp gt b c ⟨s.acc, s.base, s.next, tickT c.b s.T⟩) (v : Value) => psSent_any F W3 gp gt b c _ h3 hok.m2 (dueN s.T) hdb hl ok.short (by omega) v
  rw [hdue] at HT
  clear h hok ok hl hT hbk hdue hdb hdl
  go_enter Try.func17, Try.ntmps17
  go_wp2_with (first
    | (go_at_call 36; refine HI.out.mono ?_; rintro e w2 ⟨rfl, rfl⟩)
    | (go_at_call 44; refine HT.out.mono ?_; rintro e w3 ⟨u, rfl, hu, ht3, ho3⟩)
    | (go_at_call 43; refine (HSENT.out _ (HH.out.timer ho3 ht3) _ hu.any).mono ?_; rintro e w4 ⟨u4, rfl, hu4, hx4⟩))
  go_ret
  exact ⟨u4, rfl, hu4.sinceSz ho3.size, (HH.out.timer ho3 ht3).ext hx4, ho3.then hx4⟩
end
end Go.Proofs.Ytimlbebockfioaa
