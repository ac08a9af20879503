/- The walk of keep.Get: what it gives up by is caught. -/
import Derived.Test.YtjchobncmogcpaaKeepGR
import Derived.Test.YtjchobncmogcpaaKeepGet
namespace Go.Proofs.Ytjchobncmogcpaa
open Go.RowKit
theorem runS_nil {b b' : List UInt8} (h : (runS b).2 = some b') : b' = [] := by
  simp only [runS] at h
  split at h
  · split at h
    · injection h with h; exact h.symm
    · cases h
  · cases h
set_option maxRecDepth 100000
section
set_option maxHeartbeats 2000000 in
theorem kcatch_panicking (w : World) (z ze : Nat) (cs : Array Value) (x : Value) (hz : Blk w z 73 cs) (hcs : cs.size = kZero.size) (he : Blk w ze 28 #[x]) (hne : z ≠ ze) (hx : x.oneCell' = true) (t : TypeId) (pv : Value) (older : List PanicEntry) :
    CallsD Try.prog 97 #[.pointer (some ⟨z, 0, none⟩), .pointer (some ⟨ze, 0, none⟩)] (.panicking ({ v := .iface t pv, recovered := false } :: older)) w fun e u' w' =>
      e = .returned (.tuple #[]) ∧ u' = .panicking ({ v := .iface t pv, recovered := true } :: older) ∧ Blk w' z 73 kZero ∧ Blk w' ze 28 #[.int .i64 40] ∧ ∀ B, B ≤ z → B ≤ ze → Below B w w' := by
  refine callsD_of_wpS Try.func97 rfl fun c₀ cs' hu => ?_
  apply wpS_seq
  apply wpS_region
  simp [wpOpsS, go_sem, recoverD, hu, Try.ntmps97, Exit.thenS]
  refine wpS_cond (t := true) (by simp [Act.eval, Array.replicate]) ?_
  simp only [if_true]
  refine wpS_of_wp ?_
  go_wp2_with (first
    | (refine wpl_row _ _ rfl rfl rfl rfl hz (by kernel_rfl) hcs (kVals_one run0 none none 0 0 0 0) ?_
       intro w5 hb5 ho5
       have g5 := he.grown ho5 (fun e => hne (by injection e with e; exact e.symm))
       have m2 := g5.frozen 0
       have m3 : w5.cell? ⟨ze, 0, none⟩ = some x := g5.cell 0))
  refine ⟨rfl, _, rfl, .tuple #[], by simp [results, Try.results97], rfl, rfl, ?_, ?_, ?_⟩
  · exact hb5.far (p := ⟨ze, 0, none⟩) hne _
  · exact g5.set_ 0 _
  · intro B h1 h2
    exact Below.setCell (Below.grown (Below.refl B w) ho5 (by have := hz.lt; omega) (fun k e => by injection e with e; omega)) h2 _
theorem kcatch_idle (p q : Addr) (w : World) :
    CallsD Try.prog 97 #[.pointer (some p), .pointer (some q)] .returning w fun e u' w' => e = .returned (.tuple #[]) ∧ u' = .returning ∧ w' = w := by
  refine callsD_of_wpS Try.func97 rfl fun c₀ cs hu => ?_
  apply wpS_seq
  apply wpS_region
  simp [wpOpsS, go_sem, recoverD, hu, Try.ntmps97, Exit.thenS]
  refine wpS_cond (t := false) (by simp [Act.eval, Array.replicate]) ?_
  simp only [Bool.false_eq_true, if_false]
  refine wpS_of_wp (wp_skip ?_)
  cases c₀
  simp_all [bodyPostS, results, Try.results97]
set_option maxHeartbeats 4000000 in
theorem kget_any (v : Value) (xs body : List UInt8) (w : World) (h : IsSlice repByte w (all w) v xs) (hl : xs.length ≤ 1000000) (hr : crcCheck xs = some body) :
    Calls Try.prog 35 #[v] w fun e w' => GetsR (some body) w e w' ∧ Ext w w' := by
  have hmf : ∀ (fn : Fn) (first cap : Array Value) (w : World), (Instr.makeFunc fn first cap).run Try.prog w = .ok (.func fn first cap) w := fun _ _ _ _ => rfl
  obtain ⟨w1, hw1⟩ : ∃ w1, w.alloc (.cells kZero 73) = w1 := ⟨_, rfl⟩
  obtain ⟨w2, hw2⟩ : ∃ w2, w1.alloc (.cells #[.int .i64 0] 28) = w2 := ⟨_, rfl⟩
  have hx1 : Ext w w1 := hw1 ▸ ext_alloc _ _
  have hx2 : Ext w1 w2 := hw2 ▸ ext_alloc _ _
  have hb1 : Blk w1 w.heap.size 73 kZero := by rw [← hw1]; exact Blk.new _ _ _
  have hb2 : Blk w2 w1.heap.size 28 #[.int .i64 0] := by rw [← hw2]; exact Blk.new _ _ _
  have hN := hid tabNew_any
  have hne : w.heap.size < w1.heap.size := hb1.lt
  have hbl : body.length ≤ 1000000 := by
    unfold crcCheck at hr
    split at hr
    · cases hr
    · split at hr
      · injection hr with hr
        rw [← hr, List.length_take]
        omega
      · cases hr
  have hC := hid (fun (W : World) (g : Nat) (ht : TabAt W g) (he : Ext w W) => tabCheck_any W g ht v xs body (h.ext he) hl hr)
  obtain ⟨A, c, rfl⟩ := h.shape
  have HBL := hid hbl
  clear h hr hl hbl
  generalize xs.length = n at *
  have HB1 := hid hb1
  unfold kZero kVals run0 at hw1
  dsimp only at hw1
  obtain ⟨R, hR⟩ : ∃ R, R = runS body := ⟨_, rfl⟩
  have HR := hid hR
  clear hR
  go_enter_defers Try.func35, Try.ntmps35
  go_wp2_with (first
    | (go_at_call 91; refine (hN.out _).mono ?_; rintro e w3 ⟨rfl, hta, hx3⟩)
    | (go_at_call 96
       refine (hC.out w3 _ hta (Ext.trans (Ext.trans hx1 hx2) hx3)).mono ?_
       rintro e w4 ⟨u4, rfl, hu4, hx4⟩
       have hx24 := Ext.trans hx3 hx4
       have g1 := hb1.ext (Ext.trans hx2 hx24)
       have g2 := hb2.ext hx24
       obtain ⟨A4, c4, rfl⟩ := hu4.shape
       have hl4 := hid HBL.out
       generalize body.length = n4 at hu4 ⊢)
    | (go_at_call 98
       have hbR := Blk.new w4 164 #[.slice A4 n4 c4]
       have hrR : RdAt (fun k => k = w4.heap.size) (w4.alloc (.cells #[.slice A4 n4 c4] 164)) w4.heap.size body := ⟨_, hbR, hu4.keep fun k hk => ⟨⟨by have h2 : k < w4.heap.size := hk.2; simp; omega, fun e => by have h2 : k < w4.heap.size := hk.2; omega⟩, fun o => (ext_alloc _ _).cell hk.2 o⟩, HBL.out, rfl, fun k hk => by rw [hk]; simp⟩
       have hzr : w.heap.size < w4.heap.size := g1.lt
       have hzr2 : w1.heap.size < w4.heap.size := g2.lt
       refine (krun_any (fun k => k = w4.heap.size) _ w4.heap.size body hrR).mono ?_
       rintro e w5 he
       rw [← HR.out] at he
       rcases he.parts with ⟨hz, he, hoz⟩ | ⟨b5, v5, hs5, rfl, ⟨cs5, rfl, hcs5⟩, hr5, ho5⟩
       · unfold shortP at he
         subst he
         go_wp2_with fail
         have gz := (g1.ext (ext_alloc w4 (.cells #[.slice A4 n4 c4] 164))).grown hoz (fun e => by injection e with e; omega)
         have ge := (g2.ext (ext_alloc w4 (.cells #[.slice A4 n4 c4] 164))).grown hoz (fun e => by injection e with e; omega)
         refine leaves_cons (f := 97) (args := #[.pointer (some ⟨w.heap.size, 0, none⟩), .pointer (some ⟨w1.heap.size, 0, none⟩)]) (by simp) (by simp [go_sem]) ?_
         refine (kcatch_panicking w5 w.heap.size w1.heap.size _ _ gz rfl ge (by omega) rfl _ _ []).mono ?_
         rintro e u' w6 ⟨rfl, rfl, hz6, he6, hbel⟩
         have hcl : w6.cell? ⟨w1.heap.size, 0, none⟩ = some (.int .i64 40) := he6.cell 0
         have hl : (loadVar 28 ⟨w1.heap.size, 0, none⟩).run Try.prog w6 = .ok (.int .i64 40) w6 := by simp [go_sem, hcl]
         refine ⟨_, results_row_cell Try.results35 _ _ w.heap.size w1.heap.size 73 kZero _ _ rfl hz6 Try.underlying73 rfl (by kernel_rfl) rfl hl, .inr ⟨fun b0 e => by injection e with e; subst e; rw [← HR.out]; exact hz.out, rfl⟩, ?_⟩
         exact Below.trans (hoz.ext_new (Ext.trans (Ext.trans (Ext.trans hx1 hx2) hx24) (ext_alloc _ _)) (by omega)) (hbel w.heap.size (Nat.le_refl _) (by omega))
       have gz := (g1.ext (ext_alloc w4 (.cells #[.slice A4 n4 c4] 164))).grown ho5 (fun e => by injection e with e; omega)
       have ge := (g2.ext (ext_alloc w4 (.cells #[.slice A4 n4 c4] 164))).grown ho5 (fun e => by injection e with e; omega)
       have hsV : cs5.size = 9 := by have h9 : cs5.toList.length = 9 := repRun.len hcs5; simpa using h9
       have hsV2 : kZero.size = cs5.size := by rw [hsV]; rfl
       have hiV : (Try.prog.info? 73).map (·.size) = some cs5.size := by rw [hsV]; kernel_rfl
       have hoV : cs5.all (·.oneCell') = true := Array.all_eq_true_iff_forall_mem.2 (fun v hv => repRun.one hcs5 v (by simpa using hv))
       have HsV := hid hsV2
       have HiV := hid hiV
       have HoV := hid hoV
       have HCS := hid hcs5
       have hE5 : Ext w w5 := ho5.ext_new (Ext.trans (Ext.trans (Ext.trans hx1 hx2) hx24) (ext_alloc _ _)) (by omega)
       clear he hsV hsV2 hiV hoV hcs5 hr5)
    | (refine wpl_row (g := w.heap.size) (cs := cs5) _ _ rfl rfl rfl rfl gz HiV.out HsV.out HoV.out ?_
       intro w6 hz6 ho6
       have ge6 := ge.grown ho6 (fun e => by injection e with e; omega)
       have m2 := ge6.frozen 0
       have m3 : w6.cell? ⟨w1.heap.size, 0, none⟩ = some (.int .i64 0) := ge6.cell 0))
  have he6 := ge6.set_ 0 (.int .i64 0)
  have hz7 := hz6.far (p := ⟨w1.heap.size, 0, none⟩) (by show w.heap.size ≠ w1.heap.size; omega) (.int .i64 0)
  refine leaves_cons (f := 97) (args := #[.pointer (some ⟨w.heap.size, 0, none⟩), .pointer (some ⟨w1.heap.size, 0, none⟩)]) (by simp) (by simp [go_sem]) ?_
  refine (kcatch_idle _ _ _).mono ?_
  rintro e u' w7 ⟨rfl, rfl, rfl⟩
  have hcl : (w6.setCell ⟨w1.heap.size, 0, none⟩ (.int .i64 0)).cell? ⟨w1.heap.size, 0, none⟩ = some (.int .i64 0) := he6.cell 0
  have hl : (loadVar 28 ⟨w1.heap.size, 0, none⟩).run Try.prog (w6.setCell ⟨w1.heap.size, 0, none⟩ (.int .i64 0)) = .ok (.int .i64 0) (w6.setCell ⟨w1.heap.size, 0, none⟩ (.int .i64 0)) := by simp [go_sem, hcl]
  refine ⟨_, results_row_cell Try.results35 _ _ w.heap.size w1.heap.size 73 cs5 _ _ rfl hz7 Try.underlying73 rfl HiV.out rfl hl, .inl ⟨body, rfl, ?_, cs5, rfl, ?_⟩, ?_⟩
  · have h1 := hs5.out
    rw [HR.out] at h1
    rw [h1, runS_nil h1]
  · rw [← HR.out]
    refine repRun.keep HCS.out fun k hk => ?_
    have hk1 : (w4.alloc (.cells #[.slice A4 n4 c4] 164)).heap.size ≤ k := hk.1
    have hk2 : k < w5.heap.size := hk.2
    simp at hk1
    refine ⟨⟨by omega, by have := ho6.size; simp only [World.setCell, Array.size_modify]; omega⟩, fun o => World.cell?_of_block ?_⟩
    rw [Below.heap_setCell w6 _ _ k (by show k ≠ w1.heap.size; omega), ho6.block k hk2 (fun e => by injection e with e; omega)]
  · exact Below.setCell (ho6.ext_new hE5 (Nat.le_refl _)) (by show w.heap.size ≤ w1.heap.size; omega) _
end
end Go.Proofs.Ytjchobncmogcpaa
