/- The walk of the reference's Step. -/
import Derived.Test.YtjchobncmogcpaaIdealR
namespace Go.Proofs.Ytjchobncmogcpaa
open Go.RowKit

section
variable {P : Program} {α : Type} {r : Rep α} {w : World} {ops : Array Oper} {o : Oper} {a : Act} {K : Act → World → Prop} {Q : Exit → Act → World → Prop} {E : Prop}
/-- 'append(out, x)' behind the new block, as a step of a region; and where the row lies. -/
theorem step_app1m {base g : Nat} {t e : TypeId} {bytes : Nat} {v : Value} {xs : List α} {x : α} {cs : Array Value} (s y : Operand) (hgd : o.guard = none)
    (ho : o.op = .call { callee := .builtin .append, args := #[s, y], argTypes := #[t, t] }) (ht : P.underlying t = some (.slice e)) (hi : ElemInfo P e r.size bytes) (hsz : 0 < r.size)
    (hown : Own r e base w v xs) (hs : a.eval s = v) (hx : a.eval y = .slice (some ⟨g, 0, none⟩) 1 1) (hg : g = w.heap.size) (hu : r.holds w (el base w v) cs.toList x)
    (hbytes : (xs.length + 1) * bytes ≤ 140737488355328) (h63 : xs.length + 1 ≤ maxLen) (hbase : base ≤ w.heap.size)
    (h : ∀ v' w', Own r e base w' v' (xs ++ [x]) → w.grownBy w' v.ownBlock → (v'.ownBlock = v.ownBlock ∨ v'.ownBlock = some (w.heap.size + 1)) → K (a.put o.dst v') w') : if Region.wanted o (yielded ops a.tmps) = true then o.wp P a (w.alloc (.cells cs e)) K Q else E := by
  have hw : Region.wanted o (yielded ops a.tmps) = true := by simp [Region.wanted, hgd]
  rw [if_pos hw]
  subst hg
  refine wp_app s y ho ht hi hsz (hown.ext (ext_alloc w _)) (isSlice_one hu fun k hk => (hown.lt k hk).2) hs hx hbytes h63 (by simp; omega) fun v' w' h1 h2 h3 => h v' w' h1 ?_ (by simpa using h3)
  refine ⟨h2.os, h2.tape, h2.output, Nat.le_trans (by simp) h2.size, fun k hk hne => (h2.block k (by simp; omega) hne).trans (Below.heap_alloc w _ k hk)⟩
end
abbrev AtIn (gr : Nat) (w : World) (v : Value) : Nat → Prop := fun b => (b ≠ gr ∧ gr ≤ b + 1) ∧ b < w.heap.size ∧ v.ownBlock ≠ some b
/-- The places stay where they lie while the sent row grows, or moves. -/
theorem atIn_grow {gr : Nat} {w w' : World} {v v' u : Value} {ks : List Int} (h : IsSlice (repInt .i64) w (AtIn gr w v) u ks) (hg : w.grownBy w' v.ownBlock) (hb : v'.ownBlock = v.ownBlock ∨ v'.ownBlock = some (w.heap.size + 1)) : IsSlice (repInt .i64) w' (AtIn gr w' v') u ks :=
  h.keep fun b hb' => ⟨⟨hb'.1, Nat.lt_of_lt_of_le hb'.2.1 hg.size, fun e => by
    rcases hb with h1 | h1
    · rw [h1] at e; exact hb'.2.2 e
    · rw [h1] at e; injection e with e; have := hb'.2.1; omega⟩, fun o => World.cell?_of_block (hg.block b hb'.2.1 (fun e => hb'.2.2 e.symm))⟩
theorem atIn_set {gr : Nat} {w : World} {v u : Value} {ks : List Int} (h : IsSlice (repInt .i64) w (AtIn gr w v) u ks) (i : Nat) (x : Value) : IsSlice (repInt .i64) (w.setCell ⟨gr, i, none⟩ x) (AtIn gr (w.setCell ⟨gr, i, none⟩ x) v) u ks :=
  h.keep fun b hb => ⟨⟨hb.1, Nat.lt_of_lt_of_le hb.2.1 (by simp [World.setCell]), hb.2.2⟩, fun o => World.cell?_of_block (Below.heap_setCell w _ x b hb.1.1)⟩
abbrev LowR (gr : Nat) (w w' : World) : Prop := Below gr w w'
theorem lowR_ext {gr : Nat} {w w' : World} (h : Ext w w') (hq : gr < w.heap.size) : LowR gr w w' := ⟨h.os, h.tape, h.output, h.size, fun k hk => h.block k (by omega)⟩
theorem lowR_only {gr : Nat} {w w' : World} (h : Only gr w w') (hq : gr < w.heap.size) : LowR gr w w' := ⟨h.os, h.tape, h.output, h.size, fun k hk => h.block k (by omega) (fun e => by injection e with e; omega)⟩

set_option maxRecDepth 100000
section
set_option maxHeartbeats 2000000 in
theorem stepR0_any (w : World) (gr base : Nat) (s : Iq) (h : RqAt w gr base s) (hstk : s.stuck = false) (hn : s.sent.length ≤ 900) (st pl : Int) (dv : Value) (data : List UInt8) (hd : IsSlice repByte w (all w) dv data) (hdl : data.length ≤ 16777216) :
    Calls Try.prog 59 #[.pointer (some ⟨gr, 0, none⟩), .agg #[.int .i64 st, .int .i64 0, .int .i64 pl, dv]] w fun e w' => e = .returned (.bool true) ∧ RqAt w' gr base { s with sent := s.sent ++ [data] } ∧ LowR gr w w' := by
  obtain ⟨Ad, cd, rfl⟩ := hd.shape
  obtain ⟨dl, hdle⟩ : ∃ dl, dl = data.length := ⟨_, rfl⟩
  rw [← hdle] at hd ⊢
  have HDL := hid hdle
  have hx1 := ext_alloc w (.cells #[.int .i64 st, .int .i64 0, .int .i64 pl, .slice Ad dl cd] 119)
  have hbe := Blk.new w 119 #[.int .i64 st, .int .i64 0, .int .i64 pl, .slice Ad dl cd]
  have h1 := h.ext hx1
  have hd1 := hd.ext hx1
  have hlow1 := lowR_ext hx1 (Nat.lt_of_lt_of_le h.q h.sz)
  clear hdle
  obtain ⟨hqb, hbz, v, u, hb, hown, hu⟩ := h1
  obtain ⟨Av, cv, rfl, _⟩ := hown.form
  have hcl := rqCells hb
  rw [hstk] at hcl
  obtain ⟨c0, c1, c2, c3, c4⟩ := hcl
  have b1 := hbe.cell 1
  have b3 := hbe.cell 3
  go_enter Try.func59, Try.ntmps59
  go_wp2_with fail
  generalize (w.alloc (.cells #[.int .i64 st, .int .i64 0, .int .i64 pl, .slice Ad dl cd] 119)) = w1 at *
  generalize hgs : w.heap.size = gs at *
  have HGS := hid hgs
  clear hgs b1 hbe
  have HC := hid (fun (W : World) (he : Ext w1 W) => copyB_any _ _ W (hd1.ext he) (by have := HDL.out; omega))
  have xd : Ext w1 w1.drew := Below.drew (Below.refl _ _)
  go_region_law (first
    | (go_simp; go_at_call 112; refine (HC.out _ xd).mono ?_; rintro r w3 ⟨u3, rfl, hu3, hx3⟩; have x13 := Ext.trans xd hx3; have hu4 := (hu3.since xd).newer hown.lt hbz; clear hu3; obtain ⟨Au, cu, rfl⟩ := hu4.shape; have hb3 := hb.ext x13; have c23 := (rqCells hb3).2.2.1; have hown3 := hown.ext x13; have c2b : (w3.alloc (.cells #[.slice Au data.length cu] 33)).cell? ⟨gr, 2, none⟩ = some (.slice Av s.sent.length cv) := (World.cell?_alloc_lt w3 _ _ hb3.lt).trans c23; dsimp only)
    | (refine step_app1m (r := repSlice repByte) (base := base) (x := data) (cs := #[.slice Au data.length cu]) _ _ rfl rfl Try.underlying25 info_bytes (by decide) hown3 rfl rfl rfl (isSlice_single hu4) (by omega) (by simp only [maxLen]; omega) (Nat.le_trans hbz x13.size) ?_; intro v4 w4 hown4 hg4 hb44; obtain ⟨A4, c4', rfl, _⟩ := hown4.form; have hb4 := hb3.grown hg4 (fun e => by have := (hown.lt gr e.symm).1; omega); have c24 := (rqCells hb4).2.2.1; have k24 := hb4.frozen 2; have c14 := (rqCells hb4).2.1; rw [hstk] at c14))
  all_goals
    go_wp2
    go_ret
    have hown5 : Own (repSlice repByte) 33 base w4 (.slice A4 (s.sent.length + 1) c4') (s.sent ++ [data]) := by simpa using hown4
    have hos : Only gr w4 (w4.setCell ⟨gr, 2, none⟩ (.slice A4 (s.sent.length + 1) c4')) := (Only.refl _ _).set_ _ _
    have hu5 := hu.keep (w' := _) (S' := AtIn gr _ (.slice Av s.sent.length cv)) (fun b hb => ⟨⟨hb.1, Nat.lt_of_lt_of_le hb.2.1 x13.size, hb.2.2⟩, fun _ => x13.cell hb.2.1 _⟩)
    have hu6 := atIn_set (atIn_grow hu5 hg4 hb44) 2 (.slice A4 (s.sent.length + 1) c4')
    have hobe : (Value.slice A4 (s.sent ++ [data]).length c4').ownBlock = (Value.slice A4 (s.sent.length + 1) c4').ownBlock := by simp
    have hlow4 : LowR gr _ w4 := ⟨hg4.os, hg4.tape, hg4.output, hg4.size, fun k hk => hg4.block k (by have := hb3.lt; omega) (fun e => by have := (hown.lt k e.symm).1; omega)⟩
    exact ⟨rfl, ⟨hqb, Nat.le_trans hbz (Nat.le_trans x13.size (Nat.le_trans hg4.size hos.size)), _, _, hb4.set_ 2 _, hown5.out (X := fun b => b = gr) (Out.of_only hos rfl) (fun b hb => by omega), hu6.keep (fun b hb => ⟨⟨hb.1, hb.2.1, by have h2 := hb.2.2; rw [hobe] at h2; exact h2⟩, fun _ => rfl⟩)⟩,
      Below.trans (Below.trans (Below.trans hlow1 (lowR_ext x13 hb.lt)) hlow4) (lowR_only hos hb4.lt)⟩
end
end Go.Proofs.Ytjchobncmogcpaa
