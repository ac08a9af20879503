/- The walks of ideal's Step, New, Accepts. -/
import Derived.Deep.DeepCutAuto
import Derived.Test.YtjchobncmogcpaaIdeal2
import Derived.Test.YtjchobncmogcpaaApi
namespace Go.Proofs.Ytjchobncmogcpaa
open Go.RowKit

section
variable {P : Program} {α : Type} {r : Rep α} {w : World} {ops : Array Oper} {o : Oper} {a : Act} {K : Act → World → Prop} {Q : Exit → Act → World → Prop} {E : Prop}
/-- 'append(out, x)' behind the new block, as a step of a region. -/
theorem step_app1 {base g : Nat} {t e : TypeId} {bytes : Nat} {v : Value} {xs : List α} {x : α} {cs : Array Value} (s y : Operand) (hgd : o.guard = none)
    (ho : o.op = .call { callee := .builtin .append, args := #[s, y], argTypes := #[t, t] }) (ht : P.underlying t = some (.slice e)) (hi : ElemInfo P e r.size bytes) (hsz : 0 < r.size)
    (hown : Own r e base w v xs) (hs : a.eval s = v) (hx : a.eval y = .slice (some ⟨g, 0, none⟩) 1 1) (hg : g = w.heap.size) (hu : r.holds w (el base w v) cs.toList x)
    (hbytes : (xs.length + 1) * bytes ≤ 140737488355328) (h63 : xs.length + 1 ≤ maxLen) (hbase : base ≤ w.heap.size)
    (h : ∀ v' w', Own r e base w' v' (xs ++ [x]) → w.grownBy w' v.ownBlock → K (a.put o.dst v') w') : if Region.wanted o (yielded ops a.tmps) = true then o.wp P a (w.alloc (.cells cs e)) K Q else E := by
  have hw : Region.wanted o (yielded ops a.tmps) = true := by simp [Region.wanted, hgd]
  rw [if_pos hw]
  subst hg
  refine wp_app s y ho ht hi hsz (hown.ext (ext_alloc w _)) (isSlice_one hu fun k hk => (hown.lt k hk).2) hs hx hbytes h63 (by simp; omega) fun v' w' h1 h2 _ => h v' w' h1 ?_
  refine ⟨h2.os, h2.tape, h2.output, Nat.le_trans (by simp) h2.size, fun k hk hne => (h2.block k (by simp; omega) hne).trans (Below.heap_alloc w _ k hk)⟩
end

/-- What is below all that a queue has. -/
abbrev LowI (gq gm : Nat) (w w' : World) : Prop := Below (min gq gm) w w'
theorem lowI_ext {gq gm : Nat} {w w' : World} (h : Ext w w') (hq : gq < w.heap.size) : LowI gq gm w w' := ⟨h.os, h.tape, h.output, h.size, fun k hk => h.block k (by omega)⟩
theorem lowI_out {gq gm : Nat} {w w' : World} (h : Out (fun b => b = gq ∨ b = gm) w w') (hq : gq < w.heap.size) : LowI gq gm w w' := ⟨h.os, h.tape, h.output, h.size, fun k hk => h.block k (by omega) (by omega)⟩

/-- An event is told. -/
def stepS (s : Iq) (kind : Int) (data : List UInt8) : Iq :=
  if s.stuck = true then s else if kind = 0 then { s with sent := s.sent ++ [data] } else if kind = 2 then retS s data else if kind = 5 ∧ s.lossy = true then { s with lost := s.sent.length } else s
theorem stepS_ok {s : Iq} (h : s.Ok) (kind : Int) (data : List UInt8) : (stepS s kind data).Ok := by
  unfold stepS
  split
  · exact h
  · split
    · exact ⟨h.asc, fun k hk => by have := h.bnd k hk; simp; omega, h.lost0, by have := h.lost1; simp; omega⟩
    · split
      · exact retS_ok h data
      · split
        · exact ⟨h.asc, h.bnd, by simp, by simp⟩
        · exact h
theorem stepS_len (s : Iq) (kind : Int) (data : List UInt8) : (stepS s kind data).sent.length ≤ s.sent.length + 1 := by
  unfold stepS
  split
  · omega
  · split
    · simp
    · split
      · simp [retS]
      · split <;> simp

set_option maxRecDepth 100000
section
set_option maxHeartbeats 2000000 in
theorem step_any (w : World) (gq gm base : Nat) (s : Iq) (h : IqAt w gq gm base s) (hs : s.Ok) (hn : s.sent.length ≤ 900) (st kind pl : Int) (dv : Value) (data : List UInt8) (hd : IsSlice repByte w (all w) dv data) (hdl : data.length ≤ 16777216) :
    Calls Try.prog 58 #[.pointer (some ⟨gq, 0, none⟩), .agg #[.int .i64 st, .int .i64 kind, .int .i64 pl, dv]] w fun e w' => e = .returned (.bool (!(stepS s kind data).stuck)) ∧ IqAt w' gq gm base (stepS s kind data) ∧ LowI gq gm w w' := by
  have hx1 := ext_alloc w (.cells #[.int .i64 st, .int .i64 kind, .int .i64 pl, dv] 119)
  have hbe := Blk.new w 119 #[.int .i64 st, .int .i64 kind, .int .i64 pl, dv]
  have h1 := h.ext hx1
  have hd1 := hd.ext hx1
  have HI := hid (isI_any _ gq gm base s h1)
  obtain ⟨hne, hqb, hmb, hbz, ⟨v, hb, hown⟩, L, hmap, hL⟩ := id h1
  obtain ⟨_, c1, c2, c3, c4⟩ := iqCells hb
  have c0 : _ := (iqCells hb).1
  have hlow1 : LowI gq gm w (w.alloc (.cells #[.int .i64 st, .int .i64 kind, .int .i64 pl, dv] 119)) := lowI_ext hx1 (Nat.lt_of_lt_of_le hqb h.sz)
  obtain ⟨Ad, cd, rfl⟩ := hd.shape
  have b1 := hbe.cell 1
  have b3 := hbe.cell 3
  generalize hST : stepS s kind data = S1
  have HST := hid hST
  clear hST
  cases hstk : s.stuck with
  | true =>
    have hS1 : S1 = s := by rw [← HST.out]; unfold stepS; rw [if_pos hstk]
    subst hS1
    rw [hstk] at c1 ⊢
    clear hbe
    go_enter Try.func58, Try.ntmps58
    go_wp2_with (go_at_call 110; refine HI.out.mono ?_; rintro e w2 ⟨rfl, rfl⟩)
    go_ret
    exact ⟨rfl, h1, hlow1⟩
  | false =>
    rw [hstk] at c1
    by_cases hk0 : kind = 0
    · have hS1 : S1 = { s with sent := s.sent ++ [data] } := by rw [← HST.out]; unfold stepS; rw [if_neg (by rw [hstk]; simp), if_pos hk0]
      have HS1 := hid hS1
      have hS1s : S1.stuck = false := by rw [hS1]; exact hstk
      rw [hS1s]
      clear hS1 hS1s
      subst hk0
      have b1' : (w.alloc (.cells #[.int .i64 st, .int .i64 0, .int .i64 pl, .slice Ad data.length cd] 119)).cell? ⟨w.heap.size, 1, none⟩ = some (.int .i64 0) := b1
      go_enter Try.func58, Try.ntmps58
      go_wp2_with (go_at_call 110; refine HI.out.mono ?_; rintro e w2 ⟨rfl, rfl⟩)
      have hx1' : Ext w (w.alloc (.cells #[.int .i64 st, .int .i64 0, .int .i64 pl, .slice Ad data.length cd] 119)) := hx1
      have hsz1 : w.heap.size < (w.alloc (.cells #[.int .i64 st, .int .i64 0, .int .i64 pl, .slice Ad data.length cd] 119)).heap.size := by simp
      have HJ := hid (fun (W : World) (v : Value) (hW : IsSlice (repSlice repByte) W (all W) v [data]) => join_any v [data] W hW (by simpa using hdl))
      generalize (w.alloc (.cells #[.int .i64 st, .int .i64 0, .int .i64 pl, .slice Ad data.length cd] 119)) = w1 at *
      generalize hgs : w.heap.size = gs at *
      have HGS := hid hgs
      obtain ⟨dl, hdle⟩ : ∃ dl, dl = data.length := ⟨_, rfl⟩
      rw [← hdle] at b3 hbe hd1 ⊢
      have HDL := hid hdle
      have hqlt := hb.lt
      have hpd := hb.drew
      clear hgs hdle b1 b1' hbe
      obtain ⟨Av, cv, rfl, _⟩ := hown.form
      have c2a : (w1.drew.alloc (.cells #[.slice Ad dl cd] 33)).cell? ⟨gq, 2, none⟩ = some (.slice Av s.sent.length cv) := (World.cell?_alloc_lt w1.drew _ _ hqlt).trans c2
      have HU := hid (fun (w3 : World) (u : Value) (hu : IsSlice repByte w3 (fresh (w1.drew.alloc (.cells #[.slice Ad dl cd] 33)) w3) u [data].flatten) => (show IsSlice repByte w3 (el base w3 (.slice Av s.sent.length cv)) u data from by
        have e : [data].flatten = data := by simp
        rw [e] at hu
        exact (hu.since (Ext.trans (Below.drew (Below.refl _ _)) (ext_alloc w1.drew _) : Ext w1 (w1.drew.alloc (.cells #[.slice Ad dl cd] 33)))).newer hown.lt hbz))
      go_region_law (first
        | (go_simp; go_at_call 75; refine (HJ.out _ _ (isSlice_lit1 (w := w1.drew) (cs := #[.slice Ad dl cd]) (isSlice_single (by exact hd1)))).mono ?_; rintro r w3 ⟨u, rfl, hu, hx3⟩; have hu3 := HU.out _ _ hu; clear hu; obtain ⟨Au, cu, rfl⟩ := hu3.shape; have x13 : Ext w1 w3 := Ext.trans (Ext.trans (Below.drew (Below.refl _ _)) (ext_alloc w1.drew _)) hx3; have hb3 := hb.ext x13; have c23 := (iqCells hb3).2.2.1; have hown3 := hown.ext x13; have c2b : (w3.alloc (.cells #[.slice Au data.length cu] 33)).cell? ⟨gq, 2, none⟩ = some (.slice Av s.sent.length cv) := (World.cell?_alloc_lt w3 _ _ hb3.lt).trans c23; dsimp only)
        | (refine step_app1 (r := repSlice repByte) (base := base) (x := data) (cs := #[.slice Au data.length cu]) _ _ rfl rfl Try.underlying25 info_bytes (by decide) hown3 rfl rfl rfl (isSlice_single hu3) (by omega) (by simp only [maxLen]; omega) (Nat.le_trans hbz x13.size) ?_; intro v4 w4 hown4 hg4; obtain ⟨A4, c4', rfl, _⟩ := hown4.form; have hb4 := hb3.grown hg4 (fun e => by have := (hown.lt gq e.symm).1; omega); have c24 := (iqCells hb4).2.2.1; have k24 := hb4.frozen 2; have c14 := (iqCells hb4).2.1; rw [hstk] at c14))
      all_goals
        go_wp2
        go_ret
        have e := HS1.out
        subst e
        have hos : Only gq w4 (w4.setCell ⟨gq, 2, none⟩ (.slice A4 (s.sent.length + 1) c4')) := (Only.refl _ _).set_ _ _
        have hown5 : Own (repSlice repByte) 33 base w4 (.slice A4 (s.sent.length + 1) c4') (s.sent ++ [data]) := by simpa using hown4
        have hgmo : some gm ≠ (Value.slice Av s.sent.length cv).ownBlock := fun e => by have := (hown.lt gm e.symm).1; omega
        have hlow4 : LowI gq gm w3 w4 := ⟨hg4.os, hg4.tape, hg4.output, hg4.size, fun k hk => hg4.block k (by have := hb3.lt; omega) (fun e => by have := (hown.lt k e.symm).1; omega)⟩
        exact ⟨rfl, ⟨hne, hqb, hmb, Nat.le_trans hbz (Nat.le_trans x13.size (Nat.le_trans hg4.size hos.size)), ⟨_, hb4.set_ 2 _, hown5.out (X := fun b => b = gq) (Out.of_only hos rfl) (fun b hb => by omega)⟩, L, ((hmap.ext x13).kept hg4 hgmo).kept hos (fun e => hne (by injection e with e; exact e.symm)), hL⟩,
          Below.trans (Below.trans (Below.trans hlow1 (lowI_ext x13 hqlt)) hlow4) (lowI_out (Out.of_only hos (.inl rfl)) hb4.lt)⟩
    · by_cases hk2 : kind = 2
      · subst hk2
        have hS1 : S1 = retS s data := by rw [← HST.out]; unfold stepS; rw [if_neg (by rw [hstk]; simp), if_neg (by omega), if_pos rfl]
        have HRT := hid (returned_any _ gq gm base s h1 hs (by omega) _ data hd1)
        subst hS1
        obtain ⟨ns, hns⟩ : ∃ ns, ns = (retS s data).stuck := ⟨_, rfl⟩
        rw [← hns]
        have HNS := hid hns
        have hltq := Nat.lt_of_lt_of_le hqb hbz
        clear hbe hns
        go_enter Try.func58, Try.ntmps58
        go_wp2_with (first
          | (go_at_call 110; refine HI.out.mono ?_; rintro e w2 ⟨rfl, rfl⟩)
          | (go_at_call 111; refine HRT.out.mono ?_; rintro e w3 ⟨rfl, hq3, ho3⟩; obtain ⟨v3, hb3, _⟩ := hq3.blk; have d1 := (iqCells hb3).2.1; rw [← HNS.out] at d1))
        go_ret
        exact ⟨rfl, hq3, Below.trans hlow1 (lowI_out ho3 hltq)⟩
      · have hk0B : (kind == 0) = false := by simpa using hk0
        have hk2B : (kind == 2) = false := by simpa using hk2
        have hltq := Nat.lt_of_lt_of_le hqb hbz
        by_cases hk5 : kind = 5
        · subst hk5
          have b1' : (w.alloc (.cells #[.int .i64 st, .int .i64 5, .int .i64 pl, .slice Ad data.length cd] 119)).cell? ⟨w.heap.size, 1, none⟩ = some (.int .i64 5) := b1
          cases hls : s.lossy with
          | false =>
            rw [hls] at c0
            have hS1 : S1 = s := by rw [← HST.out]; unfold stepS; rw [if_neg (by rw [hstk]; simp), if_neg hk0, if_neg hk2, if_neg (by rw [hls]; simp)]
            subst hS1
            rw [hstk]
            clear hbe hk0 hk2
            go_enter Try.func58, Try.ntmps58
            go_wp2_with (first
              | (go_at_call 110; refine HI.out.mono ?_; rintro e w2 ⟨rfl, rfl⟩))
            go_ret
            exact ⟨rfl, h1, hlow1⟩
          | true =>
            rw [hls] at c0
            have hS1 : S1 = { s with lost := s.sent.length } := by rw [← HST.out]; unfold stepS; rw [if_neg (by rw [hstk]; simp), if_neg hk0, if_neg hk2, if_pos ⟨rfl, hls⟩]
            have hS1s : S1.stuck = false := by rw [hS1]; exact hstk
            have HS1 := hid hS1
            obtain ⟨Av, cv, rfl, _⟩ := hown.form
            have k3 := hb.frozen 3
            have HB := hid hb
            rw [hS1s]
            clear hbe hk0 hk2 hS1 hb
            go_enter Try.func58, Try.ntmps58
            go_wp2_with (first
              | (go_at_call 110; refine HI.out.mono ?_; rintro e w2 ⟨rfl, rfl⟩))
            go_ret
            have e := HS1.out
            subst e
            have hos : Only gq (w.alloc (.cells #[.int .i64 st, .int .i64 5, .int .i64 pl, .slice Ad data.length cd] 119)) ((w.alloc (.cells #[.int .i64 st, .int .i64 5, .int .i64 pl, .slice Ad data.length cd] 119)).setCell ⟨gq, 3, none⟩ (.int .i64 (s.sent.length : Int))) := (Only.refl _ _).set_ _ _
            exact ⟨rfl, ⟨hne, hqb, hmb, Nat.le_trans hbz hos.size, ⟨_, HB.out.set_ 3 _, hown.out (X := fun b => b = gq) (Out.of_only hos rfl) (fun b hb => by omega)⟩, L, hmap.kept hos (fun e => hne (by injection e with e; exact e.symm)), hL⟩, Below.trans hlow1 (lowI_out (Out.of_only hos (.inl rfl)) hltq)⟩
        · have hk5B : (kind == 5) = false := by simpa using hk5
          have hS1 : S1 = s := by rw [← HST.out]; unfold stepS; rw [if_neg (by rw [hstk]; simp), if_neg hk0, if_neg hk2, if_neg (fun h => hk5 h.1)]
          subst hS1
          rw [hstk]
          clear hbe hk0 hk2 hk5
          go_enter Try.func58, Try.ntmps58
          go_wp2_with (first
            | (go_at_call 110; refine HI.out.mono ?_; rintro e w2 ⟨rfl, rfl⟩))
          go_ret
          exact ⟨rfl, h1, hlow1⟩
end
end Go.Proofs.Ytjchobncmogcpaa
