/- The walks of chop's reference's joiner. -/
import Derived.Deep.RegionHeld3
import Derived.Test.YtheopadakjojkaaChop
namespace Go.Proofs.Ytheopadakjojkaa
open Go.RowKit

def RefAt (X : Nat → Prop) (w : World) (g : Nat) (n : Nat) (m : List UInt8) : Prop :=
  ∃ A c, Blk w g 68 #[.int .i64 n, .slice A m.length c] ∧ IsSlice repByte w (outOf X w) (.slice A m.length c) m ∧ X g ∧ m.length ≤ 2000 ∧ n ≤ 1000
theorem RefAt.ext {X : Nat → Prop} {w w' : World} {g : Nat} {n : Nat} {m : List UInt8} (h : RefAt X w g n m) (he : Ext w w') : RefAt X w' g n m := by
  obtain ⟨A, c, h1, h2, h3, h4, h5⟩ := h
  exact ⟨A, c, h1.ext he, h2.outExt he, h3, h4, h5⟩
theorem RefAt.other {X : Nat → Prop} {w w' : World} {g g' : Nat} {n : Nat} {m : List UInt8} (h : RefAt X w g n m) (ho : Only g' w w') (hX : X g') (hne : g ≠ g') : RefAt X w' g n m := by
  obtain ⟨A, c, h1, h2, h3, h4, h5⟩ := h
  exact ⟨A, c, h1.grown ho (fun e => hne (by injection e)), h2.outOnly ho hX, h3, h4, h5⟩
theorem RefAt.lt {X : Nat → Prop} {w : World} {g : Nat} {n : Nat} {m : List UInt8} (h : RefAt X w g n m) : g < w.heap.size := by
  obtain ⟨A, c, h1, _⟩ := h; exact h1.lt

section
variable {P : Program} {α : Type} {r : Rep α} {w : World} {ops : Array Oper} {o : Oper} {a : Act} {K : Act → World → Prop} {Q : Exit → Act → World → Prop} {E : Prop}
theorem step_app {base : Nat} {t e : TypeId} {bytes : Nat} {v u : Value} {xs news : List α} (s x : Operand) (hgd : o.guard = none)
    (ho : o.op = .call { callee := .builtin .append, args := #[s, x], argTypes := #[t, t] }) (ht : P.underlying t = some (.slice e)) (hi : ElemInfo P e r.size bytes) (hsz : 0 < r.size)
    (hown : Own r e base w v xs) (hu : SliceIn r w (nb w v) (el base w v) u news) (hs : a.eval s = v) (hx : a.eval x = u)
    (hbytes : (xs.length + news.length) * bytes ≤ 140737488355328) (h63 : xs.length + news.length ≤ maxLen) (hbase : base ≤ w.heap.size)
    (h : ∀ v' w', Own r e base w' v' (xs ++ news) → w.grownBy w' v.ownBlock → K (a.put o.dst v') w') : if Region.wanted o (yielded ops a.tmps) = true then o.wp P a w K Q else E := by
  have hw : Region.wanted o (yielded ops a.tmps) = true := by simp [Region.wanted, hgd]
  rw [if_pos hw]
  exact wp_app s x ho ht hi hsz hown hu hs hx hbytes h63 hbase fun v' w' h1 h2 _ => h v' w' h1 h2
end

theorem ref_put {X : Nat → Prop} {w : World} {g n k : Nat} {v u : Value} {A : Option Addr} {c : Nat} {q : List UInt8} (hb : Blk w g 68 #[u, v]) (hs : IsSlice repByte w (outOf X w) (.slice A q.length c) q) (hX : X g) (hq : q.length ≤ 2000) (hn : n ≤ 1000) (hk : k = q.length) :
    RefAt X ((w.setCell ⟨g, 0, none⟩ (.int .i64 n)).setCell ⟨g, 1, none⟩ (.slice A k c)) g n q ∧ Only g w ((w.setCell ⟨g, 0, none⟩ (.int .i64 n)).setCell ⟨g, 1, none⟩ (.slice A k c)) := by
  subst hk
  have ho : Only g w ((w.setCell ⟨g, 0, none⟩ (.int .i64 n)).setCell ⟨g, 1, none⟩ (.slice A q.length c)) := Only.set_ (Only.set_ (Only.refl _ _) _ _) _ _
  exact ⟨⟨A, c, (hb.set_ 0 _).set_ 1 _, hs.outOnly ho hX, hX, hq, hn⟩, ho⟩
theorem blk_put {w : World} {g : Nat} {t : TypeId} {u v x y : Value} (hb : Blk w g t #[u, v]) : Blk ((w.setCell ⟨g, 0, none⟩ x).setCell ⟨g, 1, none⟩ y) g t #[x, y] := (hb.set_ 0 x).set_ 1 y
theorem head_rem (c : UInt8) : (wrap64 (c.toNat : Int)).tmod 128 = ((c.toNat % 128 : Nat) : Int) := by
  have h : ∀ n : Fin 256, (wrap64 (n.val : Int)).tmod 128 = ((n.val % 128 : Nat) : Int) := by decide +kernel
  exact h ⟨c.toNat, c.toNat_lt⟩
theorem head_ge (c : UInt8) : decide ((128 : Int) ≤ (c.toNat : Int)) = decide (128 ≤ c.toNat) := by
  have h : ∀ n : Fin 256, decide ((128 : Int) ≤ (n.val : Int)) = decide (128 ≤ n.val) := by decide +kernel
  exact h ⟨c.toNat, c.toNat_lt⟩

set_option maxRecDepth 100000
section
theorem copyO_any (v : Value) (xs : List UInt8) (w : World) (h : IsSlice repByte w (all w) v xs) (hl : xs.length ≤ 16777216) :
    Calls Try.prog 92 #[v] w fun e w' => ∃ u, e = .returned u ∧ Own repByte 5 w.heap.size w' u xs ∧ Ext w w' := by
  go_enter Try.func92, Try.ntmps92
  go_wp2_with (at_builtin; refine wpl_app (r := repByte) (base := w.heap.size) (v := .slice (some ⟨w.heap.size, 0, none⟩) 0 0) (xs := []) _ _ rfl rfl Try.underlying49 info_byte (by decide) (own_lit (xs := []) (Nat.le_refl _) (by simp [maxLen]) (by simp) (by simp)) ((h.off (ext_alloc w _) (by simp [Value.ownBlock])).flat flat_byte) rfl rfl (by simp; omega) (by simp [maxLen]; omega) (by simp) ?_; intro v' w1 hown1 hg1 _)
  go_ret
  exact ⟨_, rfl, by simpa using hown1, Below.grown (ext_alloc _ _) hg1 (by simp) (by simp [Value.ownBlock])⟩

set_option maxHeartbeats 1600000 in
theorem feedR_any (w : World) (g n : Nat) (m p : List UInt8) (X : Nat → Prop) (h : RefAt X w g n m) (v : Value) (hp : IsSlice repByte w (outOf X w) v p) (hX : ∀ b, X b → b < w.heap.size) :
    Calls Try.prog 50 #[.pointer (some ⟨g, 0, none⟩), v] w fun e w' => ∃ u, e = .returned (.tuple #[u, .bool (feedS n m p).ok, .int .i64 (feedS n m p).err]) ∧ IsSlice repByte w' (outOf X w') u (feedS n m p).out ∧ RefAt X w' g (feedS n m p).at_ (feedS n m p).m ∧ Only g w w' := by
  obtain ⟨B, pn, pd, rfl, hnc, hcm, hrow⟩ := hp
  have hpn := hrow.1
  have hmax : pn ≤ 9223372036854775807 := by unfold maxLen at hcm; omega
  obtain ⟨A0, c0, hb0, hs0, hgX, hml0, hn0⟩ := h
  have e0 := hb0.cell 0
  have e1 := hb0.cell 1
  simp only [List.getElem?_toArray, List.getElem?_cons_succ, List.getElem?_cons_zero] at e0 e1
  have f0 := hb0.frozen 0
  have f1 := hb0.frozen 1
  cases p with
  | nil =>
    simp at hpn
    subst hpn
    go_enter Try.func50, Try.ntmps50
    go_wp2
    go_ret3
    obtain ⟨hj, ho⟩ := ref_put (n := 0) (q := []) hb0 (isSlice_nil _ _ _) hgX (by simp) (by simp) (k := 0) rfl
    exact ⟨_, rfl, isSlice_nil _ _ _, hj, ho⟩
  | cons c b =>
    simp at hpn
    by_cases hbig : 63 < b.length
    · have hS : feedS n m (c :: b) = ⟨[], false, 130, 0, []⟩ := by simp only [feedS, if_pos hbig]
      rw [hS]
      have hpn' : 64 < pn := by omega
      have hz : decide ((pn : Int) < 1) = false := decide_eq_false (by omega)
      have hg : decide ((64 : Int) < (pn : Int)) = true := decide_eq_true (by omega)
      clear hpn hS
      go_enter Try.func50, Try.ntmps50
      go_wp2
      go_ret3
      obtain ⟨hj, ho⟩ := ref_put (n := 0) (q := []) hb0 (isSlice_nil _ _ _) hgX (by simp) (by simp) (k := 0) rfl
      exact ⟨_, rfl, isSlice_nil _ _ _, hj, ho⟩
    · obtain ⟨bb, off, x, rfl, hx, hcx⟩ := hrow.byte (show 0 < pn by omega)
      obtain ⟨hx0, hcx⟩ := hcx
      simp only [List.getElem?_cons_zero, Option.some.injEq] at hx0
      subst hx0
      simp only [Nat.add_zero] at hcx
      have hsl : IsSlice repByte w (outOf X w) (.slice (some ⟨bb, off, none⟩) pn pd) (c :: b) := ⟨_, _, _, rfl, hnc, hcm, hrow⟩
      obtain ⟨B', hrun, hcut⟩ := cut_from Try.underlying49 info_byte hsl (k := 1) (by omega)
      replace hrun : ∀ w, (Instr.sliceAt 49 (.slice (some ⟨bb, off, none⟩) pn pd) (some (.int .i64 1)) none none).run Try.prog w = .ok (.slice B' (pn - 1) (pd - 1)) w := hrun
      rw [List.drop_one, List.tail_cons] at hcut
      have hrem := head_rem c
      have hlast := head_ge c
      have hkb : c.toNat % 128 < 128 := Nat.mod_lt _ (by omega)
      have hp1 : 1 ≤ pn := by omega
      have hp2 : pn ≤ 64 := by omega
      have hz : decide ((pn : Int) < 1) = false := decide_eq_false (by omega)
      have hg : decide ((64 : Int) < (pn : Int)) = false := decide_eq_false (by omega)
      have hS : feedS n m (c :: b) = if c.toNat % 128 = 0 then feedC 0 [] 0 (decide (128 ≤ c.toNat)) b else feedC n m (c.toNat % 128) (decide (128 ≤ c.toNat)) b := by simp only [feedS, if_neg hbig]
      have HPN := hid hpn
      have HB := hid hbig
      rw [hS]
      clear hpn hbig hS hsl hrow
      generalize decide (128 ≤ c.toNat) = last at *
      generalize c.toNat % 128 = k at *
      by_cases hk0 : k = 0
      · subst hk0
        rw [if_pos rfl]
        cases last with
        | true =>
          have hq2 : decide ((2000 : Int) < (pn : Int) - 1) = false := decide_eq_false (by omega)
          have hfe : feedC 0 [] 0 true b = ⟨[] ++ b, true, 0, 0, []⟩ := by unfold feedC; rw [if_pos (by unfold fitB; simp; have := HPN.out; omega)]; rfl
          obtain ⟨Q, hQ⟩ : ∃ Q, Q = [] ++ b := ⟨_, rfl⟩
          rw [hfe, ← hQ]
          have hml : ([] : List UInt8).length + b.length ≤ 2000 := by have := HPN.out; first | omega | (simp; omega)
          have hQl : Q.length ≤ 2000 := by rw [hQ, List.length_append]; exact hml
          have HQ := hid hQ
          have HML := hid hml
          clear hfe hQ hml
          go_enter Try.func50, Try.ntmps50
          go_wp2_with fail
          go_quiet (fail)
          go_wp2_with fail
          have hj1 : RefAt X (((w.drewN nq).setCell ⟨g, 0, none⟩ (.int .i64 0)).setCell ⟨g, 1, none⟩ (.slice none 0 0)) g 0 [] := (ref_put (n := 0) (q := []) (hb0.drewN nq) (isSlice_nil _ _ _) hgX (by simp) (by simp) (k := 0) rfl).1
          have ho : Only g w (((w.drewN nq).setCell ⟨g, 0, none⟩ (.int .i64 0)).setCell ⟨g, 1, none⟩ (.slice none 0 0)) := (Only.of_ext (ext_drewN w nq)).trans (ref_put (n := 0) (q := []) (hb0.drewN nq) (isSlice_nil _ _ _) hgX (by simp) (by simp) (k := 0) rfl).2
          generalize ((w.drewN nq).setCell ⟨g, 0, none⟩ (.int .i64 0)).setCell ⟨g, 1, none⟩ (.slice none 0 0) = w1 at *
          obtain ⟨A6, c6, hb6, hs6, hx6, hm6, hn6⟩ := hj1
          have b61 : w1.cell? ⟨g, 1, none⟩ = some (.slice A6 0 c6) := hb6.cell 1
          have e61 := b61
          have hlt := hb6.lt
          have hcut1 := (hcut.outOnly ho hgX).outAll
          have hX1 : ∀ b, X b → b < w1.heap.size := fun b hb => Nat.lt_of_lt_of_le (hX b hb) ho.size
          have xx := Below.refl w1.heap.size w1
          have xd : Ext w1 w1.drew := Below.drew (Below.refl _ _)
          go_region_held3 (fun w' => w'.cell? ⟨g, 1, none⟩ = some (.slice A6 0 c6) ∧ Ext w1 w')
            (first | exact ⟨by assumption, by assumption⟩)
            (first
              | (go_at_call 92; refine (copyO_any _ [] _ (hs6.outAll.ext (by assumption)) (by have := HML.out; omega)).mono ?_; rintro e w7 ⟨u7, rfl, hown7, hx7⟩; have xb7 := Ext.trans xd hx7; have e61 := (Ext.cell xb7 hlt 1).trans b61; have hlt7 := hown7.lt; have hu7 := (hcut1.off xb7 (fun k hk => (hlt7 k hk).1)).flat (T := el w1.heap.size w7 u7) flat_byte)
              | (refine step_app (r := repByte) (base := w1.heap.size) _ _ rfl rfl Try.underlying49 info_byte (by decide) hown7 hu7 rfl rfl (by have := HML.out; omega) (by have := HML.out; simp only [maxLen]; omega) xb7.size ?_; intro v8 w8 hown8 hg8; have xb8 := Below.grown xb7 hg8 xb7.size (fun k hk => (hlt7 k hk).1); have e61 := (Ext.cell xb8 hlt 1).trans b61))
          rw [← HQ.out] at hown8
          obtain ⟨A8, c8, rfl, _⟩ := hown8.form
          have hb8 := hb6.ext xb8
          have f80 := hb8.frozen 0
          have f81 := hb8.frozen 1
          have e80 := hb8.cell 0
          have e81 := hb8.cell 1
          simp only [List.getElem?_toArray, List.getElem?_cons_succ, List.getElem?_cons_zero] at e80 e81
          have hs8 := (Own.fresh (w := w1) hown8).outNew (X := X) hX1
          go_wp2
          go_ret3
          obtain ⟨hj9, ho9⟩ := ref_put (n := 0) (q := []) hb8 (isSlice_nil _ _ _) hgX (by simp) (by simp) (k := 0) rfl
          exact ⟨_, rfl, hs8.outOnly ho9 hgX, hj9, (ho.then xb8).trans ho9⟩
        | false =>
          by_cases hb : pn = 64
          · subst hb
            have hq2 : decide ((2000 : Int) < (64 : Int) - 1) = false := decide_eq_false (by omega)
            have hfe : feedC 0 [] 0 false b = ⟨[], false, 0, 0 + 1, [] ++ b⟩ := by unfold feedC; rw [if_pos (by unfold fitB; simp; have := HPN.out; omega)]; rfl
            obtain ⟨Q, hQ⟩ : ∃ Q, Q = [] ++ b := ⟨_, rfl⟩
            rw [hfe, ← hQ]
            have hml : ([] : List UInt8).length + b.length ≤ 2000 := by have := HPN.out; first | omega | (simp; omega)
            have hQl : Q.length ≤ 2000 := by rw [hQ, List.length_append]; exact hml
            have HQ := hid hQ
            have HML := hid hml
            clear hfe hQ hml
            go_enter Try.func50, Try.ntmps50
            go_wp2_with fail
            go_quiet (fail)
            go_wp2_with fail
            have hj1 : RefAt X (((w.drewN nq).setCell ⟨g, 0, none⟩ (.int .i64 0)).setCell ⟨g, 1, none⟩ (.slice none 0 0)) g 0 [] := (ref_put (n := 0) (q := []) (hb0.drewN nq) (isSlice_nil _ _ _) hgX (by simp) (by simp) (k := 0) rfl).1
            have ho : Only g w (((w.drewN nq).setCell ⟨g, 0, none⟩ (.int .i64 0)).setCell ⟨g, 1, none⟩ (.slice none 0 0)) := (Only.of_ext (ext_drewN w nq)).trans (ref_put (n := 0) (q := []) (hb0.drewN nq) (isSlice_nil _ _ _) hgX (by simp) (by simp) (k := 0) rfl).2
            generalize ((w.drewN nq).setCell ⟨g, 0, none⟩ (.int .i64 0)).setCell ⟨g, 1, none⟩ (.slice none 0 0) = w1 at *
            obtain ⟨A6, c6, hb6, hs6, hx6, hm6, hn6⟩ := hj1
            have b61 : w1.cell? ⟨g, 1, none⟩ = some (.slice A6 0 c6) := hb6.cell 1
            have e61 := b61
            have hlt := hb6.lt
            have hcut1 := (hcut.outOnly ho hgX).outAll
            have hX1 : ∀ b, X b → b < w1.heap.size := fun b hb => Nat.lt_of_lt_of_le (hX b hb) ho.size
            have xx := Below.refl w1.heap.size w1
            have xd : Ext w1 w1.drew := Below.drew (Below.refl _ _)
            go_region_held3 (fun w' => w'.cell? ⟨g, 1, none⟩ = some (.slice A6 0 c6) ∧ Ext w1 w')
              (first | exact ⟨by assumption, by assumption⟩)
              (first
                | (go_at_call 92; refine (copyO_any _ [] _ (hs6.outAll.ext (by assumption)) (by have := HML.out; omega)).mono ?_; rintro e w7 ⟨u7, rfl, hown7, hx7⟩; have xb7 := Ext.trans xd hx7; have e61 := (Ext.cell xb7 hlt 1).trans b61; have hlt7 := hown7.lt; have hu7 := (hcut1.off xb7 (fun k hk => (hlt7 k hk).1)).flat (T := el w1.heap.size w7 u7) flat_byte)
                | (refine step_app (r := repByte) (base := w1.heap.size) _ _ rfl rfl Try.underlying49 info_byte (by decide) hown7 hu7 rfl rfl (by have := HML.out; omega) (by have := HML.out; simp only [maxLen]; omega) xb7.size ?_; intro v8 w8 hown8 hg8; have xb8 := Below.grown xb7 hg8 xb7.size (fun k hk => (hlt7 k hk).1); have e61 := (Ext.cell xb8 hlt 1).trans b61))
            rw [← HQ.out] at hown8
            obtain ⟨A8, c8, rfl, _⟩ := hown8.form
            have hb8 := hb6.ext xb8
            have f80 := hb8.frozen 0
            have f81 := hb8.frozen 1
            have e80 := hb8.cell 0
            have e81 := hb8.cell 1
            simp only [List.getElem?_toArray, List.getElem?_cons_succ, List.getElem?_cons_zero] at e80 e81
            have hs8 := (Own.fresh (w := w1) hown8).outNew (X := X) hX1
            go_wp2
            go_ret3
            obtain ⟨hj9, ho9⟩ := ref_put (n := 0 + 1) (q := Q) hb8 hs8 hgX hQl (by omega) rfl
            exact ⟨_, rfl, isSlice_nil _ _ _, hj9, (ho.then xb8).trans ho9⟩
          · have hq : ((pn : Int) != 64) = true := by simp; omega
            have hfe : feedC 0 [] 0 false b = ⟨[], false, 130, 0, []⟩ := by unfold feedC; rw [if_neg (by unfold fitB; simp; have := HPN.out; omega)]
            rw [hfe]
            clear hfe
            go_enter Try.func50, Try.ntmps50
            go_wp2_with fail
            go_quiet (fail)
            go_wp2
            go_ret3
            obtain ⟨hj, ho⟩ := ref_put (n := 0) (q := []) (blk_put (x := .int .i64 0) (y := .slice none 0 0) (hb0.drewN nq)) (isSlice_nil _ _ _) hgX (by simp) (by simp) (k := 0) rfl
            exact ⟨_, rfl, isSlice_nil _ _ _, hj, (Only.of_ext (ext_drewN w nq)).trans ((ref_put (n := 0) (q := []) (hb0.drewN nq) (isSlice_nil _ _ _) hgX (by simp) (by simp) (k := 0) rfl).2.trans ho)⟩
      · rw [if_neg hk0]
        by_cases hk : k = n
        · subst hk
          cases last with
          | true =>
            by_cases hm : m.length + pn ≤ 2001
            · have hq2 : decide ((2000 : Int) < (m.length : Nat) + (pn : Int) - 1) = false := decide_eq_false (by omega)
              have hfe : feedC k m k true b = ⟨m ++ b, true, 0, 0, []⟩ := by unfold feedC; rw [if_pos (by unfold fitB; simp; have := HPN.out; omega)]; rfl
              obtain ⟨Q, hQ⟩ : ∃ Q, Q = m ++ b := ⟨_, rfl⟩
              rw [hfe, ← hQ]
              have hml : (m : List UInt8).length + b.length ≤ 2000 := by have := HPN.out; first | omega | (simp; omega)
              have hQl : Q.length ≤ 2000 := by rw [hQ, List.length_append]; exact hml
              have HQ := hid hQ
              have HML := hid hml
              clear hfe hQ hml
              go_enter Try.func50, Try.ntmps50
              go_wp2_with fail
              go_quiet (fail)
              go_wp2_with fail
              have hj1 : RefAt X (w.drewN nq) g k m := RefAt.ext ⟨A0, c0, hb0, hs0, hgX, hml0, hn0⟩ (ext_drewN w nq)
              have ho : Only g w (w.drewN nq) := Only.of_ext (ext_drewN w nq)
              generalize w.drewN nq = w1 at *
              obtain ⟨A6, c6, hb6, hs6, hx6, hm6, hn6⟩ := hj1
              have b61 : w1.cell? ⟨g, 1, none⟩ = some (.slice A6 m.length c6) := hb6.cell 1
              have e61 := b61
              have hlt := hb6.lt
              have hcut1 := (hcut.outOnly ho hgX).outAll
              have hX1 : ∀ b, X b → b < w1.heap.size := fun b hb => Nat.lt_of_lt_of_le (hX b hb) ho.size
              have xx := Below.refl w1.heap.size w1
              have xd : Ext w1 w1.drew := Below.drew (Below.refl _ _)
              go_region_held3 (fun w' => w'.cell? ⟨g, 1, none⟩ = some (.slice A6 m.length c6) ∧ Ext w1 w')
                (first | exact ⟨by assumption, by assumption⟩)
                (first
                  | (go_at_call 92; refine (copyO_any _ m _ (hs6.outAll.ext (by assumption)) (by have := HML.out; omega)).mono ?_; rintro e w7 ⟨u7, rfl, hown7, hx7⟩; have xb7 := Ext.trans xd hx7; have e61 := (Ext.cell xb7 hlt 1).trans b61; have hlt7 := hown7.lt; have hu7 := (hcut1.off xb7 (fun k hk => (hlt7 k hk).1)).flat (T := el w1.heap.size w7 u7) flat_byte)
                  | (refine step_app (r := repByte) (base := w1.heap.size) _ _ rfl rfl Try.underlying49 info_byte (by decide) hown7 hu7 rfl rfl (by have := HML.out; omega) (by have := HML.out; simp only [maxLen]; omega) xb7.size ?_; intro v8 w8 hown8 hg8; have xb8 := Below.grown xb7 hg8 xb7.size (fun k hk => (hlt7 k hk).1); have e61 := (Ext.cell xb8 hlt 1).trans b61))
              rw [← HQ.out] at hown8
              obtain ⟨A8, c8, rfl, _⟩ := hown8.form
              have hb8 := hb6.ext xb8
              have f80 := hb8.frozen 0
              have f81 := hb8.frozen 1
              have e80 := hb8.cell 0
              have e81 := hb8.cell 1
              simp only [List.getElem?_toArray, List.getElem?_cons_succ, List.getElem?_cons_zero] at e80 e81
              have hs8 := (Own.fresh (w := w1) hown8).outNew (X := X) hX1
              go_wp2
              go_ret3
              obtain ⟨hj9, ho9⟩ := ref_put (n := 0) (q := []) hb8 (isSlice_nil _ _ _) hgX (by simp) (by simp) (k := 0) rfl
              exact ⟨_, rfl, hs8.outOnly ho9 hgX, hj9, (ho.then xb8).trans ho9⟩
            · have hq2 : decide ((2000 : Int) < (m.length : Nat) + (pn : Int) - 1) = true := decide_eq_true (by omega)
              have hfe : feedC k m k true b = ⟨[], false, 130, 0, []⟩ := by unfold feedC; rw [if_neg (by unfold fitB; simp; have := HPN.out; omega)]
              rw [hfe]
              clear hfe
              go_enter Try.func50, Try.ntmps50
              go_wp2_with fail
              go_quiet (fail)
              go_wp2
              go_ret3
              obtain ⟨hj, ho⟩ := ref_put (n := 0) (q := []) (hb0.drewN nq) (isSlice_nil _ _ _) hgX (by simp) (by simp) (k := 0) rfl
              exact ⟨_, rfl, isSlice_nil _ _ _, hj, (Only.of_ext (ext_drewN w nq)).trans ho⟩
          | false =>
            by_cases hb : pn = 64
            · subst hb
              by_cases hm : m.length + 64 ≤ 2001
              · have hq2 : decide ((2000 : Int) < (m.length : Nat) + (64 : Int) - 1) = false := decide_eq_false (by omega)
                have hfe : feedC k m k false b = ⟨[], false, 0, k + 1, m ++ b⟩ := by unfold feedC; rw [if_pos (by unfold fitB; simp; have := HPN.out; omega)]; rfl
                obtain ⟨Q, hQ⟩ : ∃ Q, Q = m ++ b := ⟨_, rfl⟩
                rw [hfe, ← hQ]
                have hml : (m : List UInt8).length + b.length ≤ 2000 := by have := HPN.out; first | omega | (simp; omega)
                have hQl : Q.length ≤ 2000 := by rw [hQ, List.length_append]; exact hml
                have HQ := hid hQ
                have HML := hid hml
                clear hfe hQ hml
                go_enter Try.func50, Try.ntmps50
                go_wp2_with fail
                go_quiet (fail)
                go_wp2_with fail
                have hj1 : RefAt X (w.drewN nq) g k m := RefAt.ext ⟨A0, c0, hb0, hs0, hgX, hml0, hn0⟩ (ext_drewN w nq)
                have ho : Only g w (w.drewN nq) := Only.of_ext (ext_drewN w nq)
                generalize w.drewN nq = w1 at *
                obtain ⟨A6, c6, hb6, hs6, hx6, hm6, hn6⟩ := hj1
                have b61 : w1.cell? ⟨g, 1, none⟩ = some (.slice A6 m.length c6) := hb6.cell 1
                have e61 := b61
                have hlt := hb6.lt
                have hcut1 := (hcut.outOnly ho hgX).outAll
                have hX1 : ∀ b, X b → b < w1.heap.size := fun b hb => Nat.lt_of_lt_of_le (hX b hb) ho.size
                have xx := Below.refl w1.heap.size w1
                have xd : Ext w1 w1.drew := Below.drew (Below.refl _ _)
                go_region_held3 (fun w' => w'.cell? ⟨g, 1, none⟩ = some (.slice A6 m.length c6) ∧ Ext w1 w')
                  (first | exact ⟨by assumption, by assumption⟩)
                  (first
                    | (go_at_call 92; refine (copyO_any _ m _ (hs6.outAll.ext (by assumption)) (by have := HML.out; omega)).mono ?_; rintro e w7 ⟨u7, rfl, hown7, hx7⟩; have xb7 := Ext.trans xd hx7; have e61 := (Ext.cell xb7 hlt 1).trans b61; have hlt7 := hown7.lt; have hu7 := (hcut1.off xb7 (fun k hk => (hlt7 k hk).1)).flat (T := el w1.heap.size w7 u7) flat_byte)
                    | (refine step_app (r := repByte) (base := w1.heap.size) _ _ rfl rfl Try.underlying49 info_byte (by decide) hown7 hu7 rfl rfl (by have := HML.out; omega) (by have := HML.out; simp only [maxLen]; omega) xb7.size ?_; intro v8 w8 hown8 hg8; have xb8 := Below.grown xb7 hg8 xb7.size (fun k hk => (hlt7 k hk).1); have e61 := (Ext.cell xb8 hlt 1).trans b61))
                rw [← HQ.out] at hown8
                obtain ⟨A8, c8, rfl, _⟩ := hown8.form
                have hb8 := hb6.ext xb8
                have f80 := hb8.frozen 0
                have f81 := hb8.frozen 1
                have e80 := hb8.cell 0
                have e81 := hb8.cell 1
                simp only [List.getElem?_toArray, List.getElem?_cons_succ, List.getElem?_cons_zero] at e80 e81
                have hs8 := (Own.fresh (w := w1) hown8).outNew (X := X) hX1
                go_wp2
                go_ret3
                obtain ⟨hj9, ho9⟩ := ref_put (n := k + 1) (q := Q) hb8 hs8 hgX hQl (by omega) rfl
                exact ⟨_, rfl, isSlice_nil _ _ _, hj9, (ho.then xb8).trans ho9⟩
              · have hq2 : decide ((2000 : Int) < (m.length : Nat) + (64 : Int) - 1) = true := decide_eq_true (by omega)
                have hfe : feedC k m k false b = ⟨[], false, 130, 0, []⟩ := by unfold feedC; rw [if_neg (by unfold fitB; simp; have := HPN.out; omega)]
                rw [hfe]
                clear hfe
                go_enter Try.func50, Try.ntmps50
                go_wp2_with fail
                go_quiet (fail)
                go_wp2
                go_ret3
                obtain ⟨hj, ho⟩ := ref_put (n := 0) (q := []) (hb0.drewN nq) (isSlice_nil _ _ _) hgX (by simp) (by simp) (k := 0) rfl
                exact ⟨_, rfl, isSlice_nil _ _ _, hj, (Only.of_ext (ext_drewN w nq)).trans ho⟩
            · have hq : ((pn : Int) != 64) = true := by simp; omega
              have hfe : feedC k m k false b = ⟨[], false, 130, 0, []⟩ := by unfold feedC; rw [if_neg (by unfold fitB; simp; have := HPN.out; omega)]
              rw [hfe]
              clear hfe
              go_enter Try.func50, Try.ntmps50
              go_wp2_with fail
              go_quiet (fail)
              go_wp2
              go_ret3
              obtain ⟨hj, ho⟩ := ref_put (n := 0) (q := []) (hb0.drewN nq) (isSlice_nil _ _ _) hgX (by simp) (by simp) (k := 0) rfl
              exact ⟨_, rfl, isSlice_nil _ _ _, hj, (Only.of_ext (ext_drewN w nq)).trans ho⟩
        · have hfe : feedC n m k last b = ⟨[], false, 130, 0, []⟩ := by unfold feedC; rw [if_neg (by unfold fitB; simp; omega)]
          rw [hfe]
          clear hfe
          go_enter Try.func50, Try.ntmps50
          go_wp2_with fail
          go_quiet (fail)
          go_wp2
          go_ret3
          obtain ⟨hj, ho⟩ := ref_put (n := 0) (q := []) (hb0.drewN nq) (isSlice_nil _ _ _) hgX (by simp) (by simp) (k := 0) rfl
          exact ⟨_, rfl, isSlice_nil _ _ _, hj, (Only.of_ext (ext_drewN w nq)).trans ho⟩
end
end Go.Proofs.Ytheopadakjojkaa
