/- The walks of queue's functions. -/
import Derived.WalkSpells
import Derived.IntWalk
import Derived.StillTailTactics
import Derived.Deep.RegionLaw
import Derived.Deep.RegionHeld3
import Derived.Deep.Cut
import Derived.WalkMore
import Derived.ScopeJumps
import Derived.Test.YtimlbebockfioaaOut
import Derived.Test.YtimlbebockfioaaJoin
import Derived.Test.YtimlbebockfioaaRows
import Derived.Test.YtimlbebockfioaaClone
namespace Go.Proofs.Ytimlbebockfioaa
open Go.RowKit

def queueCells (room : Int) (first n : Nat) (vs : List Value) : Array Value := (.int .i64 room :: .int .i64 (first : Int) :: .int .i64 (n : Int) :: vs).toArray
/-- The ring's texts, from place 'first' on. -/
structure RingIs (X : Nat → Prop) (w : World) (first : Nat) (vs : List Value) (q : List (List UInt8)) : Prop where
  len : vs.length = 16
  low : first < 16
  q16 : q.length ≤ 16
  at_ : ∀ i (h : i < q.length), ∃ v, vs[(first + i) % 16]? = some v ∧ IsSlice repByte w (outOf X w) v q[i]
  short : ∀ i (h : i < q.length), q[i].length ≤ 64
section
variable {X : Nat → Prop} {w w' : World} {first : Nat} {vs : List Value} {q : List (List UInt8)}
theorem RingIs.out (h : RingIs X w first vs q) (ho : Out X w w') : RingIs X w' first vs q :=
  ⟨h.len, h.low, h.q16, fun i hi => (h.at_ i hi).imp fun v hv => ⟨hv.1, hv.2.out ho⟩, h.short⟩
theorem RingIs.push (h : RingIs X w first vs q) (hq : q.length < 16) {v : Value} {x : List UInt8} (hv : IsSlice repByte w (outOf X w) v x) (hx : x.length ≤ 64) : RingIs X w first (vs.set ((first + q.length) % 16) v) (q ++ [x]) := by
  refine ⟨by rw [List.length_set]; exact h.len, h.low, by simp; omega, fun i hi => ?_, fun i hi => ?_⟩
  · by_cases hi' : i < q.length
    · obtain ⟨u, hu, hs⟩ := h.at_ i hi'
      refine ⟨u, ?_, by rw [List.getElem_append_left hi']; exact hs⟩
      rw [List.getElem?_set_ne (by omega)]
      exact hu
    · obtain rfl : i = q.length := by simp at hi; omega
      refine ⟨v, ?_, by simpa using hv⟩
      rw [List.getElem?_set_self (by rw [h.len]; omega)]
  · by_cases hi' : i < q.length
    · rw [List.getElem_append_left hi']; exact h.short i hi'
    · obtain rfl : i = q.length := by simp at hi; omega
      simpa using hx
theorem RingIs.pop {x : List UInt8} (h : RingIs X w first vs (x :: q)) (u : Value) : RingIs X w ((first + 1) % 16) (vs.set first u) q := by
  have h16 : q.length + 1 ≤ 16 := h.q16
  have hf := h.low
  refine ⟨by rw [List.length_set]; exact h.len, by omega, by omega, fun i hi => ?_, fun i hi => h.short (i + 1) (by simpa using hi)⟩
  obtain ⟨v, hv, hs⟩ := h.at_ (i + 1) (by simpa using hi)
  refine ⟨v, ?_, by simpa using hs⟩
  rw [List.getElem?_set_ne (by omega)]
  rw [show ((first + 1) % 16 + i) % 16 = (first + (i + 1)) % 16 from by omega]
  exact hv
end

/-- A queue behind a pointer. -/
structure QAt (X : Nat → Prop) (w : World) (g : Nat) (room : Int) (q : List (List UInt8)) : Prop where
  own : X g
  r1 : 1 ≤ room
  r2 : room ≤ 16
  cap : (q.length : Int) ≤ room
  is : ∃ first vs, Blk w g 139 (queueCells room first q.length vs) ∧ RingIs X w first vs q
theorem qCells {w : World} {g : Nat} {room : Int} {first n : Nat} {vs : List Value} (h : Blk w g 139 (queueCells room first n vs)) :
    w.cell? ⟨g, 0, none⟩ = some (.int .i64 room) ∧ w.cell? ⟨g, 1, none⟩ = some (.int .i64 (first : Int)) ∧ w.cell? ⟨g, 2, none⟩ = some (.int .i64 (n : Int)) ∧ ∀ j, w.cell? ⟨g, 3 + j, none⟩ = vs[j]? := by
  refine ⟨h.cell 0, h.cell 1, h.cell 2, fun j => ?_⟩
  rw [h.cell, queueCells, show 3 + j = j + 1 + 1 + 1 from by omega]
  simp
theorem queue_set {room : Int} {first n : Nat} {vs : List Value} (j : Nat) (u : Value) : (queueCells room first n vs).setIfInBounds (3 + j) u = queueCells room first n (vs.set j u) := by
  unfold queueCells
  rw [show 3 + j = j + 1 + 1 + 1 from by omega]
  simp
theorem queue_set1 {room : Int} {first f' n : Nat} {vs : List Value} : (queueCells room first n vs).setIfInBounds 1 (.int .i64 (f' : Int)) = queueCells room f' n vs := by
  unfold queueCells
  simp
theorem queue_set2 {room : Int} {first n n' : Nat} {vs : List Value} : (queueCells room first n vs).setIfInBounds 2 (.int .i64 (n' : Int)) = queueCells room first n' vs := by
  unfold queueCells
  simp

theorem QAt.ext {X : Nat → Prop} {w w' : World} {g : Nat} {room : Int} {q : List (List UInt8)} (h : QAt X w g room q) (he : Ext w w') : QAt X w' g room q := by
  obtain ⟨h1, h2, h3, h4, first, vs, h5, h6⟩ := h
  exact ⟨h1, h2, h3, h4, first, vs, h5.ext he, h6.out (Out.of_ext he)⟩
theorem QAt.only {X : Nat → Prop} {w w' : World} {g b : Nat} {room : Int} {q : List (List UInt8)} (h : QAt X w g room q) (ho : Only b w w') (hb : X b) (hne : g ≠ b) : QAt X w' g room q := by
  obtain ⟨h1, h2, h3, h4, first, vs, h5, h6⟩ := h
  exact ⟨h1, h2, h3, h4, first, vs, h5.grown ho (fun e => hne (by injection e)), h6.out (Out.of_only ho hb)⟩
set_option maxRecDepth 100000
section
theorem place_any (w : World) (g first i : Nat) (h1 : w.cell? ⟨g, 1, none⟩ = some (.int .i64 (first : Int))) (hf : first < 16) (hi : i ≤ 16) :
    Calls Try.prog 78 #[.pointer (some ⟨g, 0, none⟩), .int .i64 (i : Int)] w fun e w' => e = .returned (.int .i64 (((first + i) % 16 : Nat) : Int)) ∧ w = w' := by
  go_enter Try.func78, Try.ntmps78
  go_wp2
  go_ret
  refine ⟨ret_int ?_, rfl⟩
  first | omega | (rw [Int.tmod_eq_emod_of_nonneg (by omega)]; omega)
theorem newQBad_any (room : Int) (w : World) (h : room < 1 ∨ 16 < room) :
    Calls Try.prog 48 #[.int .i64 room] w fun e w' => e = .returned (.tuple #[.pointer none, .int .i64 1]) ∧ w = w' := by
  by_cases h1 : room < 1
  · clear h
    go_enter Try.func48, Try.ntmps48
    go_wp2
    go_ret2
    exact ⟨rfl, rfl⟩
  · have h2 : 16 < room := by omega
    clear h
    go_enter Try.func48, Try.ntmps48
    go_wp2
    go_ret2
    exact ⟨rfl, rfl⟩
theorem newQ_any (room : Int) (w : World) (h1 : 1 ≤ room) (h2 : room ≤ 16) :
    Calls Try.prog 48 #[.int .i64 room] w fun e w' => e = .returned (.tuple #[.pointer (some ⟨w.heap.size, 0, none⟩), .int .i64 0]) ∧ Blk w' w.heap.size 139 (queueCells room 0 0 (List.replicate 16 (.slice none 0 0))) ∧ Ext w w' := by
  go_enter Try.func48, Try.ntmps48
  go_wp2
  go_ret2
  exact ⟨rfl, Blk.new w _ _, ext_alloc _ _⟩

theorem pushQ_any (X : Nat → Prop) (w : World) (g : Nat) (room : Int) (q : List (List UInt8)) (v : Value) (x : List UInt8) (h : QAt X w g room q) (hX : ∀ b, X b → b < w.heap.size) (hv : IsSlice repByte w (all w) v x) (hx : x.length ≤ 64) (hroom : (q.length : Int) < room) :
    Calls Try.prog 53 #[.pointer (some ⟨g, 0, none⟩), v] w fun e w' => e = .returned (.int .i64 0) ∧ QAt X w' g room (q ++ [x]) ∧ Only g w w' := by
  obtain ⟨hXg, hr1, hr2, hcap, first, vs, hb, hring⟩ := h
  obtain ⟨c0, c1, c2, c3⟩ := qCells hb
  have hfin : ∀ (j : Nat) (w2 : World) (u : Value), j = (first + q.length) % 16 → IsSlice repByte w2 (fresh w w2) u x → Ext w w2 →
      QAt X ((w2.setCell ⟨g, 3 + j, none⟩ u).setCell ⟨g, 2, none⟩ (.int .i64 ((q.length : Int) + 1))) g room (q ++ [x]) ∧ Only g w ((w2.setCell ⟨g, 3 + j, none⟩ u).setCell ⟨g, 2, none⟩ (.int .i64 ((q.length : Int) + 1))) := by
    intro j w2 u hj hu he
    have hb2 := ((hb.ext he).set_ (3 + j) u).set_ 2 (.int .i64 ((q.length + 1 : Nat) : Int))
    rw [queue_set, queue_set2] at hb2
    have ho : Only g w2 ((w2.setCell ⟨g, 3 + j, none⟩ u).setCell ⟨g, 2, none⟩ (.int .i64 ((q.length + 1 : Nat) : Int))) := ((Only.refl g w2).set_ _ _).set_ _ _
    have hr := (hring.out (Out.of_ext he)).push (by omega) (hu.outNew hX) hx
    have hr := hr.out (Out.of_only ho hXg)
    rw [← hj] at hr
    have hb3 : Blk ((w2.setCell ⟨g, 3 + j, none⟩ u).setCell ⟨g, 2, none⟩ (.int .i64 ((q.length + 1 : Nat) : Int))) g 139 (queueCells room first (q ++ [x]).length (vs.set j u)) := by
      rw [List.length_append]; exact hb2
    exact ⟨⟨hXg, hr1, hr2, by simp; omega, first, _, hb3, hr⟩, (Only.of_ext he).trans ho⟩
  obtain ⟨j, hj⟩ : ∃ j, j = (first + q.length) % 16 := ⟨_, rfl⟩
  have hj16 : j < 16 := by omega
  have hjI : (j : Int) < 16 := by omega
  have hlow := hring.low
  have hq16 := hring.q16
  have HP : ∀ w2 : World, w2.cell? ⟨g, 1, none⟩ = some (.int .i64 (first : Int)) → Calls Try.prog 78 #[.pointer (some ⟨g, 0, none⟩), .int .i64 (q.length : Int)] w2 fun e w' => e = .returned (.int .i64 (j : Int)) ∧ w2 = w' := fun w2 h2 => by
    rw [hj]; exact place_any w2 g first q.length h2 hlow hq16
  obtain ⟨vj, hvj⟩ : ∃ vj, vs[j]? = some vj := ⟨_, List.getElem?_eq_getElem (by rw [hring.len]; exact hj16)⟩
  have HF := hid (fun w2 u => hfin j w2 u hj)
  have HPH := hid HP
  have cj : w.cell? ⟨g, 3 + j, none⟩ = some vj := (c3 j).trans hvj
  have fj := hb.frozen (3 + j)
  have f2 := hb.frozen 2
  have hlt := hb.lt
  have HC := hid (fun w2 (he : Ext w w2) => cloneB_any _ _ w2 (hv.ext he) (by omega))
  have hq0 : (room == 0) = false := by simp; omega
  have hsh := hv.shape
  obtain ⟨A, c, rfl⟩ := hsh
  generalize q.length = qn at *
  generalize x.length = xn at *
  clear hfin HP hring hj hvj c3 hv hX
  go_enter Try.func53, Try.ntmps53
  go_wp2
  go_quiet (fail)
  go_wp2
  go_region_law (first
    | (go_simp; go_at_call 78; refine (HPH.out _ (by assumption)).mono ?_; rintro r w2 ⟨rfl, rfl⟩; dsimp only)
    | (go_simp; go_at_call 77; refine (HC.out _ (ext_drewN _ _)).mono ?_; rintro r w2 ⟨u, rfl, hu, hx2⟩; have cj2 := (Ext.cell hx2 hlt _).trans cj; have fj2 := ((hb.drewN _).ext hx2).frozen (3 + j); have c22 := (Ext.cell hx2 hlt _).trans c2; have f22 := ((hb.drewN _).ext hx2).frozen 2; obtain ⟨Au, cu, rfl⟩ := hu.shape; dsimp only))
  go_wp2
  go_ret
  exact ⟨rfl, HF.out _ _ (hu.since (ext_drewN _ _)) (Ext.trans (ext_drewN w _) hx2)⟩

theorem at_any (X : Nat → Prop) (w : World) (g : Nat) (room : Int) (q : List (List UInt8)) (i : Nat) (x : List UInt8) (h : QAt X w g room q) (hx : q[i]? = some x) :
    Calls Try.prog 81 #[.pointer (some ⟨g, 0, none⟩), .int .i64 (i : Int)] w fun e w' => ∃ u, e = .returned (.tuple #[u, .bool true]) ∧ IsSlice repByte w' (fresh w w') u x ∧ Ext w w' := by
  obtain ⟨hXg, hr1, hr2, hcap, first, vs, hb, hring⟩ := h
  obtain ⟨c0, c1, c2, c3⟩ := qCells hb
  have hi := lt_of_get hx
  have hq16 := hring.q16
  have hlow := hring.low
  obtain ⟨v, hv, hs⟩ := hring.at_ i hi
  have hsh := hring.short i hi
  have hxe : q[i] = x := by rw [List.getElem?_eq_getElem hi] at hx; injection hx
  rw [hxe] at hs hsh
  have hsa := hs.outAll
  have hb16 : (first + i) % 16 < 16 := by omega
  have c4 := (c3 _).trans hv
  have HP : ∀ w2 : World, w2.cell? ⟨g, 1, none⟩ = some (.int .i64 (first : Int)) → Calls Try.prog 78 #[.pointer (some ⟨g, 0, none⟩), .int .i64 (i : Int)] w2 fun e w' => e = .returned (.int .i64 (((first + i) % 16 : Nat) : Int)) ∧ w2 = w' := fun w2 h2 => place_any w2 g first i h2 hlow (by omega)
  generalize (first + i) % 16 = j at *
  have hjI : (j : Int) < 16 := by omega
  have HC := hid (fun w2 (he : Ext w w2) => cloneB_any _ _ w2 (hsa.ext he) (by omega))
  have HPH := hid HP
  obtain ⟨A, c, rfl⟩ := hs.shape
  have hgt : ¬ (q.length : Int) ≤ (i : Int) := by omega
  clear HP hring hv c3 hs hsa hsh hxe hx hcap hb hi
  generalize q.length = qn at *
  go_enter Try.func81, Try.ntmps81
  go_wp2
  go_region_law (first
    | (go_simp; go_at_call 78; refine (HPH.out _ (by assumption)).mono ?_; rintro r w2 ⟨rfl, rfl⟩; dsimp only)
    | (go_simp; go_at_call 77; refine (HC.out _ (ext_drewN _ _)).mono ?_; rintro r w2 ⟨u, rfl, hu, hx2⟩; dsimp only))
  all_goals
    go_wp2
    go_ret2
    exact ⟨_, rfl, hu.since (ext_drewN _ _), Ext.trans (ext_drewN w _) hx2⟩
theorem atEnd_any (X : Nat → Prop) (w : World) (g : Nat) (room : Int) (q : List (List UInt8)) (h : QAt X w g room q) :
    Calls Try.prog 81 #[.pointer (some ⟨g, 0, none⟩), .int .i64 (q.length : Int)] w fun e w' => e = .returned (.tuple #[.slice none 0 0, .bool false]) ∧ w = w' := by
  obtain ⟨hXg, hr1, hr2, hcap, first, vs, hb, hring⟩ := h
  obtain ⟨c0, c1, c2, c3⟩ := qCells hb
  generalize q.length = qn at *
  clear hring c3
  go_enter Try.func81, Try.ntmps81
  go_wp2
  go_ret2
  exact ⟨rfl, rfl⟩
theorem front_any (X : Nat → Prop) (w : World) (g : Nat) (room : Int) (q : List (List UInt8)) (x : List UInt8) (h : QAt X w g room (x :: q)) :
    Calls Try.prog 57 #[.pointer (some ⟨g, 0, none⟩)] w fun e w' => ∃ u, e = .returned (.tuple #[u, .bool true]) ∧ IsSlice repByte w' (fresh w w') u x ∧ Ext w w' := by
  have HA := hid (at_any X w g room (x :: q) 0 x h rfl)
  clear h
  go_enter Try.func57, Try.ntmps57
  go_wp2_with (go_at_call 81; refine HA.out.mono ?_; rintro e w2 ⟨u, rfl, hu, hx2⟩)
  go_ret2
  exact ⟨_, rfl, hu, hx2⟩
theorem frontNil_any (X : Nat → Prop) (w : World) (g : Nat) (room : Int) (h : QAt X w g room []) :
    Calls Try.prog 57 #[.pointer (some ⟨g, 0, none⟩)] w fun e w' => e = .returned (.tuple #[.slice none 0 0, .bool false]) ∧ w = w' := by
  have HA := hid (atEnd_any X w g room [] h)
  clear h
  go_enter Try.func57, Try.ntmps57
  go_wp2_with (go_at_call 81; refine HA.out.mono ?_; rintro e w2 ⟨rfl, rfl⟩)
  go_ret2
  exact ⟨rfl, rfl⟩
theorem popNil_any (X : Nat → Prop) (w : World) (g : Nat) (room : Int) (h : QAt X w g room []) :
    Calls Try.prog 80 #[.pointer (some ⟨g, 0, none⟩)] w fun e w' => e = .returned (.tuple #[.slice none 0 0, .bool false]) ∧ w = w' := by
  have HA := hid (frontNil_any X w g room h)
  clear h
  go_enter Try.func80, Try.ntmps80
  go_wp2_with (go_at_call 57; refine HA.out.mono ?_; rintro e w2 ⟨rfl, rfl⟩)
  go_ret2
  exact ⟨rfl, rfl⟩
theorem pop_any (X : Nat → Prop) (w : World) (g : Nat) (room : Int) (q : List (List UInt8)) (x : List UInt8) (h : QAt X w g room (x :: q)) (hX : ∀ b, X b → b < w.heap.size) :
    Calls Try.prog 80 #[.pointer (some ⟨g, 0, none⟩)] w fun e w' => ∃ u, e = .returned (.tuple #[u, .bool true]) ∧ IsSlice repByte w' (fresh w w') u x ∧ QAt X w' g room q ∧ Only g w w' := by
  have HA := hid (front_any X w g room q x h)
  obtain ⟨hXg, hr1, hr2, hcap, first, vs, hb, hring⟩ := h
  have hlow := hring.low
  obtain ⟨m, hm⟩ : ∃ m, m = (x :: q).length := ⟨_, rfl⟩
  obtain ⟨j, hj⟩ : ∃ j, j = (first + 1) % 16 := ⟨_, rfl⟩
  rw [← hm] at hb
  have hfin : ∀ (w2 : World) (k : Nat) (u : Value), IsSlice repByte w2 (fresh w w2) u x → Ext w w2 →
      IsSlice repByte ((((w2.drewN k).setCell ⟨g, 3 + first, none⟩ (.slice none 0 0)).setCell ⟨g, 1, none⟩ (.int .i64 (j : Int))).setCell ⟨g, 2, none⟩ (.int .i64 ((m : Int) - 1)))
        (fresh w ((((w2.drewN k).setCell ⟨g, 3 + first, none⟩ (.slice none 0 0)).setCell ⟨g, 1, none⟩ (.int .i64 (j : Int))).setCell ⟨g, 2, none⟩ (.int .i64 ((m : Int) - 1)))) u x ∧
      QAt X ((((w2.drewN k).setCell ⟨g, 3 + first, none⟩ (.slice none 0 0)).setCell ⟨g, 1, none⟩ (.int .i64 (j : Int))).setCell ⟨g, 2, none⟩ (.int .i64 ((m : Int) - 1))) g room q ∧
      Only g w ((((w2.drewN k).setCell ⟨g, 3 + first, none⟩ (.slice none 0 0)).setCell ⟨g, 1, none⟩ (.int .i64 (j : Int))).setCell ⟨g, 2, none⟩ (.int .i64 ((m : Int) - 1))) := by
    intro w2 k u hu he
    have hml : ((m : Int) - 1) = ((q.length : Nat) : Int) := by rw [hm, List.length_cons]; omega
    rw [hml]
    have hb2 := ((((hb.ext he).drewN k).set_ (3 + first) (.slice none 0 0)).set_ 1 (.int .i64 (j : Int))).set_ 2 (.int .i64 ((q.length : Nat) : Int))
    rw [queue_set, queue_set1, queue_set2] at hb2
    have ho : Only g w2 ((((w2.drewN k).setCell ⟨g, 3 + first, none⟩ (.slice none 0 0)).setCell ⟨g, 1, none⟩ (.int .i64 (j : Int))).setCell ⟨g, 2, none⟩ (.int .i64 ((q.length : Nat) : Int))) := (((Only.of_ext (ext_drewN w2 k)).set_ _ _).set_ _ _).set_ _ _
    have hr := ((hring.out (Out.of_ext he)).pop (.slice none 0 0)).out (Out.of_only ho hXg)
    rw [← hj] at hr
    refine ⟨hu.keep fun b hb' => ⟨⟨hb'.1, Nat.lt_of_lt_of_le hb'.2 ho.size⟩, fun o => ho.cell hb'.2 (fun e => by have := hb.lt; have := hb'.1; omega) o⟩, ⟨hXg, hr1, hr2, by simp at hcap; omega, j, _, hb2, hr⟩, (Only.of_ext he).trans ho⟩
  have HF := hid hfin
  obtain ⟨v0, hv0⟩ : ∃ v0, vs[first]? = some v0 := ⟨_, List.getElem?_eq_getElem (by rw [hring.len]; exact hlow)⟩
  have HP : ∀ w2 : World, w2.cell? ⟨g, 1, none⟩ = some (.int .i64 (first : Int)) → Calls Try.prog 78 #[.pointer (some ⟨g, 0, none⟩), .int .i64 1] w2 fun e w' => e = .returned (.int .i64 (j : Int)) ∧ w2 = w' := fun w2 h2 => by
    rw [hj]; exact place_any w2 g first 1 h2 hlow (by omega)
  have HPH := hid HP
  have hq16 := hring.q16
  have hm16 : m ≤ 16 := by omega
  have hm1 : 1 ≤ m := by rw [hm, List.length_cons]; omega
  have hfI : (first : Int) < 16 := by omega
  have HV0 := hid hv0
  have HB := hid hb
  clear hfin HP hcap hring hm hj hv0 hX hq16
  go_enter Try.func80, Try.ntmps80
  go_wp2_with (go_at_call 57; refine HA.out.mono ?_; rintro e w2 ⟨u, rfl, hu, hx2⟩; have hb2 := hb.ext hx2; have hq := qCells hb2; obtain ⟨c0, c1, c2, c3⟩ := hq; have c4 := (c3 first).trans HV0.out; have f4 := hb2.frozen (3 + first); have f1 := hb2.frozen 1; have f2 := hb2.frozen 2; clear c3; clear hb)
  go_region_law (fail)
  go_wp2_with (go_at_call 78; have hb3 := (hb2.set_ (3 + first) (.slice none 0 0)).drew; rw [queue_set] at hb3; refine (HPH.out _ (qCells hb3).2.1).mono ?_; rintro r w3 ⟨rfl, rfl⟩)
  go_ret2
  exact ⟨_, rfl, HF.out _ 1 _ hu hx2⟩
end
end Go.Proofs.Ytimlbebockfioaa
