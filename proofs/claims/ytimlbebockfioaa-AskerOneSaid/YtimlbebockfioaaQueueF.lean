/- The queue with its footprint: F is where its texts lie. -/
import Derived.Test.YtimlbebockfioaaQueue
import Derived.Test.YtimlbebockfioaaFoot
namespace Go.Proofs.Ytimlbebockfioaa
open Go.RowKit

def QF (F : Nat → Prop) (w : World) (g : Nat) (room : Int) (q : List (List UInt8)) : Prop :=
  QAt (fun k => k < w.heap.size ∧ ¬ F k) w g room q ∧ (∀ k, F k → k < w.heap.size) ∧ ¬ F g
section
variable {F F' Y : Nat → Prop} {w w' : World} {g : Nat} {room : Int} {q : List (List UInt8)}
theorem QF.ltp (h : QF F w g room q) : g < w.heap.size := h.1.own.1
/-- Texts that lie in F' too. -/
theorem QF.of {X : Nat → Prop} (h : QAt X w g room q) (hF : ∀ k, k < w.heap.size → ¬ X k → F k) (hlt : ∀ k, F k → k < w.heap.size) (hg : ¬ F g) : QF F w g room q := by
  obtain ⟨h1, h2, h3, h4, first, vs, hb, hr⟩ := h
  exact ⟨⟨⟨hb.lt, hg⟩, h2, h3, h4, first, vs, hb, hr.len, hr.low, hr.q16, fun i hi => (hr.at_ i hi).imp fun v hv => ⟨hv.1, hv.2.keep fun b hb => ⟨⟨hb.1, fun hn => hn.2 (hF b hb.1 hb.2)⟩, fun _ => rfl⟩⟩, hr.short⟩, hlt, hg⟩
theorem QF.away (h : QF F w g room q) (ho : Out Y w w') (hY : ∀ k, Y k → k ≠ g ∧ ¬ F k) : QF F w' g room q := by
  obtain ⟨⟨h1, h2, h3, h4, first, vs, hb, hr⟩, h5, h6⟩ := h
  refine ⟨⟨⟨Nat.lt_of_lt_of_le h1.1 ho.size, h6⟩, h2, h3, h4, first, vs, hb.out ho fun hy => (hY g hy).1 rfl, hr.len, hr.low, hr.q16, fun i hi => (hr.at_ i hi).imp fun v hv => ⟨hv.1, hv.2.keep fun b hb => ?_⟩, hr.short⟩, fun k hk => Nat.lt_of_lt_of_le (h5 k hk) ho.size, h6⟩
  have hF : F b := Classical.byContradiction fun hn => hb.2 ⟨hb.1, hn⟩
  exact ⟨⟨Nat.lt_of_lt_of_le hb.1 ho.size, fun hn => hn.2 hF⟩, fun o => ho.cell hb.1 (fun hy => (hY b hy).2 hF) o⟩
theorem QF.ext (h : QF F w g room q) (he : Ext w w') : QF F w' g room q := h.away (Y := fun _ => False) (Out.of_ext he) fun _ h => h.elim
theorem QF.len (h : QF F w g room q) : w.cell? ⟨g, 2, none⟩ = some (.int .i64 (q.length : Int)) ∧ q.length ≤ 16 ∧ (q.length : Int) ≤ room ∧ ∀ x ∈ q, x.length ≤ 64 := by
  obtain ⟨⟨_, _, _, h4, first, vs, hb, hr⟩, _⟩ := h
  refine ⟨(qCells hb).2.2.1, hr.q16, h4, fun x hx => ?_⟩
  obtain ⟨i, hi, rfl⟩ := List.mem_iff_getElem.1 hx
  exact hr.short i hi
end
set_option maxRecDepth 100000
section
variable {F : Nat → Prop} {w : World} {g : Nat} {room : Int} {q : List (List UInt8)}
theorem lenF_any (h : QF F w g room q) :
    Calls Try.prog 52 #[.pointer (some ⟨g, 0, none⟩)] w fun e w' => e = .returned (.int .i64 (q.length : Int)) ∧ w = w' := by
  have c2 := h.len.1
  clear h
  go_enter Try.func52, Try.ntmps52
  go_wp2
  go_ret
  exact ⟨rfl, rfl⟩
theorem pushF_any (h : QF F w g room q) (v : Value) (x : List UInt8) (hv : IsSlice repByte w (all w) v x) (hx : x.length ≤ 64) (hr : (q.length : Int) < room) :
    Calls Try.prog 53 #[.pointer (some ⟨g, 0, none⟩), v] w fun e w' => e = .returned (.int .i64 0) ∧ QF (grow F w w') w' g room (q ++ [x]) ∧ Only g w w' := by
  have hg := h.ltp
  refine (pushQ_any _ w g room q v x h.1 (fun k hk => hk.1) hv hx hr).mono ?_
  rintro e w' ⟨rfl, hq, ho⟩
  refine ⟨rfl, QF.of hq (fun k hk hn => ?_) (fun k hk => hk.elim (fun e => Nat.lt_of_lt_of_le (h.2.1 k e) ho.size) fun e => e.2) fun hk => hk.elim h.2.2 fun e => by omega, ho⟩
  by_cases hkw : k < w.heap.size
  · exact .inl (Classical.byContradiction fun hF => hn ⟨hkw, hF⟩)
  · exact .inr ⟨by omega, hk⟩
theorem pushLong_any (h : QF F w g room q) (A : Option Addr) (n c : Nat) (hx : 64 < n) :
    Calls Try.prog 53 #[.pointer (some ⟨g, 0, none⟩), .slice A n c] w fun e w' => e = .returned (.int .i64 2) ∧ w = w' := by
  obtain ⟨⟨_, h2, h3, _, first, vs, hb, _⟩, _⟩ := h
  have c0 := (qCells hb).1
  have d0 : (room == 0) = false := by simp; omega
  have d1 : decide (64 < n) = true := decide_eq_true hx
  have d2 : decide ((64 : Int) < (n : Int)) = true := decide_eq_true (by omega)
  clear hb hx
  go_enter Try.func53, Try.ntmps53
  go_wp2
  go_ret
  exact ⟨rfl, rfl⟩
theorem pushFull_any (h : QF F w g room q) (A : Option Addr) (n c : Nat) (hx : n ≤ 64) (hr : room ≤ (q.length : Int)) :
    Calls Try.prog 53 #[.pointer (some ⟨g, 0, none⟩), .slice A n c] w fun e w' => e = .returned (.int .i64 3) ∧ ∃ d, w' = w.drewN d := by
  obtain ⟨⟨_, h2, h3, _, first, vs, hb, _⟩, _⟩ := h
  have c0 := (qCells hb).1
  have c2 := (qCells hb).2.2.1
  have d0 : (room == 0) = false := by simp; omega
  have d1 : decide (64 < n) = false := decide_eq_false (by omega)
  have d2 : decide ((64 : Int) < (n : Int)) = false := decide_eq_false (by omega)
  have d3 : decide (room ≤ (q.length : Int)) = true := decide_eq_true hr
  clear hb hx hr
  generalize q.length = ql at *
  go_enter Try.func53, Try.ntmps53
  go_wp2
  go_quiet (fail)
  go_wp2
  go_ret
  exact ⟨rfl, _, rfl⟩
theorem frontF_any {x : List UInt8} (h : QF F w g room (x :: q)) :
    Calls Try.prog 57 #[.pointer (some ⟨g, 0, none⟩)] w fun e w' => ∃ u, e = .returned (.tuple #[u, .bool true]) ∧ IsSlice repByte w' (fresh w w') u x ∧ Ext w w' := front_any _ w g room q x h.1
theorem popF_any {x : List UInt8} (h : QF F w g room (x :: q)) :
    Calls Try.prog 80 #[.pointer (some ⟨g, 0, none⟩)] w fun e w' => ∃ u, e = .returned (.tuple #[u, .bool true]) ∧ IsSlice repByte w' (fresh w w') u x ∧ QF (grow F w w') w' g room q ∧ Only g w w' := by
  have hg := h.ltp
  refine (pop_any _ w g room q x h.1 (fun k hk => hk.1)).mono ?_
  rintro e w' ⟨u, rfl, hu, hq, ho⟩
  refine ⟨u, rfl, hu, QF.of hq (fun k hk hn => ?_) (fun k hk => hk.elim (fun e => Nat.lt_of_lt_of_le (h.2.1 k e) ho.size) fun e => e.2) fun hk => hk.elim h.2.2 fun e => by omega, ho⟩
  by_cases hkw : k < w.heap.size
  · exact .inl (Classical.byContradiction fun hF => hn ⟨hkw, hF⟩)
  · exact .inr ⟨by omega, hk⟩
theorem newF_any (room : Int) (w : World) (h1 : 1 ≤ room) (h2 : room ≤ 16) :
    Calls Try.prog 48 #[.int .i64 room] w fun e w' => e = .returned (.tuple #[.pointer (some ⟨w.heap.size, 0, none⟩), .int .i64 0]) ∧ QF (fun _ => False) w' w.heap.size room [] ∧ Ext w w' ∧ w.heap.size < w'.heap.size := by
  refine (newQ_any room w h1 h2).mono ?_
  rintro e w' ⟨rfl, hb, hx⟩
  exact ⟨rfl, ⟨⟨⟨hb.lt, fun h => h⟩, h1, h2, by simp; omega, 0, _, hb, ⟨by simp, by omega, by simp, fun i hi => by simp at hi, fun i hi => by simp at hi⟩⟩, fun _ h => h.elim, fun h => h⟩, hx, hb.lt⟩
end
end Go.Proofs.Ytimlbebockfioaa
