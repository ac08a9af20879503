/- What a run does where a part of memory is hidden: the same, as long as it ends well. No program in sight. -/
import Derived.Test.YtjchobncmogcpaaOut
namespace Go.Proofs.Ytjchobncmogcpaa
open Go.RowKit

def isNum : Obj → Bool | .number .. => true | _ => false
def isBad : Obj → Bool | .view a _ => a.spot.isNone | .pending .. => true | _ => false
/-- What stands where a block is hidden. -/
def deadOf : Obj → Obj | .cells _ e f => .cells #[] e (if f.2 ≤ f.1 then (1, 0) else f) | .view .. => .view ⟨0, 0, some 0⟩ 0 | _ => .coro none

/-- The blocks D are hidden in v, and in w as they were in w0; all else is the same. -/
structure Veil (D : Nat → Prop) (w0 v w : World) : Prop where
  size : v.heap.size = w.heap.size
  grow : w0.heap.size ≤ w.heap.size
  live : ∀ k, ¬ D k → v.heap[k]? = w.heap[k]?
  dead : ∀ k, D k → ∃ o, w0.heap[k]? = some o ∧ w.heap[k]? = some o ∧ v.heap[k]? = some (deadOf o) ∧ isNum o = false
  good : ∀ (k : Nat) (o : Obj), v.heap[k]? = some o → isBad o = false
  tape : v.tape = w.tape
  drawn : v.drawn = w.drawn
  os : v.os = w.os
  output : v.output = w.output

section
variable {D : Nat → Prop} {w0 v w : World}
theorem Veil.lt (h : Veil D w0 v w) {k : Nat} (hk : D k) : k < v.heap.size := by
  obtain ⟨o, _, _, h3, _⟩ := h.dead k hk
  exact (Array.getElem?_eq_some_iff.1 h3).1
theorem Veil.cell (h : Veil D w0 v w) {a : Addr} {x : Value} (hc : v.cell? a = some x) : w.cell? a = some x ∧ ¬ D a.block := by
  by_cases hd : D a.block
  · obtain ⟨o, _, _, h3, _⟩ := h.dead _ hd
    unfold World.cell? at hc
    rw [h3] at hc
    cases o <;> simp [deadOf] at hc
  · refine ⟨?_, hd⟩
    unfold World.cell? at hc ⊢
    rw [← h.live _ hd]
    exact hc
theorem Veil.frozen (h : Veil D w0 v w) (a : Addr) : w.frozen? a = v.frozen? a := by
  unfold World.frozen?
  by_cases hd : D a.block
  · obtain ⟨o, _, h2, h3, _⟩ := h.dead _ hd
    rw [h2, h3]
    cases o with
    | cells c e f =>
      simp only [deadOf]
      split
      · rename_i hq
        have h1 : (decide (f.1 ≤ a.off) && decide (a.off < f.2)) = false := by
          cases h5 : decide (f.1 ≤ a.off) <;> cases h6 : decide (a.off < f.2) <;> simp at h5 h6 ⊢ <;> omega
        have h2 : (decide ((1 : Nat) ≤ a.off) && decide (a.off < 0)) = false := by simp
        rw [h1, h2]
      · rfl
    | _ => rfl
  · rw [h.live _ hd]
theorem Veil.shape (h : Veil D w0 v w) (r : Nat) : (w.shape? r).map (·.1) = (v.shape? r).map (·.1) := by
  unfold World.shape?
  by_cases hd : D r
  · obtain ⟨o, _, h2, h3, _⟩ := h.dead _ hd
    rw [h2, h3]
    cases o <;> rfl
  · rw [h.live _ hd]
/-- One block turned, on both sides alike. -/
theorem Veil.turn (h : Veil D w0 v w) {r : Nat} (hd : ¬ D r) {hv hw : Array Obj} (h1 : hv.size = v.heap.size) (h2 : hw.size = w.heap.size) (h3 : hv[r]? = hw[r]?)
    (h4 : ∀ k, k ≠ r → hv[k]? = v.heap[k]?) (h5 : ∀ k, k ≠ r → hw[k]? = w.heap[k]?) (h6 : ∀ o, hv[r]? = some o → isBad o = false) : Veil D w0 { v with heap := hv } { w with heap := hw } := by
  refine ⟨by simp [h1, h2, h.size], by show _ ≤ hw.size; rw [h2]; exact h.grow, fun k hk => ?_, fun k hk => ?_, fun k o hk => ?_, h.tape, h.drawn, h.os, h.output⟩
  · by_cases e : k = r
    · subst e; exact h3
    · exact (h4 k e).trans ((h.live k hk).trans (h5 k e).symm)
  · have e : k ≠ r := fun e => hd (e ▸ hk)
    obtain ⟨o, g1, g2, g3, g4⟩ := h.dead k hk
    exact ⟨o, g1, (h5 k e).trans g2, (h4 k e).trans g3, g4⟩
  · by_cases e : k = r
    · subst e; exact h6 o hk
    · exact h.good k o ((h4 k e).symm.trans hk)
theorem Veil.setCell (h : Veil D w0 v w) {a : Addr} (hd : ¬ D a.block) (x : Value) : Veil D w0 (v.setCell a x) (w.setCell a x) := by
  unfold World.setCell
  refine h.turn hd (by simp) (by simp) ?_ (fun k hk => ?_) (fun k hk => ?_) (fun o ho => ?_)
  · simp [Array.getElem?_modify, h.live _ hd]
  · rw [Array.getElem?_modify, if_neg (fun e => hk e.symm)]
  · rw [Array.getElem?_modify, if_neg (fun e => hk e.symm)]
  · simp only [Array.getElem?_modify, if_true] at ho
    cases hv : v.heap[a.block]? with
    | none => rw [hv] at ho; cases ho
    | some q =>
      rw [hv] at ho
      have hb := h.good _ _ hv
      cases q <;> simp at ho <;> subst ho <;> first | rfl | exact hb
theorem Veil.setObj (h : Veil D w0 v w) {r : Nat} (hd : ¬ D r) {o : Obj} (ho : isBad o = false) : Veil D w0 { v with heap := v.heap.setIfInBounds r o } { w with heap := w.heap.setIfInBounds r o } := by
  refine h.turn hd (by simp) (by simp) ?_ (fun k hk => ?_) (fun k hk => ?_) (fun q hq => ?_)
  · simp [Array.getElem?_setIfInBounds, h.size]
  · rw [Array.getElem?_setIfInBounds_ne (fun e => hk e.symm)]
  · rw [Array.getElem?_setIfInBounds_ne (fun e => hk e.symm)]
  · by_cases hr : r < v.heap.size
    · simp [hr] at hq; subst hq; exact ho
    · simp [hr] at hq
theorem Veil.push (h : Veil D w0 v w) {o : Obj} (ho : isBad o = false) : Veil D w0 { v with heap := v.heap.push o } { w with heap := w.heap.push o } := by
  refine ⟨by simp [h.size], by have := h.grow; simp; omega, fun k hk => ?_, fun k hk => ?_, fun k q hk => ?_, h.tape, h.drawn, h.os, h.output⟩
  · simp only [Array.getElem?_push, h.size]
    split
    · rfl
    · exact h.live k hk
  · have hlt := h.lt hk
    obtain ⟨q, g1, g2, g3, g4⟩ := h.dead k hk
    refine ⟨q, g1, ?_, ?_, g4⟩
    · show (w.heap.push o)[k]? = _
      rw [Array.getElem?_push, if_neg (by have := h.size; omega)]; exact g2
    · show (v.heap.push o)[k]? = _
      rw [Array.getElem?_push, if_neg (by omega)]; exact g3
  · by_cases e : k = v.heap.size
    · subst e
      have hq : (v.heap.push o)[v.heap.size]? = some q := hk
      simp at hq
      subst hq; exact ho
    · have hq : (v.heap.push o)[k]? = some q := hk
      rw [Array.getElem?_push, if_neg e] at hq
      exact h.good k q hq
theorem Veil.drew (h : Veil D w0 v w) : Veil D w0 { v with drawn := v.drawn + 1 } { w with drawn := w.drawn + 1 } :=
  ⟨h.size, h.grow, h.live, h.dead, h.good, h.tape, by simp [h.drawn], h.os, h.output⟩
end

/-- A stop behind which nothing comes. -/
def Ends : Halt → Prop | .stuck _ => True | .unsupported (.initOrder _) => False | .unsupported _ => True | _ => False

def Veils {α : Type} (D : Nat → Prop) (w0 : World) : Result α → Result α → Prop
  | .ok a v', r => ∃ w', r = .ok a w' ∧ Veil D w0 v' w'
  | .halt (.panic x) v', r => ∃ w', r = .halt (.panic x) w' ∧ Veil D w0 v' w'
  | .halt h _, _ => Ends h

/-- A piece of the machine that goes its way under a veil as without. -/
structure Tame {α : Type} (P : Program) (D : Nat → Prop) (s : Sem α) : Prop where
  out : ∀ w0 v w, Veil D w0 v w → Veils D w0 (s.run P v) (s.run P w)

section
variable {α β : Type} {P : Program} {D : Nat → Prop}
theorem Tame.pure (a : α) : Tame P D (Pure.pure a : Sem α) := ⟨fun _ _ w h => ⟨w, rfl, h⟩⟩
theorem Tame.bind {s : Sem α} {f : α → Sem β} (h : Tame P D s) (k : ∀ a, Tame P D (f a)) : Tame P D (s >>= f) := ⟨fun w0 v w hv => by
  have h1 := h.out w0 v w hv
  rw [Sem.run_bind, Sem.run_bind]
  cases hr : s.run P v with
  | ok a v' =>
    rw [hr] at h1
    obtain ⟨w', e, hv'⟩ := h1
    rw [e]
    exact (k a).out w0 v' w' hv'
  | halt hh v' =>
    rw [hr] at h1
    cases hh with
    | panic x =>
      obtain ⟨w', e, hv'⟩ := h1
      rw [e]
      exact ⟨w', rfl, hv'⟩
    | _ => exact h1⟩
/-- What follows is only asked about where what comes is known. -/
theorem Tame.bindP {s : Sem α} {f : α → Sem β} (Q : α → Prop) (h : Tame P D s) (hq : ∀ v a v', s.run P v = .ok a v' → Q a) (k : ∀ a, Q a → Tame P D (f a)) : Tame P D (s >>= f) := ⟨fun w0 v w hv => by
  have h1 := h.out w0 v w hv
  rw [Sem.run_bind, Sem.run_bind]
  cases hr : s.run P v with
  | ok a v' =>
    have hqa := hq v a v' hr
    rw [hr] at h1
    obtain ⟨w', e, hv'⟩ := h1
    rw [e]
    exact (k a hqa).out w0 v' w' hv'
  | halt hh v' =>
    rw [hr] at h1
    cases hh with
    | panic x =>
      obtain ⟨w', e, hv'⟩ := h1
      rw [e]
      exact ⟨w', rfl, hv'⟩
    | _ => exact h1⟩
theorem Tame.map {s : Sem α} (f : α → β) (h : Tame P D s) : Tame P D (f <$> s) := Tame.bind h fun a => Tame.pure (f a)
theorem Tame.ite {c : Prop} [Decidable c] {s t : Sem α} (h : c → Tame P D s) (k : ¬ c → Tame P D t) : Tame P D (if c then s else t) := by
  split
  · exact h ‹_›
  · exact k ‹_›
theorem Tame.stuck (why : String) : Tame P D (stuck why : Sem α) := ⟨fun _ _ _ _ => trivial⟩
theorem Tame.unsupported (u : Unsupported) (hu : ∀ g, u ≠ .initOrder g) : Tame P D (unsupported u : Sem α) := ⟨fun _ _ _ _ => by
  show Ends (.unsupported u)
  cases u <;> first | trivial | exact absurd rfl (hu _)⟩
theorem Tame.goPanic (x : Value) : Tame P D (goPanic x : Sem α) := ⟨fun _ _ w h => ⟨w, rfl, h⟩⟩
/-- What never comes well to an end. -/
theorem Tame.never {s : Sem α} (h : ∀ v, ∃ hh v', s.run P v = .halt hh v' ∧ Ends hh) : Tame P D s := ⟨fun w0 v w _ => by
  obtain ⟨hh, v', e, he⟩ := h v
  rw [e]
  cases hh <;> first | exact he | exact he.elim⟩
theorem Tame.program : Tame P D program := ⟨fun _ _ w h => ⟨w, rfl, h⟩⟩
theorem Tame.mark (m : Mark) : Tame P D (mark m) := ⟨fun _ _ w h => ⟨w, rfl, h⟩⟩
/-- What is seen through a blind eye. -/
theorem blind_load (at_ : Addr) (t : TypeId) (a : Addr) (b : Bool) (v : World) {w0 : World} {r : Result Value} (h : at_.spot.isNone = false) :
    Veils D w0 (match (match v.viewLoad P at_ t a b with
      | .ok r => Except.ok r
      | .error why => .error (Halt.unsupported (.unsafePointer why))) with
      | .ok (x, _) => .ok x v
      | .error h => .halt h v) r := by
  have : ∃ why, v.viewLoad P at_ t a b = .error why := by
    unfold World.viewLoad World.seen
    have : at_.spot.isSome = true := by cases hs : at_.spot <;> simp [hs] at h ⊢
    simp only [this, Bool.or_true, if_true]
    exact ⟨_, rfl⟩
  obtain ⟨why, e⟩ := this
  rw [e]
  exact trivial
theorem blind_store (at_ : Addr) (t : TypeId) (a : Addr) (x : Value) (b : Bool) (v : World) {w0 : World} {r : Result Unit} (h : at_.spot.isNone = false) :
    Veils D w0 (match (match v.viewStore P at_ t a x b with
      | .ok r => Except.ok r
      | .error why => .error (Halt.unsupported (.unsafePointer why))) with
      | .ok (w, _) => .ok () w
      | .error h => .halt h v) r := by
  have : ∃ why, v.viewStore P at_ t a x b = .error why := by
    unfold World.viewStore World.seen
    have : at_.spot.isSome = true := by cases hs : at_.spot <;> simp [hs] at h ⊢
    simp only [this, Bool.or_true, if_true]
    split <;> exact ⟨_, rfl⟩
  obtain ⟨why, e⟩ := this
  rw [e]
  exact trivial
theorem Tame.load (a : Addr) (m : Mode) : Tame P D (load a m) := ⟨fun w0 v w h => by
  rw [run_load, run_load]
  cases hc : v.cell? a with
  | some x =>
    simp only [(h.cell hc).1]
    exact ⟨w, rfl, h⟩
  | none =>
    simp only
    unfold World.farLoad World.noCell
    cases hb : v.heap[a.block]? with
    | none => exact trivial
    | some o =>
      have hg := h.good _ _ hb
      cases o <;> first | exact trivial | (simp [isBad] at hg; done) | exact blind_load _ _ _ _ _ (by simpa [isBad] using hg)⟩
theorem Tame.store (a : Addr) (x : Value) (m : Mode) : Tame P D (store a x m) := ⟨fun w0 v w h => by
  have key : ∀ (hx : ∀ (u : World), (Go.store a x m).run P u = match u.cell? a with
      | some _ => if u.frozen? a then .halt (.unsupported (.unsafePointer "a write to bytes that a string shares")) u else .ok () (u.setCell a x)
      | none => match u.farStore P a x (m == .atomic) with
        | .ok (w, _) => .ok () w
        | .error h => .halt h u), Veils D w0 ((Go.store a x m).run P v) ((Go.store a x m).run P w) := fun hx => by
    rw [hx, hx]
    cases hc : v.cell? a with
    | some y =>
      obtain ⟨h1, h2⟩ := h.cell hc
      simp only [h1, h.frozen a]
      split
      · exact trivial
      · exact ⟨_, rfl, h.setCell h2 x⟩
    | none =>
      simp only
      unfold World.farStore World.noCell
      cases hb : v.heap[a.block]? with
      | none => exact trivial
      | some o =>
        have hg := h.good _ _ hb
        cases o <;> first | exact trivial | (simp [isBad] at hg; done) | exact blind_store _ _ _ _ _ _ (by simpa [isBad] using hg)
  cases x
  case agg => exact trivial
  case tuple => exact trivial
  all_goals exact key fun u => rfl⟩
theorem Tame.newObj {o : Obj} (ho : isBad o = false) : Tame P D (newObj o) := ⟨fun w0 v w h => by
  refine ⟨{ w with heap := w.heap.push o }, ?_, h.push ho⟩
  show Result.ok w.heap.size _ = _
  rw [← h.size]⟩
theorem Tame.choose (q : Question) : Tame P D (choose q) := ⟨fun w0 v w h => by
  simp only [Go.choose, Sem.run]
  split
  · exact ⟨w, rfl, h⟩
  · refine ⟨_, ?_, h.drew⟩
    rw [← h.tape, ← h.drawn]⟩
theorem Tame.getObj {r : Nat} {f : Obj → Sem β} (hd : (∃ why, f (.coro none) = Go.stuck why) ∧ ∃ why, f (.view ⟨0, 0, some 0⟩ 0) = Go.stuck why) (k : ∀ o, ¬ D r → Tame P D (f o)) : Tame P D (getObj r >>= f) := ⟨fun w0 v w h => by
  by_cases hD : D r
  · obtain ⟨o, _, _, h3, _⟩ := h.dead r hD
    simp only [Sem.run_bind, Go.getObj, Sem.run, h3]
    obtain ⟨⟨y1, e1⟩, y2, e2⟩ := hd
    cases o <;> simp only [deadOf, Result.andThen_halt] <;> first | exact trivial | (simp only [Result.andThen_ok, e1]; exact trivial) | (simp only [Result.andThen_ok, e2]; exact trivial)
  · simp only [Sem.run_bind, Go.getObj, Sem.run, ← h.live r hD]
    cases hr : v.heap[r]? with
    | none => exact trivial
    | some o => cases o <;> first | exact trivial | exact (k _ hD).out w0 v w h⟩
theorem Tame.setObj {r : Nat} {o : Obj} (hD : ¬ D r) (ho : isBad o = false) : Tame P D (setObj r o) := ⟨fun w0 v w h => by
  simp only [Go.setObj, Sem.run, ← h.live r hD]
  cases hr : v.heap[r]? with
  | none => exact trivial
  | some q => cases q <;> first | exact trivial | exact ⟨_, rfl, h.setObj hD ho⟩⟩
end
end Go.Proofs.Ytjchobncmogcpaa
