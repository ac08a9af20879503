/- What a call leaves as it was, but for some blocks; what is struck from a map. No program in sight. -/
import Derived.Test.YtimlbebockfioaaDoorObj
import Derived.Test.YtimlbebockfioaaDoorMap
namespace Go.Proofs.YtimlbebockfioaaDoor
open Go.RowKit

/-- All blocks but those of X stay. -/
structure Out (X : Nat → Prop) (w w' : World) : Prop where
  os : w'.os = w.os
  tape : w'.tape = w.tape
  output : w'.output = w.output
  size : w.heap.size ≤ w'.heap.size
  block : ∀ k, k < w.heap.size → ¬ X k → w'.heap[k]? = w.heap[k]?
section
variable {X : Nat → Prop} {w w' : World}
theorem Out.refl (X : Nat → Prop) (w : World) : Out X w w := ⟨rfl, rfl, rfl, Nat.le_refl _, fun _ _ _ => rfl⟩
theorem Out.trans {a b c : World} (h : Out X a b) (k : Out X b c) : Out X a c :=
  ⟨k.os.trans h.os, k.tape.trans h.tape, k.output.trans h.output, Nat.le_trans h.size k.size, fun i hi hn => (k.block i (Nat.lt_of_lt_of_le hi h.size) hn).trans (h.block i hi hn)⟩
theorem Out.of_ext (h : Ext w w') : Out X w w' := ⟨h.os, h.tape, h.output, h.size, fun k hk _ => h.block k hk⟩
theorem Out.of_only {g : Nat} (h : Only g w w') (hg : X g) : Out X w w' := ⟨h.os, h.tape, h.output, h.size, fun k hk hn => h.block k hk (fun e => hn (by injection e with e; exact e ▸ hg))⟩
theorem Out.mono {Y : Nat → Prop} (h : Out X w w') (hXY : ∀ b, X b → Y b) : Out Y w w' := ⟨h.os, h.tape, h.output, h.size, fun k hk hn => h.block k hk (fun hx => hn (hXY k hx))⟩
theorem Out.then {a b c : World} (h : Out X a b) (k : Ext b c) : Out X a c := h.trans (Out.of_ext k)
theorem Out.cell (h : Out X w w') {b : Nat} (hb : b < w.heap.size) (hn : ¬ X b) (o : Nat) : w'.cell? ⟨b, o, none⟩ = w.cell? ⟨b, o, none⟩ := World.cell?_of_block (h.block b hb hn)
theorem Out.ext_new {w0 : World} (h : Out X w w') (hw : Ext w0 w) (hX : ∀ b, X b → w0.heap.size ≤ b) : Ext w0 w' :=
  ⟨h.os.trans hw.os, h.tape.trans hw.tape, h.output.trans hw.output, Nat.le_trans hw.size h.size, fun k hk => (h.block k (Nat.lt_of_lt_of_le hk hw.size) (fun hx => by have := hX k hx; omega)).trans (hw.block k hk)⟩
theorem Blk.out {g : Nat} {t : TypeId} {cs : Array Value} (h : Blk w g t cs) (ho : Out X w w') (hn : ¬ X g) : Blk w' g t cs := (ho.block g h.lt hn).trans h
theorem IsSlice.out {α : Type} {r : Rep α} {v : Value} {xs : List α} (h : IsSlice r w (outOf X w) v xs) (ho : Out X w w') : IsSlice r w' (outOf X w') v xs :=
  h.keep fun _ hb => ⟨⟨Nat.lt_of_lt_of_le hb.1 ho.size, hb.2⟩, fun _ => ho.cell hb.1 hb.2 _⟩
theorem MapIs.out {κ : Type} [DecidableEq κ] {K : Key κ} {b : Nat} {l : List (κ × Value)} (h : MapIs K w b l) (ho : Out X w w') (hn : ¬ X b) : MapIs K w' b l := by
  have hlt := h.lt
  obtain ⟨es, clock, hb, hl⟩ := h
  exact ⟨es, clock, (ho.block b hlt hn).trans hb, hl⟩
theorem Own.out {α : Type} {r : Rep α} {e : TypeId} {base : Nat} {v : Value} {xs : List α} (h : Own r e base w v xs) (ho : Out X w w') (hX : ∀ b, X b → b < base) : Own r e base w' v xs := by
  have hg : w.grownBy { w' with heap := w'.heap } (some w.heap.size) ∨ True := .inr trivial
  obtain ⟨ys, h1, h2⟩ := h
  refine ⟨ys, ?_, fun j hj => r.keep (h2 j hj) fun b hb => ⟨⟨hb.1, Nat.lt_of_lt_of_le hb.2.1 ho.size, hb.2.2⟩, fun o => World.cell?_of_block (ho.block b hb.2.1 (fun hx => by have := hX b hx; have := hb.1; omega))⟩⟩
  obtain ⟨hl, hcase⟩ := h1
  refine ⟨hl, ?_⟩
  rcases hcase with hc | ⟨g, cap, cur, hv, hg, hh, hrest⟩
  · exact .inl hc
  · have hlt : g < w.heap.size := by
      rcases Nat.lt_or_ge g w.heap.size with h | h
      · exact h
      · rw [Array.getElem?_eq_none h] at hh; cases hh
    exact .inr ⟨g, cap, cur, hv, hg, (ho.block g hlt (fun hx => by have := hX g hx; omega)).trans hh, hrest⟩
end

section
variable {κ : Type} [DecidableEq κ]
def adel : List (κ × Value) → κ → List (κ × Value)
  | [], _ => []
  | p :: l, k => if k = p.1 then l else p :: adel l k
theorem adel_none {l : List (κ × Value)} {k : κ} (h : alook l k = none) : adel l k = l := by
  induction l with
  | nil => rfl
  | cons p l ih =>
    simp only [alook, List.find?_cons] at h
    by_cases hk : k = p.1
    · simp [hk] at h
    · simp only [hk, decide_false] at h
      rw [adel, if_neg hk, ih h]
theorem findNow_del (K : Key κ) (k : κ) : ∀ (es : List MapEntry) (l : List (κ × Value)) (i : Nat), es.map (fun e => (e.key, e.val)) = l.map (fun p => (K.kv p.1, p.2)) →
    ∃ r, Instr.findNow K.d (K.kv k) es i = some r ∧ r.map (·.2) = alook l k ∧ ∀ j v, r = some (j, v) → i ≤ j ∧ ((es.eraseIdx (j - i)).map fun e => (e.key, e.val)) = (adel l k).map fun p => (K.kv p.1, p.2)
  | [], [], i, _ => ⟨none, rfl, rfl, fun _ _ h => by cases h⟩
  | [], _ :: _, _, h => by simp at h
  | _ :: _, [], _, h => by simp at h
  | e :: es, p :: l, i, h => by
    simp only [List.map_cons, List.cons.injEq, Prod.mk.injEq] at h
    obtain ⟨⟨h1, h2⟩, h3⟩ := h
    simp only [Instr.findNow, h1, K.same]
    by_cases hk : k = p.1
    · simp only [hk, decide_true]
      refine ⟨_, rfl, by simp [alook, h2], fun j v hj => ?_⟩
      simp only [Option.some.injEq, Prod.mk.injEq] at hj
      obtain ⟨rfl, rfl⟩ := hj
      refine ⟨Nat.le_refl _, ?_⟩
      simp [adel, h3]
    · simp only [hk, decide_false]
      obtain ⟨r, r1, r2, r3⟩ := findNow_del K k es l (i + 1) h3
      refine ⟨r, r1, by rw [r2]; simp [alook, hk], fun j v hj => ?_⟩
      obtain ⟨q1, q2⟩ := r3 j v hj
      refine ⟨by omega, ?_⟩
      have : j - i = (j - (i + 1)) + 1 := by omega
      rw [this]
      simp only [List.eraseIdx_cons_succ, List.map_cons, adel, if_neg hk, h1, h2]
      rw [q2]
variable {P : Program} {w : World} {b : Nat} {l : List (κ × Value)}
theorem MapIs.del {K : Key κ} (h : MapIs K w b l) {t kt e : TypeId} (ht : P.underlying t = some (.map kt e)) (hk : P.underlying kt = some K.d) (k : κ) (t2 ty : TypeId) :
    ∃ w', (Builtin.delete_ #[t, t2] ty #[.map (some b), K.kv k]).run P w = .ok (.tuple #[]) w' ∧ MapIs K w' b (adel l k) ∧ w.grownBy w' (some b) := by
  obtain ⟨es, clock, hb, hl⟩ := h
  obtain ⟨r, r1, r2, r3⟩ := findNow_del K k es.toList l 0 hl
  have hg := MapKept.run_getObj_map (P := P) hb
  have hc := MapKept.run_checkKey (P := P) (w := w) hk (K.isKey k) es.isEmpty 9999
  have hf := MapKept.run_findKey (P := P) (w := w) hk r1
  have hlt : b < w.heap.size := by
    rcases Nat.lt_or_ge b w.heap.size with h | h
    · exact h
    · rw [Array.getElem?_eq_none h] at hb; cases hb
  have hgrow : ∀ o : Obj, w.grownBy { w with heap := w.heap.setIfInBounds b o } (some b) := fun o => ⟨rfl, rfl, rfl, by simp, fun i _ hi => by
    have : i ≠ b := fun e => hi (by rw [e])
    simp only [Array.getElem?_setIfInBounds]
    rw [if_neg (by omega)]⟩
  have hat : ∀ o : Obj, ({ w with heap := w.heap.setIfInBounds b o } : World).heap[b]? = some o := fun o => by simp [hlt]
  unfold Builtin.delete_
  simp only [List.getElem?_toArray, List.getElem?_cons_zero, List.getElem?_cons_succ, Sem.run_bind, run_underlying ht, Result.andThen_ok, hg, hc, hf]
  cases r with
  | none =>
    simp only [MapKept.run_setObj_map _ hb, Sem.run_bind, Sem.run_pure, Result.andThen_ok]
    refine ⟨_, rfl, ⟨_, _, hat _, ?_⟩, hgrow _⟩
    rw [adel_none (by rw [← r2]; rfl)]
    exact hl
  | some q =>
    obtain ⟨i, v0⟩ := q
    obtain ⟨_, q2⟩ := r3 i v0 rfl
    simp only [Nat.sub_zero] at q2
    simp only [MapKept.run_setObj_map _ hb, Sem.run_bind, Sem.run_pure, Result.andThen_ok]
    refine ⟨_, rfl, ⟨_, _, hat _, ?_⟩, hgrow _⟩
    rw [← q2]
    congr 1
    exact Array.toList_eraseIdxIfInBounds
variable {ops : Array Oper} {rest : List Oper} {o : Oper} {a : Act} {Q : Exit → Act → World → Prop}
/-- 'delete(m, k)'. -/
theorem wpl_delete {K : Key κ} {t kt e t2 : TypeId} {key : Value} {k : κ} (m x : Operand) (hgd : o.guard = none) (hop : o.op = Op.call { callee := Callee.builtin Builtin.delete, args := #[m, x], argTypes := #[t, t2] }) (ht : P.underlying t = some (.map kt e)) (hk : P.underlying kt = some K.d)
    (h : MapIs K w b l) (hm : a.eval m = .map (some b)) (hx : a.eval x = key) (hkey : key = K.kv k)
    (hK : ∀ w', MapIs K w' b (adel l k) → w.grownBy w' (some b) → wpList P ops Q rest (a.put o.dst (.tuple #[])) w') : wpList P ops Q (o :: rest) a w := by
  refine wpList_plain hgd fun K' hK' => ?_
  subst hkey
  obtain ⟨w', hrun, r1, r2⟩ := h.del (P := P) ht hk k t2 o.type
  unfold Oper.wp
  simp [execOp, hop, resolve, invoke, builtin, hm, hx, hrun, Result.andThen]
  exact hK' _ _ (hK w' r1 r2)
end
end Go.Proofs.YtimlbebockfioaaDoor
