/- Maps whose keys are numbers or texts, as association lists. No program in sight. -/
import Derived.Test.YtimlbebockfioaaDoorKit
import Derived.MapKept
namespace Go.Proofs.YtimlbebockfioaaDoor
open Go.RowKit

/-- A kind of key: how a key is a value, and that the machine tells two apart as we do. -/
structure Key (κ : Type) [DecidableEq κ] where
  kv : κ → Value
  d : TypeDesc
  isKey : ∀ k, MapKept.IsKey d (kv k)
  same : ∀ a b, Instr.sameNow d (kv a) (kv b) = some (decide (a = b))
  bits : ∀ k, Instr.sameBits 10000 (kv k) (kv k) = true

def keyInt (q : IntKind) : Key Int where
  kv k := .int q k
  d := .int q
  isKey _ := rfl
  same a b := by simp [Instr.sameNow]; rfl
  bits k := by simp [Instr.sameBits]

theorem bytes_beq (a b : List UInt8) : ((⟨a.toArray⟩ : ByteArray) == ⟨b.toArray⟩) = decide (a = b) := by
  show (a.toArray == b.toArray) = _
  rw [Bool.eq_iff_iff]
  simp
def keyText : Key (List UInt8) where
  kv k := .string ⟨k.toArray⟩
  d := .string
  isKey _ := trivial
  same a b := by simp only [Instr.sameNow]; rw [bytes_beq]
  bits k := by simp only [Instr.sameBits]; rw [bytes_beq]; simp

section
variable {κ : Type} [DecidableEq κ]

def alook (l : List (κ × Value)) (k : κ) : Option Value := (l.find? fun p => decide (k = p.1)).map (·.2)
def aput : List (κ × Value) → κ → Value → List (κ × Value)
  | [], k, v => [(k, v)]
  | p :: l, k, v => if k = p.1 then (k, v) :: l else p :: aput l k v

def MapIs (K : Key κ) (w : World) (b : Nat) (l : List (κ × Value)) : Prop :=
  ∃ es clock, w.heap[b]? = some (.map es clock) ∧ es.toList.map (fun e => (e.key, e.val)) = l.map fun p => (K.kv p.1, p.2)

theorem findNow_is (K : Key κ) (k : κ) : ∀ (es : List MapEntry) (l : List (κ × Value)) (i : Nat), es.map (fun e => (e.key, e.val)) = l.map (fun p => (K.kv p.1, p.2)) →
    ∃ r, Instr.findNow K.d (K.kv k) es i = some r ∧ r.map (·.2) = alook l k ∧ ∀ j v, r = some (j, v) → i ≤ j ∧ ∃ (h : j - i < es.length), es[j - i].key = K.kv k ∧ ∀ v', ((es.modify (j - i) fun e => { e with key := K.kv k, val := v' }).map fun e => (e.key, e.val)) = (aput l k v').map fun p => (K.kv p.1, p.2)
  | [], [], i, _ => ⟨none, rfl, rfl, fun _ _ h => by cases h⟩
  | [], _ :: _, _, h => by simp at h
  | _ :: _, [], _, h => by simp at h
  | e :: es, p :: l, i, h => by
    simp only [List.map_cons, List.cons.injEq, Prod.mk.injEq] at h
    obtain ⟨⟨h1, h2⟩, h3⟩ := h
    simp only [Instr.findNow, h1, K.same]
    by_cases hk : k = p.1
    · simp only [hk, decide_true]
      refine ⟨_, rfl, by simp [alook, h2], fun j v hj => ?_⟩
      simp only [Option.some.injEq, Prod.mk.injEq] at hj
      obtain ⟨rfl, rfl⟩ := hj
      refine ⟨Nat.le_refl _, by simp, by simp [h1], fun v' => ?_⟩
      simp [aput, h3]
    · simp only [hk, decide_false]
      obtain ⟨r, r1, r2, r3⟩ := findNow_is K k es l (i + 1) h3
      refine ⟨r, r1, by rw [r2]; simp [alook, hk], fun j v hj => ?_⟩
      obtain ⟨q1, q2, q3, q4⟩ := r3 j v hj
      refine ⟨by omega, by simp; omega, ?_, fun v' => ?_⟩
      · have : j - i = (j - (i + 1)) + 1 := by omega
        simp only [this, List.getElem_cons_succ]
        exact q3
      · have : j - i = (j - (i + 1)) + 1 := by omega
        rw [this]
        simp only [List.modify_succ_cons, List.map_cons, aput, if_neg hk, h1, h2]
        rw [q4 v']

theorem aput_new {l : List (κ × Value)} {k : κ} (h : alook l k = none) (v : Value) : aput l k v = l ++ [(k, v)] := by
  induction l with
  | nil => rfl
  | cons p l ih =>
    simp only [alook, List.find?_cons] at h
    by_cases hk : k = p.1
    · simp [hk] at h
    · simp only [hk, decide_false] at h
      rw [aput, if_neg hk, ih h]; rfl

variable {P : Program} {w : World} {b : Nat} {l : List (κ × Value)}
theorem MapIs.lookup {K : Key κ} (h : MapIs K w b l) {t kt e : TypeId} (ht : P.underlying t = some (.map kt e)) (hk : P.underlying kt = some K.d) {z : Value} (hz : (zeroValue e).run P w = .ok z w) (k : κ) :
    (Instr.lookup t (.map (some b)) (K.kv k) false).run P w = .ok ((alook l k).getD z) w := by
  obtain ⟨es, clock, hb, hl⟩ := h
  obtain ⟨r, r1, r2, _⟩ := findNow_is K k es.toList l 0 hl
  have hg := MapKept.run_getObj_map (P := P) hb
  have hc := MapKept.run_checkKey (P := P) (w := w) hk (K.isKey k) es.isEmpty 9999
  have hf := MapKept.run_findKey (P := P) (w := w) hk r1
  unfold Instr.lookup
  simp only [Sem.run_bind, run_underlying ht, Result.andThen_ok, hg, Sem.run_pure, hc, hf]
  rw [← r2]
  cases r with
  | none => simp [hz]
  | some q => obtain ⟨i, v⟩ := q; simp
theorem MapIs.lookup_ok {K : Key κ} (h : MapIs K w b l) {t kt e : TypeId} (ht : P.underlying t = some (.map kt e)) (hk : P.underlying kt = some K.d) {z : Value} (hz : (zeroValue e).run P w = .ok z w) (k : κ) :
    (Instr.lookup t (.map (some b)) (K.kv k) true).run P w = .ok (.tuple #[(alook l k).getD z, .bool (alook l k).isSome]) w := by
  obtain ⟨es, clock, hb, hl⟩ := h
  obtain ⟨r, r1, r2, _⟩ := findNow_is K k es.toList l 0 hl
  have hg := MapKept.run_getObj_map (P := P) hb
  have hc := MapKept.run_checkKey (P := P) (w := w) hk (K.isKey k) es.isEmpty 9999
  have hf := MapKept.run_findKey (P := P) (w := w) hk r1
  unfold Instr.lookup
  simp only [Sem.run_bind, run_underlying ht, Result.andThen_ok, hg, Sem.run_pure, hc, hf]
  rw [← r2]
  cases r with
  | none => simp [hz]
  | some q => obtain ⟨i, v⟩ := q; simp
theorem MapIs.update {K : Key κ} (h : MapIs K w b l) {t kt e : TypeId} (ht : P.underlying t = some (.map kt e)) (hk : P.underlying kt = some K.d) (k : κ) (v : Value) :
    ∃ w', (Instr.mapUpdate t (.map (some b)) (K.kv k) v).run P w = .ok () w' ∧ MapIs K w' b (aput l k v) ∧ w.grownBy w' (some b) := by
  obtain ⟨es, clock, hb, hl⟩ := h
  obtain ⟨r, r1, r2, r3⟩ := findNow_is K k es.toList l 0 hl
  have hg := MapKept.run_getObj_map (P := P) hb
  have hc := MapKept.run_checkKey (P := P) (w := w) hk (K.isKey k) false 9999
  have hf := MapKept.run_findKey (P := P) (w := w) hk r1
  have hlt : b < w.heap.size := by
    rcases Nat.lt_or_ge b w.heap.size with h | h
    · exact h
    · rw [Array.getElem?_eq_none h] at hb; cases hb
  have hgrow : ∀ o : Obj, w.grownBy { w with heap := w.heap.setIfInBounds b o } (some b) := fun o => ⟨rfl, rfl, rfl, by simp, fun i _ hi => by
    have : i ≠ b := fun e => hi (by rw [e])
    simp only [Array.getElem?_setIfInBounds]
    rw [if_neg (by omega)]⟩
  have hat : ∀ o : Obj, ({ w with heap := w.heap.setIfInBounds b o } : World).heap[b]? = some o := fun o => by simp [hlt]
  unfold Instr.mapUpdate
  simp only [Sem.run_bind, run_underlying ht, Result.andThen_ok, hg, hc, hf]
  cases r with
  | none =>
    simp only [MapKept.run_setObj_map _ hb]
    refine ⟨_, rfl, ⟨_, _, hat _, ?_⟩, hgrow _⟩
    rw [aput_new (by rw [← r2]; rfl)]
    simp [hl]
  | some q =>
    obtain ⟨i, v0⟩ := q
    obtain ⟨_, q2, q3, q4⟩ := r3 i v0 rfl
    simp only [Nat.sub_zero] at q2 q3 q4
    have hi : i < es.size := by simpa using q2
    have e1 : ((es[i]?).map (·.key)).getD (K.kv k) = K.kv k := by
      rw [Array.getElem?_eq_getElem hi]
      simpa using q3
    simp only [e1, Instr.keyThatStays, K.bits, if_true, Sem.run_bind, Sem.run_pure, Result.andThen_ok, MapKept.run_setObj_map _ hb]
    refine ⟨_, rfl, ⟨_, _, hat _, ?_⟩, hgrow _⟩
    rw [Array.toList_modify]
    exact q4 v
theorem mapIs_made (K : Key κ) (w : World) : MapIs K (w.alloc (.map #[] 0)) w.heap.size [] := ⟨#[], 0, heap_alloc_new w _, rfl⟩
theorem MapIs.lt {K : Key κ} (h : MapIs K w b l) : b < w.heap.size := by
  obtain ⟨es, clock, hb, _⟩ := h
  rcases Nat.lt_or_ge b w.heap.size with h | h
  · exact h
  · rw [Array.getElem?_eq_none h] at hb; cases hb
theorem MapIs.kept {K : Key κ} (h : MapIs K w b l) {w' : World} {row : Option Nat} (hg : w.grownBy w' row) (hne : some b ≠ row) : MapIs K w' b l := by
  have hlt := h.lt
  obtain ⟨es, clock, hb, hl⟩ := h
  exact ⟨es, clock, (hg.block b hlt hne).trans hb, hl⟩
theorem MapIs.ext {K : Key κ} (h : MapIs K w b l) {w' : World} (he : Ext w w') : MapIs K w' b l := by
  have hlt := h.lt
  obtain ⟨es, clock, hb, hl⟩ := h
  exact ⟨es, clock, (he.block b hlt).trans hb, hl⟩

variable {ops : Array Oper} {rest : List Oper} {o : Oper} {a : Act} {Q : Exit → Act → World → Prop}
/-- 'm[k] = v'. -/
theorem wpl_mapUpdate {K : Key κ} {t kt e : TypeId} {val key : Value} {k : κ} (m x v : Operand) (hgd : o.guard = none) (hop : o.op = Op.mapUpdate t m x v) (ht : P.underlying t = some (.map kt e)) (hk : P.underlying kt = some K.d)
    (h : MapIs K w b l) (hm : a.eval m = .map (some b)) (hx : a.eval x = key) (hkey : key = K.kv k) (hv : a.eval v = val)
    (hK : ∀ w', MapIs K w' b (aput l k val) → w.grownBy w' (some b) → wpList P ops Q rest (a.put o.dst undef) w') : wpList P ops Q (o :: rest) a w := by
  refine wpList_plain hgd fun K' hK' => ?_
  subst hkey
  obtain ⟨w', hrun, r1, r2⟩ := h.update (P := P) ht hk k val
  unfold Oper.wp
  simp [execOp, hop, hm, hx, hv, hrun, Result.andThen]
  exact hK' _ _ (hK w' r1 r2)
end
end Go.Proofs.YtimlbebockfioaaDoor
