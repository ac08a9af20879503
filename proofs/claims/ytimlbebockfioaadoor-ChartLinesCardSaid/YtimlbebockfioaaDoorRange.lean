/- Maps with stamps, and the loop over one whose round makes memory. No program in sight. -/
import Derived.Laws.IdiomRangeMap
import Derived.Test.YtimlbebockfioaaDoorOut
namespace Go.Proofs.YtimlbebockfioaaDoor
open Go.RowKit

section
variable {P : Program}
/-- The step of a loop over a map, wherever the iterator lies. -/
theorem run_next_at (w : World) (r : Nat) (ty : TypeId) (bm since c0 : Nat) (seen : Array Nat) (es : Array MapEntry) (clock : Nat) (hr : w.heap[r]? = some (.mapIter (some bm) since seen c0)) (hb : w.heap[bm]? = some (.map es clock)) (hold : ∀ x ∈ es.toList, x.born < since) (hsc : since ≤ c0) :
    ((leftOf es seen).size = 0 ∧ (Instr.next (.pointer (some ⟨r, 0, none⟩)) false ty).run P w = .ok (.tuple #[.bool false]) w) ∨
    ∃ e ∈ (leftOf es seen).toList, ∃ w1 : World, w1.heap[r]? = some (.mapIter (some bm) since (seen.push e.born) clock) ∧ Only r w w1 ∧ w1.heap.size = w.heap.size ∧ (Instr.next (.pointer (some ⟨r, 0, none⟩)) false ty).run P w = .ok (.tuple #[.bool true, e.key, e.val]) w1 := by
  simp only [Instr.next, getObj, Sem.run_bind, Sem.run, hr, hb, Result.andThen, next_test_false seen es since c0 hold hsc, Bool.false_eq_true, if_false]
  unfold leftOf
  have hmem : ∀ x ∈ (Array.filter (fun e => !seen.contains e.born) es).toList, x.born < since := fun x hx => hold x (by simp at hx ⊢; exact hx.1)
  generalize Array.filter (fun e => !seen.contains e.born) es = L at hmem ⊢
  have e1 : L.filter (fun x => decide (x.born < since)) = L := Array.filter_eq_self.2 (fun x hx => by simpa using hmem x (by simpa using hx))
  have e2 : L.filter (fun x => decide (x.born ≥ since)) = #[] := by
    rw [Array.filter_eq_empty_iff]
    intro x hx
    have := hmem x (by simpa using hx)
    simp
    omega
  simp only [e1, e2, Array.append_empty]
  by_cases h0 : L.size = 0
  · left
    have : L = #[] := Array.eq_empty_of_size_eq_zero h0
    subst this
    refine ⟨rfl, ?_⟩
    simp [choose, Sem.run, Question.forced]
  · right
    have hne : L.isEmpty = false := by simp [Array.isEmpty, h0]
    simp only [hne, Bool.false_eq_true, if_false, Array.empty_append, Array.size_map]
    have hch : ∃ (j : Nat) (w1 : World), j < L.size ∧ w1.heap = w.heap ∧ w1.os = w.os ∧ w1.tape = w.tape ∧ w1.output = w.output ∧ (choose (Question.mapNext L.size)).run P w = .ok j w1 := by
      by_cases hf : L.size ≤ 1
      · exact ⟨0, w, by omega, rfl, rfl, rfl, rfl, by simp [choose, Sem.run, Question.forced, hf]⟩
      · exact ⟨_, w.drew, Nat.mod_lt _ (by omega), rfl, rfl, rfl, rfl, by
          simp only [choose, Sem.run, Question.forced, decide_eq_true_eq, hf, if_false, Question.cut]
          rfl⟩
    obtain ⟨j, w1, hj, hh, hos, htp, hou, hrun⟩ := hch
    have hlt : r < w.heap.size := by
      rcases Nat.lt_or_ge r w.heap.size with h | h
      · exact h
      · rw [Array.getElem?_eq_none h] at hr; cases hr
    have hset : ∀ o' : Obj, (setObj r o').run P w1 = .ok () { w1 with heap := w1.heap.setIfInBounds r o' } := fun o' => by
      have hr1 : w1.heap[r]? = some (.mapIter (some bm) since seen c0) := by rw [hh]; exact hr
      simp only [setObj, Sem.run, hr1]
    refine ⟨L[j], by simp, { w1 with heap := w1.heap.setIfInBounds r (.mapIter (some bm) since (seen.push L[j].born) clock) }, ?_, ⟨hos, htp, hou, ?_, fun k hk hne => ?_⟩, ?_, ?_⟩
    · simp [hh, hlt]
    · simp [hh]
    · show (w1.heap.setIfInBounds r _)[k]? = _
      have : r ≠ k := fun e => hne (by rw [e])
      rw [Array.getElem?_setIfInBounds_ne this, hh]
    · simp [hh]
    · simp only [hrun, Array.getElem?_map, Array.getElem?_eq_getElem hj, Option.map_some, Sem.run_bind, hset, Result.andThen]
      rfl
theorem run_entry_at (w : World) (r bm since : Nat) (seen : Array Nat) (es : Array MapEntry) (clock : Nat) (e : MapEntry) (hr : w.heap[r]? = some (.mapIter (some bm) since (seen.push e.born) clock)) (hb : w.heap[bm]? = some (.map es clock)) (he : e ∈ es.toList) (hn : (es.toList.map (·.born)).Nodup) :
    (Instr.entry (.pointer (some ⟨r, 0, none⟩))).run P w = .ok (.tuple #[e.key, e.val]) w := by
  have hf : es.find? (·.born == e.born) = some e := by rw [← Array.find?_toList]; exact find_born e es.toList hn he
  simp only [Instr.entry, getObj, Sem.run_bind, Sem.run, hr, hb, Result.andThen, Array.back?_push, bne_self_eq_false, Bool.false_eq_true, if_false, hf]
  rfl
end

section
variable {κ : Type} [DecidableEq κ]
/-- A map whose entries bear stamps. -/
def MapSt (K : Key κ) (w : World) (b : Nat) (l : List (κ × Value)) : Prop :=
  ∃ es clock, w.heap[b]? = some (.map es clock) ∧ es.toList.map (fun e => (e.key, e.val)) = l.map (fun p => (K.kv p.1, p.2)) ∧ MapKept.Stamped es clock
variable {P : Program} {K : Key κ} {w w' : World} {b : Nat} {l : List (κ × Value)}
theorem MapSt.is (h : MapSt K w b l) : MapIs K w b l := by
  obtain ⟨es, clock, h1, h2, _⟩ := h
  exact ⟨es, clock, h1, h2⟩
theorem MapSt.lt (h : MapSt K w b l) : b < w.heap.size := h.is.lt
theorem mapSt_made (K : Key κ) (w : World) : MapSt K (w.alloc (.map #[] 0)) w.heap.size [] := ⟨#[], 0, heap_alloc_new w _, rfl, MapKept.stamped_empty 0⟩
theorem MapSt.kept (h : MapSt K w b l) {row : Option Nat} (hg : w.grownBy w' row) (hne : some b ≠ row) : MapSt K w' b l := by
  have hlt := h.lt
  obtain ⟨es, clock, h1, h2⟩ := h
  exact ⟨es, clock, (hg.block b hlt hne).trans h1, h2⟩
theorem MapSt.ext (h : MapSt K w b l) (he : Ext w w') : MapSt K w' b l := by
  have hlt := h.lt
  obtain ⟨es, clock, h1, h2⟩ := h
  exact ⟨es, clock, (he.block b hlt).trans h1, h2⟩
theorem MapSt.isKeys {es : Array MapEntry} (h : es.toList.map (fun e => (e.key, e.val)) = l.map (fun p => (K.kv p.1, p.2))) : ∀ x ∈ es.toList, MapKept.IsKey K.d x.key := fun x hx => by
  have : (x.key, x.val) ∈ l.map (fun p => (K.kv p.1, p.2)) := by rw [← h]; exact List.mem_map.2 ⟨x, hx, rfl⟩
  obtain ⟨p, _, hp⟩ := List.mem_map.1 this
  injection hp with hp _
  rw [← hp]
  exact K.isKey _
theorem MapSt.update (h : MapSt K w b l) {t kt e : TypeId} (ht : P.underlying t = some (.map kt e)) (hk : P.underlying kt = some K.d) (k : κ) (v : Value) :
    ∃ w', (Instr.mapUpdate t (.map (some b)) (K.kv k) v).run P w = .ok () w' ∧ MapSt K w' b (aput l k v) ∧ w.grownBy w' (some b) := by
  obtain ⟨w', hrun, hm, hg⟩ := h.is.update (P := P) ht hk k v
  obtain ⟨es, clock, h1, h2, h3⟩ := h
  obtain ⟨es', clock', k1, k2, _, _⟩ := MapKept.mapUpdate_keeps ht hk h1 h3 (MapSt.isKeys h2) (K.isKey k) hrun
  obtain ⟨es2, clock2, m1, m2⟩ := hm
  rw [k1] at m1
  injection m1 with m1
  injection m1 with e1 e2
  subst e1 e2
  exact ⟨w', hrun, ⟨es', clock', k1, m2, k2⟩, hg⟩
theorem MapSt.clear (h : MapSt K w b l) {t kt e : TypeId} (ht : P.underlying t = some (.map kt e)) (ty : TypeId) :
    ∃ w', (Builtin.clear_ #[t] ty #[.map (some b)]).run P w = .ok (.tuple #[]) w' ∧ MapSt K w' b [] ∧ w.grownBy w' (some b) := by
  have hlt := h.lt
  obtain ⟨es, clock, h1, h2, h3⟩ := h
  refine ⟨{ w with heap := w.heap.setIfInBounds b (.map #[] clock) }, ?_, ⟨#[], clock, by simp [hlt], rfl, MapKept.stamped_empty _⟩, rfl, rfl, rfl, by simp, fun i hi hne => ?_⟩
  · simp [Builtin.clear_, run_underlying ht, MapKept.run_getObj_map h1, MapKept.run_setObj_map _ h1, Result.andThen]
  · have : b ≠ i := fun e => hne (by rw [e])
    show (w.heap.setIfInBounds b _)[i]? = _
    rw [Array.getElem?_setIfInBounds_ne this]
theorem MapSt.nodup (h : MapSt K w b l) : (l.map (·.1)).Nodup := by
  obtain ⟨es, clock, _, h2, _, _, h3⟩ := h
  have e : es.toList.map (·.key) = l.map (fun p => K.kv p.1) := by
    have := congrArg (List.map Prod.fst) h2
    simpa [List.map_map, Function.comp_def] using this
  rw [e] at h3
  have h4 := List.pairwise_map.1 h3
  exact List.pairwise_map.2 (h4.imp fun hne e => hne (by rw [e]))
theorem key_inj : ∀ {es : List MapEntry}, (es.map (·.key)).Nodup → ∀ {x y : MapEntry}, x ∈ es → y ∈ es → x.key = y.key → x = y
  | a :: l, hn, x, y, hx, hy, h => by
    rw [List.map_cons, List.nodup_cons] at hn
    rcases List.mem_cons.1 hx with hx1 | hx1
    · rcases List.mem_cons.1 hy with hy1 | hy1
      · rw [hx1, hy1]
      · exact absurd (List.mem_map.2 ⟨y, hy1, by rw [← h, hx1]⟩) hn.1
    · rcases List.mem_cons.1 hy with hy1 | hy1
      · exact absurd (List.mem_map.2 ⟨x, hx1, by rw [h, hy1]⟩) hn.1
      · exact key_inj hn.2 hx1 hy1 h

/-- The loop over a map: what was handed out. -/
def IterAt (K : Key κ) (w : World) (r b : Nat) (l : List (κ × Value)) (done : List κ) : Prop :=
  ∃ es clock seen, w.heap[b]? = some (.map es clock) ∧ es.toList.map (fun e => (e.key, e.val)) = l.map (fun p => (K.kv p.1, p.2)) ∧ MapKept.Stamped es clock ∧
    w.heap[r]? = some (.mapIter (some b) clock seen clock) ∧ done.Nodup ∧ ∀ k, k ∈ done ↔ ∃ e ∈ es.toList, seen.contains e.born = true ∧ e.key = K.kv k
theorem IterAt.map {r : Nat} {done : List κ} (h : IterAt K w r b l done) : MapSt K w b l := by
  obtain ⟨es, clock, seen, h1, h2, h3, _⟩ := h
  exact ⟨es, clock, h1, h2, h3⟩
theorem IterAt.kept {r : Nat} {done : List κ} (h : IterAt K w r b l done) {row : Option Nat} (hg : w.grownBy w' row) (hb : some b ≠ row) (hr : some r ≠ row) : IterAt K w' r b l done := by
  obtain ⟨es, clock, seen, h1, h2, h3, h4, h5⟩ := h
  have lt1 : b < w.heap.size := by
    rcases Nat.lt_or_ge b w.heap.size with h | h
    · exact h
    · rw [Array.getElem?_eq_none h] at h1; cases h1
  have lt2 : r < w.heap.size := by
    rcases Nat.lt_or_ge r w.heap.size with h | h
    · exact h
    · rw [Array.getElem?_eq_none h] at h4; cases h4
  exact ⟨es, clock, seen, (hg.block b lt1 hb).trans h1, h2, h3, (hg.block r lt2 hr).trans h4, h5⟩
/-- 'range m'. -/
theorem MapSt.range (h : MapSt K w b l) {t kt e : TypeId} (ht : P.underlying t = some (.map kt e)) :
    ∃ w', (Instr.range t (.map (some b))).run P w = .ok (.pointer (some ⟨w.heap.size, 0, none⟩)) w' ∧ IterAt K w' w.heap.size b l [] ∧ Ext w w' ∧ w'.heap.size = w.heap.size + 1 := by
  have hlt := h.lt
  obtain ⟨es, clock, h1, h2, h3⟩ := h
  refine ⟨w.alloc (.mapIter (some b) clock #[] clock), run_range_map w t kt e b es clock ht h1, ⟨es, clock, #[], by rw [Below.heap_alloc w _ b hlt, h1], h2, h3, heap_alloc_new w _, by simp, fun k => by simp⟩, ext_alloc _ _, by simp⟩
theorem nodup_le : ∀ {xs ys : List κ}, xs.Nodup → (∀ x ∈ xs, x ∈ ys) → xs.length ≤ ys.length
  | [], _, _, _ => Nat.zero_le _
  | x :: xs, ys, hn, h => by
    rw [List.nodup_cons] at hn
    have hx := h x (by simp)
    have := nodup_le (xs := xs) (ys := ys.erase x) hn.2 fun y hy => (List.mem_erase_of_ne (fun e => hn.1 (by rw [← e]; exact hy))).2 (h y (List.mem_cons_of_mem _ hy))
    rw [List.length_erase_of_mem hx] at this
    have := List.length_pos_of_mem hx
    simp only [List.length_cons]
    omega
theorem IterAt.count {r : Nat} {done : List κ} (h : IterAt K w r b l done) (hkv : ∀ x y, K.kv x = K.kv y → x = y) : done.length ≤ l.length := by
  obtain ⟨es, clock, seen, h1, h2, h3, h4, h5, h6⟩ := h
  have := nodup_le (ys := l.map (·.1)) h5 fun k hk => by
    obtain ⟨e, he, _, hek⟩ := (h6 k).1 hk
    have : (e.key, e.val) ∈ l.map (fun p => (K.kv p.1, p.2)) := by rw [← h2]; exact List.mem_map.2 ⟨e, he, rfl⟩
    obtain ⟨p, hp, hpe⟩ := List.mem_map.1 this
    injection hpe with hpe _
    exact List.mem_map.2 ⟨p, hp, hkv _ _ (hpe.trans hek)⟩
  simpa using this
theorem IterAt.nodup {r : Nat} {done : List κ} (h : IterAt K w r b l done) : done.Nodup := by
  obtain ⟨es, clock, seen, h1, h2, h3, h4, h5, h6⟩ := h
  exact h5
/-- The step. -/
theorem IterAt.next {r : Nat} {done : List κ} (h : IterAt K w r b l done) (hkv : ∀ x y, K.kv x = K.kv y → x = y) (hrb : r ≠ b) (ty : TypeId) :
    ((∀ k, k ∈ done ↔ k ∈ l.map (·.1)) ∧ (Instr.next (.pointer (some ⟨r, 0, none⟩)) false ty).run P w = .ok (.tuple #[.bool false]) w) ∨
    ∃ k v w1, (k, v) ∈ l ∧ k ∉ done ∧ (Instr.next (.pointer (some ⟨r, 0, none⟩)) false ty).run P w = .ok (.tuple #[.bool true, K.kv k, v]) w1 ∧ IterAt K w1 r b l (done ++ [k]) ∧ Only r w w1 ∧ w1.heap.size = w.heap.size ∧
      (Instr.entry (.pointer (some ⟨r, 0, none⟩))).run P w1 = .ok (.tuple #[K.kv k, v]) w1 := by
  obtain ⟨es, clock, seen, h1, h2, h3, h4, h5, h6⟩ := h
  have hb : b < w.heap.size := by
    rcases Nat.lt_or_ge b w.heap.size with h | h
    · exact h
    · rw [Array.getElem?_eq_none h] at h1; cases h1
  rcases run_next_at (P := P) w r ty b clock clock seen es clock h4 h1 h3.1 (Nat.le_refl _) with ⟨h0, hrun⟩ | ⟨e, he, w1, g1, g2, g3, hrun⟩
  · left
    refine ⟨fun k => ?_, hrun⟩
    rw [h6]
    have hall := all_seen es seen h0
    constructor
    · rintro ⟨e, he, _, hek⟩
      have : (e.key, e.val) ∈ l.map (fun p => (K.kv p.1, p.2)) := by rw [← h2]; exact List.mem_map.2 ⟨e, he, rfl⟩
      obtain ⟨p, hp, hpe⟩ := List.mem_map.1 this
      injection hpe with hpe _
      exact List.mem_map.2 ⟨p, hp, hkv _ _ (hpe.trans hek)⟩
    · intro hk
      obtain ⟨p, hp, rfl⟩ := List.mem_map.1 hk
      have : (K.kv p.1, p.2) ∈ es.toList.map (fun e => (e.key, e.val)) := by rw [h2]; exact List.mem_map.2 ⟨p, hp, rfl⟩
      obtain ⟨e, he, hee⟩ := List.mem_map.1 this
      injection hee with hek _
      exact ⟨e, he, hall e he, hek⟩
  · right
    obtain ⟨hmem, hns⟩ := mem_left he
    have : (e.key, e.val) ∈ l.map (fun p => (K.kv p.1, p.2)) := by rw [← h2]; exact List.mem_map.2 ⟨e, hmem, rfl⟩
    obtain ⟨p, hp, hpe⟩ := List.mem_map.1 this
    injection hpe with hpk hpv
    have g4 : w1.heap[b]? = some (.map es clock) := (g2.block b hb (fun e => hrb (by injection e with e; exact e.symm))).trans h1
    have hnd : p.1 ∉ done := fun hd => by
      obtain ⟨e', he', hs', hk'⟩ := (h6 p.1).1 hd
      have hkk : e'.key = e.key := hk'.trans hpk
      have : e' = e := by
        have hkn := h3.2.2
        exact key_inj hkn he' hmem hkk
      rw [this, hns] at hs'
      cases hs'
    refine ⟨p.1, p.2, w1, hp, hnd, by rw [hpk, hpv]; exact hrun, ⟨es, clock, seen.push e.born, g4, h2, h3, g1, ?_, fun k => ?_⟩, g2, g3, by rw [hpk, hpv]; exact run_entry_at w1 r b clock seen es clock e g1 g4 hmem h3.2.1⟩
    · rw [List.nodup_append]
      exact ⟨h5, by simp, fun a ha c hc => by simp at hc; subst hc; intro e; subst e; exact hnd ha⟩
    · rw [List.mem_append, h6]
      constructor
      · rintro (⟨e', he', hs', hk'⟩ | hk)
        · exact ⟨e', he', by rw [contains_push, hs']; rfl, hk'⟩
        · simp at hk
          subst hk
          exact ⟨e, hmem, by rw [contains_push, beq_self_eq_true, Bool.or_true], hpk.symm⟩
      · rintro ⟨e', he', hs', hk'⟩
        rw [contains_push, Bool.or_eq_true] at hs'
        rcases hs' with hs' | hs'
        · exact .inl ⟨e', he', hs', hk'⟩
        · have : e' = e := born_inj h3.2.1 he' hmem (beq_iff_eq.1 hs')
          subst this
          exact .inr (by simp; exact hkv _ _ (hk'.symm.trans hpk.symm))
variable {ops : Array Oper} {rest : List Oper} {o : Oper} {a : Act} {Q : Exit → Act → World → Prop}
/-- 'clear(m)'. -/
theorem wpl_clear {t kt e : TypeId} (m : Operand) (hgd : o.guard = none) (hop : o.op = Op.call { callee := Callee.builtin Builtin.clear, args := #[m], argTypes := #[t] }) (ht : P.underlying t = some (.map kt e))
    (h : MapSt K w b l) (hm : a.eval m = .map (some b)) (hK : ∀ w', MapSt K w' b [] → w.grownBy w' (some b) → wpList P ops Q rest (a.put o.dst (.tuple #[])) w') : wpList P ops Q (o :: rest) a w := by
  refine wpList_plain hgd fun K' hK' => ?_
  obtain ⟨w', hrun, r1, r2⟩ := h.clear (P := P) ht o.type
  unfold Oper.wp
  simp [execOp, hop, resolve, invoke, builtin, hm, hrun, Result.andThen]
  exact hK' _ _ (hK w' r1 r2)
/-- 'm[k] = v'. -/
theorem wpl_putSt {t kt e : TypeId} {val key : Value} {k : κ} (m x v : Operand) (hgd : o.guard = none) (hop : o.op = Op.mapUpdate t m x v) (ht : P.underlying t = some (.map kt e)) (hk : P.underlying kt = some K.d)
    (h : MapSt K w b l) (hm : a.eval m = .map (some b)) (hx : a.eval x = key) (hkey : key = K.kv k) (hv : a.eval v = val)
    (hK : ∀ w', MapSt K w' b (aput l k val) → w.grownBy w' (some b) → wpList P ops Q rest (a.put o.dst undef) w') : wpList P ops Q (o :: rest) a w := by
  refine wpList_plain hgd fun K' hK' => ?_
  subst hkey
  obtain ⟨w', hrun, r1, r2⟩ := h.update (P := P) ht hk k val
  unfold Oper.wp
  simp [execOp, hop, hm, hx, hv, hrun, Result.andThen]
  exact hK' _ _ (hK w' r1 r2)
end
end Go.Proofs.YtimlbebockfioaaDoor
