/- A cell of a row of one's own is written; a key of a map is struck. No program in sight. -/
import Derived.Test.YtimlbebockfioaaDoorRange
namespace Go.Proofs.YtimlbebockfioaaDoor
open Go.RowKit

section
variable {α : Type} {r : Rep α} {w : World}
/-- One cell of one element of a row of one's own. -/
theorem Own.setAt (hf : Flat r) {e : TypeId} {base g n c : Nat} {xs : List α} (h : Own r e base w (.slice (some ⟨g, 0, none⟩) n c) xs) {i : Nat} {x x' : α} (hx : xs[i]? = some x) {q p : Nat} (hq : q < r.size) (u : Value) (hp : p = i * r.size + q)
    (hx' : ∀ cs, r.holds w (all w) cs x → r.holds w (all w) (cs.set q u) x') : Own r e base (w.setCell ⟨g, p, none⟩ u) (.slice (some ⟨g, 0, none⟩) n c) (xs.set i x') := by
  subst hp
  obtain ⟨ys, ⟨hl, hcase⟩, h2⟩ := h
  have hi := lt_of_get hx
  have hxe : xs[i] = x := by rw [List.getElem?_eq_getElem hi] at hx; injection hx
  rcases hcase with ⟨hv, _⟩ | ⟨g', cap, cur, hv, hg, hh, hnc, hm, hcs, hcur⟩
  · cases hv
  · injection hv with e1 e2 e3
    injection e1 with e1
    injection e1 with e1 _ _
    subst e1 e2 e3
    have hin : i * r.size + q < xs.length * r.size := by
      have h1 : (i + 1) * r.size ≤ xs.length * r.size := Nat.mul_le_mul_right _ hi
      rw [Nat.add_mul] at h1
      omega
    refine ⟨ys.set (i * r.size + q) u, ⟨by simpa using hl, .inr ⟨g, c, cur.setIfInBounds (i * r.size + q) u, by simp, hg, Blk.set_ hh _ _, by simpa using hnc, hm, by simpa using hcs, ?_⟩⟩, fun j hj => ?_⟩
    · rw [Array.toList_setIfInBounds, List.length_set, List.take_set, hcur]
    · have hj' : j < xs.length := by simpa using hj
      have h3 := h2 j hj'
      rw [List.drop_set]
      by_cases hij : i = j
      · subst hij
        rw [List.getElem_set_self, if_neg (by omega), show i * r.size + q - i * r.size = q from by omega, List.take_set]
        rw [hxe] at h3
        exact hf _ _ _ _ _ _ (hx' _ (hf _ _ _ _ _ _ h3))
      · rw [List.getElem_set_ne hij]
        have e : (if i * r.size + q < j * r.size then ys.drop (j * r.size) else (ys.drop (j * r.size)).set (i * r.size + q - j * r.size) u).take r.size = (ys.drop (j * r.size)).take r.size := by
          split
          · rfl
          · rename_i hnl
            rw [List.take_set]
            refine List.set_eq_of_length_le ?_
            have h4 : j < i := by
              rcases Nat.lt_or_ge j i with h | h
              · exact h
              · have : (i + 1) * r.size ≤ j * r.size := Nat.mul_le_mul_right _ (by omega)
                rw [Nat.add_mul] at this
                omega
            have h5 : (j + 1) * r.size ≤ i * r.size := Nat.mul_le_mul_right _ h4
            rw [Nat.add_mul] at h5
            rw [List.length_take]
            omega
        rw [e]
        exact hf _ _ _ _ _ _ h3
/-- The block of such a row. -/
theorem Own.blockOf {e : TypeId} {base : Nat} {v : Value} {xs : List α} (h : Own r e base w v xs) (hne : 0 < xs.length) : ∃ g c, v = .slice (some ⟨g, 0, none⟩) xs.length c ∧ base ≤ g ∧ g < w.heap.size ∧ xs.length ≤ c ∧ c ≤ maxLen ∧ ∃ cur, Blk w g e cur ∧ cur.size = c * r.size := by
  obtain ⟨ys, ⟨hl, hcase⟩, h2⟩ := h
  rcases hcase with ⟨hv, hz⟩ | ⟨g', cap, cur, hv, hg, hh, hnc, hm, hcs, hcur⟩
  · omega
  · exact ⟨g', cap, hv, hg, Blk.lt hh, hnc, hm, cur, hh, hcs⟩
/-- Its cells. -/
theorem Own.cells {e : TypeId} {base g n c : Nat} {xs : List α} (h : Own r e base w (.slice (some ⟨g, 0, none⟩) n c) xs) {i : Nat} {x : α} (hx : xs[i]? = some x) :
    ∃ ds, r.holds w (all w) ds x ∧ ∀ q (hq : q < ds.length), w.cell? ⟨g, i * r.size + q, none⟩ = some ds[q] := by
  obtain ⟨A, c', hv, _, _, hr⟩ := h.form
  injection hv with e1 e2 e3
  subst e1
  obtain ⟨b, off, ds, y, hA, _, hy, hds, hc⟩ := hr.get (lt_of_get hx)
  injection hA with hA
  injection hA with e4 e5 _
  subst e4 e5
  rw [hx] at hy
  injection hy with hy
  subst hy
  exact ⟨ds, r.keep hds fun b hb => ⟨hb.2, fun _ => rfl⟩, fun q hq => by have := hc q hq; rwa [Nat.zero_add] at this⟩
theorem Own.keepFlat' (hf : Flat r) {e base} {w' : World} {v} {xs : List α} (h : Own r e base w v xs) {row : Option Nat} (hg : w.grownBy w' row) (hne : v.ownBlock = none ∨ v.ownBlock ≠ row) : Own r e base w' v xs := by
  obtain ⟨ys, h1, h2⟩ := h
  exact ⟨ys, h1.kept hg hne, fun j hj => hf _ _ _ _ _ _ (h2 j hj)⟩
end

section
variable {κ : Type} [DecidableEq κ] {P : Program} {K : Key κ} {w w' : World} {b : Nat} {l : List (κ × Value)}
theorem MapSt.del (h : MapSt K w b l) {t kt e : TypeId} (ht : P.underlying t = some (.map kt e)) (hk : P.underlying kt = some K.d) (k : κ) (ty : TypeId) :
    ∃ w', (Builtin.delete_ #[t, kt] ty #[.map (some b), K.kv k]).run P w = .ok (.tuple #[]) w' ∧ MapSt K w' b (adel l k) ∧ w.grownBy w' (some b) := by
  obtain ⟨w', hrun, hm, hg⟩ := h.is.del (P := P) ht hk k kt ty
  obtain ⟨es, clock, h1, h2, h3⟩ := h
  obtain ⟨es', clock', k1, k2, _, _⟩ := MapKept.delete_keeps ht hk h1 h3 (MapSt.isKeys h2) (K.isKey k) hrun
  obtain ⟨es2, clock2, m1, m2⟩ := hm
  rw [k1] at m1
  injection m1 with m1
  injection m1 with e1 e2
  subst e1 e2
  exact ⟨w', hrun, ⟨es', clock', k1, m2, k2⟩, hg⟩
theorem alook_del2 {l : List (κ × Value)} (hn : (l.map (·.1)).Nodup) (k k' : κ) : alook (adel l k) k' = if k = k' then none else alook l k' := by
  induction l with
  | nil => simp [adel, alook]
  | cons p l ih =>
    rw [List.map_cons, List.nodup_cons] at hn
    unfold adel
    by_cases hp : k = p.1
    · rw [if_pos hp]
      by_cases h : k = k'
      · rw [if_pos h]
        subst h
        unfold alook
        rw [List.find?_eq_none.2 (fun q hq => by
          rw [decide_eq_true_iff]
          intro e
          exact hn.1 (List.mem_map.2 ⟨q, hq, by rw [← hp, e]⟩))]
        rfl
      · rw [if_neg h]
        unfold alook
        rw [List.find?_cons, show decide (k' = p.1) = false from decide_eq_false (fun e => h (by rw [hp, e]))]
    · rw [if_neg hp]
      by_cases h : k' = p.1
      · have h2 : ¬ k = k' := by rw [h]; exact hp
        rw [if_neg h2]
        unfold alook
        rw [List.find?_cons, List.find?_cons, show decide (k' = p.1) = true from decide_eq_true h]
      · have h1 : decide (k' = p.1) = false := decide_eq_false h
        have ih := ih hn.2
        unfold alook at ih ⊢
        rw [List.find?_cons, h1, List.find?_cons, h1]
        exact ih
theorem alook_put2 (l : List (κ × Value)) (k : κ) (v : Value) (k' : κ) : alook (aput l k v) k' = if k = k' then some v else alook l k' := by
  induction l with
  | nil =>
    by_cases h : k = k'
    · subst h; simp [alook, aput]
    · have : decide (k' = k) = false := decide_eq_false (fun e => h e.symm)
      simp [alook, aput, this, h]
  | cons p l ih =>
    simp only [aput]
    by_cases hp : k = p.1
    · rw [if_pos hp]
      by_cases h : k = k'
      · subst h; simp [alook]
      · have h1 : decide (k' = k) = false := decide_eq_false (fun e => h e.symm)
        have h2 : decide (k' = p.1) = false := by rw [← hp]; exact h1
        rw [if_neg h]
        unfold alook
        rw [List.find?_cons, h1, List.find?_cons, h2]
    · rw [if_neg hp]
      by_cases h : k' = p.1
      · have h1 : decide (k' = p.1) = true := decide_eq_true h
        have h2 : ¬ k = k' := by rw [h]; exact hp
        rw [if_neg h2]
        unfold alook
        rw [List.find?_cons, h1, List.find?_cons, h1]
      · have h1 : decide (k' = p.1) = false := decide_eq_false h
        unfold alook at ih ⊢
        rw [List.find?_cons, h1, List.find?_cons, h1]
        exact ih
theorem alook_in {l : List (κ × Value)} {k : κ} : k ∈ l.map (·.1) ↔ (alook l k).isSome = true := by
  unfold alook
  rw [Option.isSome_map, List.find?_isSome, List.mem_map]
  constructor
  · rintro ⟨p, hp, rfl⟩; exact ⟨p, hp, by simp⟩
  · rintro ⟨p, hp, h⟩; exact ⟨p, hp, by simpa using Eq.symm (of_decide_eq_true h)⟩
variable {ops : Array Oper} {rest : List Oper} {o : Oper} {a : Act} {Q : Exit → Act → World → Prop}
theorem wpl_delSt {t kt e : TypeId} {key : Value} {k : κ} (m x : Operand) (hgd : o.guard = none) (hop : o.op = Op.call { callee := Callee.builtin Builtin.delete, args := #[m, x], argTypes := #[t, kt] }) (ht : P.underlying t = some (.map kt e)) (hk : P.underlying kt = some K.d)
    (h : MapSt K w b l) (hm : a.eval m = .map (some b)) (hx : a.eval x = key) (hkey : key = K.kv k)
    (hK : ∀ w', MapSt K w' b (adel l k) → w.grownBy w' (some b) → wpList P ops Q rest (a.put o.dst (.tuple #[])) w') : wpList P ops Q (o :: rest) a w := by
  refine wpList_plain hgd fun K' hK' => ?_
  subst hkey
  obtain ⟨w', hrun, r1, r2⟩ := h.del (P := P) ht hk k o.type
  unfold Oper.wp
  simp [execOp, hop, resolve, invoke, builtin, hm, hx, hrun, Result.andThen]
  exact hK' _ _ (hK w' r1 r2)
end
end Go.Proofs.YtimlbebockfioaaDoor
