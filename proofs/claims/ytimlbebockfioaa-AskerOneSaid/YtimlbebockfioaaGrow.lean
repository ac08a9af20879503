/- 'append' to a slice that is full: a new row of one's own. No program in sight. -/
import Derived.ArgAppend
import Derived.Test.YtimlbebockfioaaOut
namespace Go.Proofs.Ytimlbebockfioaa
open Go.RowKit

section
variable {α : Type} {r : Rep α} {w : World}
/-- The cells of some elements, one behind the other. -/
theorem cells_of (T : Nat → Prop) (b off : Nat) : ∀ (l : List α) (j0 : Nat), (∀ j (h : j < l.length), ∃ ds, r.holds w T ds l[j] ∧ ∀ i (hi : i < ds.length), w.cell? ⟨b, off + (j0 + j) * r.size + i, none⟩ = some ds[i]) →
    ∃ zs : List Value, zs.length = l.length * r.size ∧ (∀ i (hi : i < zs.length), w.cell? ⟨b, off + j0 * r.size + i, none⟩ = some zs[i]) ∧ (∀ u ∈ zs, u.oneCell' = true) ∧
      ∀ j (h : j < l.length), r.holds w T ((zs.drop (j * r.size)).take r.size) l[j] := by
  intro l
  induction l with
  | nil => intro j0 _; exact ⟨[], by simp, by simp, by simp, by simp⟩
  | cons x l ih =>
    intro j0 hl
    obtain ⟨ds, hds, hc⟩ := hl 0 (by simp)
    obtain ⟨zs, g1, g2, g3, g4⟩ := ih (j0 + 1) (fun j hj => by
      obtain ⟨ds, a1, a2⟩ := hl (j + 1) (by simp; omega)
      refine ⟨ds, by simpa using a1, fun i hi => ?_⟩
      have := a2 i hi
      rwa [show j0 + 1 + j = j0 + (j + 1) from by omega])
    have hdl := r.len hds
    refine ⟨ds ++ zs, by simp [hdl, g1, Nat.add_mul]; omega, fun i hi => ?_, fun u hu => ?_, fun j hj => ?_⟩
    · by_cases hi' : i < ds.length
      · rw [List.getElem_append_left hi']
        have := hc i hi'
        simpa using this
      · rw [List.getElem_append_right (by omega)]
        have := g2 (i - ds.length) (by simp at hi; omega)
        rw [← this]
        congr 2
        rw [Nat.add_mul, hdl]
        omega
    · rcases List.mem_append.1 hu with hu | hu
      · exact r.one hds u hu
      · exact g3 u hu
    · rcases j with _ | j
      · simpa [List.take_append_of_le_length (Nat.le_of_eq hdl.symm), ← hdl] using hds
      · have := g4 j (by simpa using hj)
        have e : (ds ++ zs).drop ((j + 1) * r.size) = zs.drop (j * r.size) := by
          rw [show (j + 1) * r.size = ds.length + j * r.size from by rw [Nat.add_mul, hdl]; omega, List.drop_length_add_append]
        simpa [e] using this
theorem addr_add (b off k : Nat) : (⟨b, off, none⟩ : Addr).add k = ⟨b, off + k, none⟩ := by unfold Addr.add; split <;> simp_all
/-- 'append(s, x)' where s is full: what comes is a row of one's own, the old one stays. -/
theorem run_grow1 {P : Program} (base : Nat) (t ty e : TypeId) (bytes : Nat) (ht : P.underlying t = some (.slice e)) (hi : ElemInfo P e r.size bytes) (hsz : 0 < r.size) {A : Option Addr} {n : Nat} (xs : List α)
    (h : IsSlice r w (fun b => base ≤ b ∧ b < w.heap.size) (.slice A n n) xs) {x : α} {cs : Array Value} (hx : r.holds w (fun b => base ≤ b ∧ b < w.heap.size) cs.toList x)
    (hbytes : (n + 1) * bytes ≤ 140737488355328) (h63 : n + 1 ≤ maxLen) (hbase : base ≤ w.heap.size) :
    ∃ v' w', (Builtin.append_ #[t, t] ty #[.slice A n n, .slice (some ⟨w.heap.size, 0, none⟩) 1 1]).run P (w.alloc (.cells cs e)) = .ok v' w' ∧ Own r e base w' v' (xs ++ [x]) ∧ Ext w w' ∧ ∀ k, v'.ownBlock = some k → w.heap.size ≤ k := by
  obtain ⟨i, z, hi1, hz, hsize, hby, hzs⟩ := hi.ex
  obtain ⟨A', n', c', hv, _, _, hrow⟩ := h
  injection hv with e1 e2 e3
  subst e1 e2 e3
  have hn := hrow.1
  have hcl : cs.toList.length = r.size := r.len hx
  have hnew : ∀ j u, cs.toList[j]? = some u → (w.alloc (.cells cs e)).cell? ((⟨w.heap.size, 0, none⟩ : Addr).add j) = some u := fun j u hu => by
    rw [addr_add, Nat.zero_add]
    have := cell_of_row (w.alloc (.cells cs e)) w.heap.size j cs e (0, 0) (heap_alloc_new w _)
    rw [this, ← Array.getElem?_toList]
    exact hu
  have hfin : ∀ (v' : Value) (w' : World) (ys : List Value), w'.ownsRow (w.alloc (.cells cs e)).heap.size e r.size v' (n + 1) (ys ++ cs.toList) → (w.alloc (.cells cs e)).grownBy w' none → ys.length = n * r.size →
      (∀ j (h : j < xs.length), r.holds w (fun b => base ≤ b ∧ b < w.heap.size) ((ys.drop (j * r.size)).take r.size) xs[j]) → Own r e base w' v' (xs ++ [x]) ∧ Ext w w' ∧ ∀ k, v'.ownBlock = some k → w.heap.size ≤ k := by
    intro v' w' ys ho hg hyl hys
    have hlt := ho.lt
    have hext : Ext w w' := Below.grown (ext_alloc _ _) hg (by simp) (fun b hb => by cases hb)
    have hkeep : ∀ b, (base ≤ b ∧ b < w.heap.size) → el base w' v' b ∧ ∀ o, w'.cell? ⟨b, o, none⟩ = w.cell? ⟨b, o, none⟩ := fun b hb =>
      ⟨⟨hb.1, Nat.lt_of_lt_of_le hb.2 hext.size, fun e => by have := (hlt b e).1; simp at this; omega⟩, fun o => hext.cell hb.2 o⟩
    refine ⟨⟨ys ++ cs.toList, ?_, fun j hj => ?_⟩, hext, fun k hk => by have := (hlt k hk).1; simp at this; omega⟩
    · obtain ⟨g1, g2⟩ := ho
      have hln : (xs ++ [x]).length = n + 1 := by simp [hn]
      rw [hln]
      refine ⟨g1, ?_⟩
      rcases g2 with g2 | ⟨g, cap, cur, q1, q2, q3⟩
      · exact .inl g2
      · exact .inr ⟨g, cap, cur, q1, by simp at q2; omega, q3⟩
    · by_cases hj' : j < xs.length
      · rw [List.getElem_append_left hj']
        have h3 := r.keep (hys j hj') hkeep
        have hle : (j + 1) * r.size ≤ n * r.size := Nat.mul_le_mul_right _ (by omega)
        rw [Nat.add_mul] at hle
        rwa [List.drop_append_of_le_length (by omega), List.take_append_of_le_length (by rw [List.length_drop]; omega)]
      · have hje : j = xs.length := by simp at hj; omega
        subst hje
        rw [List.getElem_append_right (Nat.le_refl _)]
        simp only [Nat.sub_self, List.getElem_cons_zero]
        rw [show xs.length * r.size = ys.length from by rw [hyl, hn], List.drop_left, List.take_of_length_le (by omega)]
        exact r.keep hx hkeep
  by_cases h0 : n = 0
  · subst h0
    have hx0 : xs = [] := List.length_eq_zero_iff.1 hn
    cases A with
    | none =>
      obtain ⟨v', w', hrun, g1, g2, _, _⟩ := run_append_own_at (P := P) (w.alloc (.cells cs e)) (w.alloc (.cells cs e)).heap.size t ty e i z r.size bytes ht hi1 hz hsize hby hzs hsz (.slice none 0 0) 0 [] (World.ownsRow_nil _ _ e r.size) ⟨w.heap.size, 0, none⟩ 1 1 cs.toList (by omega) hnew (fun u hu => r.one hx u hu) (by omega) (by omega) (Nat.le_refl _)
      have g1' : w'.ownsRow (w.alloc (.cells cs e)).heap.size e r.size v' (0 + 1) ([] ++ cs.toList) := by simpa using g1
      have g2' : (w.alloc (.cells cs e)).grownBy w' none := g2
      obtain ⟨k1, k2, k3⟩ := hfin v' w' [] g1' g2' (by simp) (fun j hj => absurd hj (by rw [hx0]; simp))
      exact ⟨v', w', hrun, k1, k2, k3⟩
    | some ad =>
      obtain ⟨v', w', hrun, g1, g2⟩ := run_append_arg_grows (P := P) (w.alloc (.cells cs e)) t ty e i z r.size bytes ht hi1 hz hsize hby hzs hsz ad 0 0 [] (by simp) (fun j u hu => by simp at hu) ⟨w.heap.size, 0, none⟩ 1 1 cs.toList (by omega) hnew (by omega) (by omega) (by omega)
      obtain ⟨k1, k2, k3⟩ := hfin v' w' [] g1 g2 (by simp) (fun j hj => absurd hj (by rw [hx0]; simp))
      exact ⟨v', w', hrun, k1, k2, k3⟩
  · obtain ⟨b, off, rfl, hbS, hel⟩ := hrow.2 (by omega)
    obtain ⟨ys, y1, y2, y3, y4⟩ := cells_of (r := r) (fun b => base ≤ b ∧ b < w.heap.size) b off xs 0 (by simpa using hel)
    rw [hn] at y1
    obtain ⟨v', w', hrun, g1, g2⟩ := run_append_arg_grows (P := P) (w.alloc (.cells cs e)) t ty e i z r.size bytes ht hi1 hz hsize hby hzs hsz ⟨b, off, none⟩ n n ys y1 (fun j u hu => by
      rw [addr_add, World.cell?_alloc_lt w _ _ hbS.2]
      have hj := lt_of_get hu
      have := y2 j hj
      simp only [Nat.zero_mul, Nat.add_zero] at this
      rw [this]
      rw [List.getElem?_eq_getElem hj] at hu
      exact hu) ⟨w.heap.size, 0, none⟩ 1 1 cs.toList (by omega) hnew (by omega) h63 hbytes
    obtain ⟨k1, k2, k3⟩ := hfin v' w' ys g1 g2 y1 y4
    exact ⟨v', w', hrun, k1, k2, k3⟩
variable {P : Program} {ops : Array Oper} {rest : List Oper} {o : Oper} {a : Act} {Q : Exit → Act → World → Prop}
theorem wpl_grow1 {base g n : Nat} {t e : TypeId} {bytes : Nat} {A : Option Addr} {xs : List α} {x : α} {cs : Array Value} (s y : Operand) (hgd : o.guard = none)
    (ho : o.op = .call { callee := .builtin .append, args := #[s, y], argTypes := #[t, t] }) (ht : P.underlying t = some (.slice e)) (hi : ElemInfo P e r.size bytes) (hsz : 0 < r.size)
    (h : IsSlice r w (fun b => base ≤ b ∧ b < w.heap.size) (.slice A n n) xs) (hs : a.eval s = .slice A n n) (hy : a.eval y = .slice (some ⟨g, 0, none⟩) 1 1) (hg : g = w.heap.size) (hx : r.holds w (fun b => base ≤ b ∧ b < w.heap.size) cs.toList x)
    (hbytes : (n + 1) * bytes ≤ 140737488355328) (h63 : n + 1 ≤ maxLen) (hbase : base ≤ w.heap.size)
    (hK : ∀ v' w', Own r e base w' v' (xs ++ [x]) → Ext w w' → (∀ k, v'.ownBlock = some k → w.heap.size ≤ k) → wpList P ops Q rest (a.put o.dst v') w') : wpList P ops Q (o :: rest) a (w.alloc (.cells cs e)) := by
  subst hg
  obtain ⟨v', w', hrun, h1, h2, h3⟩ := run_grow1 (P := P) base t o.type e bytes ht hi hsz xs h hx hbytes h63 hbase
  refine wpList_plain hgd fun K hK' => ?_
  unfold Oper.wp execOp
  simp only [ho, resolve, invoke, builtin, Sem.run_bind, Sem.run_pure, Result.andThen_ok, List.map_toArray, List.map_cons, List.map_nil, hs, hy, hrun]
  exact hK' _ _ (hK v' w' h1 h2 h3)
end
end Go.Proofs.Ytimlbebockfioaa
