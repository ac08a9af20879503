/- Rows with a footprint: the blocks that they, and what they hold, lie in. No program in sight. -/
import Derived.Test.YtimlbebockfioaaGrow
namespace Go.Proofs.Ytimlbebockfioaa
open Go.RowKit

def repIn {α : Type} (S : Nat → Prop) (r : Rep α) : Rep α where
  size := r.size
  holds w T cs x := r.holds w (fun b => T b ∧ S b) cs x
  len h := r.len h
  one h := r.one h
  keepP h hk := r.keepP h fun b hb => ⟨⟨(hk b hb.1).1, hb.2⟩, (hk b hb.1).2⟩
section
variable {α : Type} {r : Rep α} {S S' : Nat → Prop} {e : TypeId} {base : Nat} {w w' : World} {v : Value} {xs : List α}
theorem Own.inMono (h : Own (repIn S r) e base w v xs) (hS : ∀ b, b < w.heap.size → S b → S' b) : Own (repIn S' r) e base w v xs := by
  obtain ⟨ys, h1, h2⟩ := h
  exact ⟨ys, h1, fun j hj => r.keep (h2 j hj) fun b hb => ⟨⟨hb.1, hS b hb.1.2.1 hb.2⟩, fun _ => rfl⟩⟩
theorem Own.inFrame (h : Own (repIn S r) e base w v xs) (hv : ∀ b, v.ownBlock = some b → S b) (hs : w.heap.size ≤ w'.heap.size) (hk : ∀ k, k < w.heap.size → S k → w'.heap[k]? = w.heap[k]?) : Own (repIn S r) e base w' v xs := by
  have hlt := h.lt
  obtain ⟨ys, ⟨h1, h2⟩, h3⟩ := h
  refine ⟨ys, ⟨h1, ?_⟩, fun j hj => r.keep (h3 j hj) fun b hb => ⟨⟨⟨hb.1.1, Nat.lt_of_lt_of_le hb.1.2.1 hs, hb.1.2.2⟩, hb.2⟩, fun o => World.cell?_of_block (hk b hb.1.2.1 hb.2)⟩⟩
  rcases h2 with h2 | ⟨g, cap, cur, q1, q2, q3, q4⟩
  · exact .inl h2
  · refine .inr ⟨g, cap, cur, q1, q2, ?_, q4⟩
    have hg : v.ownBlock = some g := by rw [q1]; rfl
    rw [hk g (hlt g hg).2 (hv g hg)]
    exact q3
theorem Own.inSlice (h : Own (repIn S r) e base w v xs) (hv : ∀ b, v.ownBlock = some b → S b) : IsSlice r w (fun b => S b ∧ b < w.heap.size) v xs := by
  obtain ⟨A, c, rfl, h1, h2, h3, h4⟩ := h.form
  refine ⟨A, _, c, rfl, h1, h2, h3, fun hn => ?_⟩
  obtain ⟨b, off, rfl, hb, hj⟩ := h4 hn
  refine ⟨b, off, rfl, ⟨hv b rfl, hb.2⟩, fun j hj' => ?_⟩
  obtain ⟨ds, hd, hc⟩ := hj j hj'
  exact ⟨ds, r.keep hd fun k hk => ⟨⟨hk.2, hk.1.2⟩, fun _ => rfl⟩, hc⟩
/-- A slice in S: a row of one's own, or one that is full. -/
def RowF (S : Nat → Prop) (r : Rep α) (e : TypeId) (w : World) (v : Value) (xs : List α) : Prop :=
  (Own (repIn S r) e 0 w v xs ∧ ∀ b, v.ownBlock = some b → S b) ∨ (∃ A n, v = .slice A n n ∧ IsSlice r w (fun b => S b ∧ b < w.heap.size) v xs)
theorem RowF.slice (h : RowF S r e w v xs) : IsSlice r w (fun b => S b ∧ b < w.heap.size) v xs := by
  rcases h with ⟨h1, h2⟩ | ⟨A, n, rfl, h2⟩
  · exact h1.inSlice h2
  · exact h2
theorem RowF.frame (h : RowF S r e w v xs) (hs : w.heap.size ≤ w'.heap.size) (hk : ∀ k, k < w.heap.size → S k → w'.heap[k]? = w.heap[k]?) : RowF S r e w' v xs := by
  rcases h with ⟨h1, h2⟩ | ⟨A, n, rfl, h2⟩
  · exact .inl ⟨h1.inFrame h2 hs hk, h2⟩
  · exact .inr ⟨A, n, rfl, h2.keep fun b hb => ⟨⟨hb.1, Nat.lt_of_lt_of_le hb.2 hs⟩, fun o => World.cell?_of_block (hk b hb.2 hb.1)⟩⟩
theorem RowF.mono (h : RowF S r e w v xs) (hS : ∀ b, b < w.heap.size → S b → S' b) : RowF S' r e w v xs := by
  rcases h with ⟨h1, h2⟩ | ⟨A, n, rfl, h2⟩
  · exact .inl ⟨h1.inMono hS, fun b hb => hS b (h1.lt b hb).2 (h2 b hb)⟩
  · exact .inr ⟨A, n, rfl, h2.keep fun b hb => ⟨⟨hS b hb.2 hb.1, hb.2⟩, fun _ => rfl⟩⟩
theorem RowF.len (h : RowF S r e w v xs) : ∃ A c, v = .slice A xs.length c ∧ c ≤ maxLen := by
  obtain ⟨A, n, c, rfl, _, h2, h3⟩ := h.slice
  exact ⟨A, c, by rw [h3.1], h2⟩
/-- S, and what is new since w. -/
def grow (S : Nat → Prop) (w w' : World) : Nat → Prop := fun b => S b ∨ (w.heap.size ≤ b ∧ b < w'.heap.size)
variable {P : Program} {ops : Array Oper} {rest : List Oper} {o : Oper} {a : Act} {Q : Exit → Act → World → Prop}
/-- 'append(s, x)' to such a slice; x lies in the new block behind w. -/
theorem wpl_rowF {g : Nat} {t : TypeId} {bytes : Nat} {x : α} {cs : Array Value} (s y : Operand) (hgd : o.guard = none)
    (ho : o.op = .call { callee := .builtin .append, args := #[s, y], argTypes := #[t, t] }) (ht : P.underlying t = some (.slice e)) (hi : ElemInfo P e r.size bytes) (hsz : 0 < r.size)
    (h : RowF S r e w v xs) (hs : a.eval s = v) (hy : a.eval y = .slice (some ⟨g, 0, none⟩) 1 1) (hg : g = w.heap.size) (hx : r.holds w (fun b => S b ∧ b < w.heap.size ∧ v.ownBlock ≠ some b) cs.toList x)
    (hbytes : (xs.length + 1) * bytes ≤ 140737488355328) (h63 : xs.length + 1 ≤ maxLen)
    (hK : ∀ v' w', RowF (grow S w w') r e w' v' (xs ++ [x]) → Out (fun b => v.ownBlock = some b ∧ S b) w w' → (∃ A c, v' = .slice A (xs.length + 1) c) → wpList P ops Q rest (a.put o.dst v') w') : wpList P ops Q (o :: rest) a (w.alloc (.cells cs e)) := by
  have hshape : ∀ v' w', RowF (grow S w w') r e w' v' (xs ++ [x]) → ∃ A c, v' = .slice A (xs.length + 1) c := fun v' w' hr => by
    obtain ⟨A, c, h1, _⟩ := hr.len
    exact ⟨A, c, by rw [h1]; simp⟩
  rcases h with ⟨h1, h2⟩ | ⟨A, n, rfl, h2⟩
  · subst hg
    have hlt := h1.lt
    refine wpl_app s y hgd ho ht (r := repIn S r) hi hsz (h1.ext (ext_alloc w _)) (isSlice_one (r := repIn S r) (r.keep hx fun b hb => ⟨⟨⟨Nat.zero_le _, hb.2.1, hb.2.2⟩, hb.1⟩, fun _ => rfl⟩) fun k hk => (hlt k hk).2) hs hy hbytes h63 (Nat.zero_le _) ?_
    intro v' w' g1 g2 g3
    have hout : Out (fun b => v.ownBlock = some b ∧ S b) w w' := ⟨g2.os, g2.tape, g2.output, Nat.le_trans (by simp) g2.size, fun k hk hn => (g2.block k (by simp; omega) (fun e => hn ⟨e.symm, h2 k e.symm⟩)).trans (Below.heap_alloc w _ k hk)⟩
    have hr : RowF (grow S w w') r e w' v' (xs ++ [x]) := .inl ⟨g1.inMono fun b _ hb => .inl hb, fun b hb => by
      rcases g3 with g3 | g3
      · rw [g3] at hb; exact .inl (h2 b hb)
      · right
        have := (g1.lt b hb).2
        rw [g3] at hb
        simp at hb
        omega⟩
    exact hK v' w' hr hout (hshape v' w' hr)
  · obtain ⟨A', n', c', hv, _, _, hrow⟩ := id h2
    injection hv with e1 e2 e3
    subst e1 e2
    have hn := hrow.1
    have h3 : IsSlice (repIn S r) w (fun b => 0 ≤ b ∧ b < w.heap.size) (.slice A n n) xs := by
      refine ⟨A, n, n, rfl, Nat.le_refl _, by rw [← hn]; omega, hn, fun h0 => ?_⟩
      obtain ⟨b, off, hA, hb, hj⟩ := hrow.2 h0
      refine ⟨b, off, hA, ⟨Nat.zero_le _, hb.2⟩, fun j hj' => ?_⟩
      obtain ⟨ds, hd, hc⟩ := hj j hj'
      exact ⟨ds, r.keep hd fun k hk => ⟨⟨⟨Nat.zero_le _, hk.2⟩, hk.1⟩, fun _ => rfl⟩, hc⟩
    refine wpl_grow1 (r := repIn S r) s y hgd ho ht hi hsz h3 hs hy hg (r.keep hx fun b hb => ⟨⟨⟨Nat.zero_le _, hb.2.1⟩, hb.1⟩, fun _ => rfl⟩) (by rw [← hn]; exact hbytes) (by rw [← hn]; exact h63) (Nat.zero_le _) ?_
    intro v' w' g1 g2 g3
    have hr : RowF (grow S w w') r e w' v' (xs ++ [x]) := .inl ⟨g1.inMono fun b _ hb => .inl hb, fun b hb => .inr ⟨g3 b hb, (g1.lt b hb).2⟩⟩
    exact hK v' w' hr (Out.of_ext g2) (hshape v' w' hr)
end
section
variable {α : Type} {r : Rep α} {S T : Nat → Prop} {e : TypeId} {base : Nat} {w w' : World} {v : Value} {xs : List α}
variable {P : Program} {ops : Array Oper} {o : Oper} {a : Act} {K : Act → World → Prop} {Q : Exit → Act → World → Prop} {E : Prop}
theorem wp_grow1 {base g n : Nat} {t e : TypeId} {bytes : Nat} {A : Option Addr} {xs : List α} {x : α} {cs : Array Value} (s y : Operand)
    (ho : o.op = .call { callee := .builtin .append, args := #[s, y], argTypes := #[t, t] }) (ht : P.underlying t = some (.slice e)) (hi : ElemInfo P e r.size bytes) (hsz : 0 < r.size)
    (h : IsSlice r w (fun b => base ≤ b ∧ b < w.heap.size) (.slice A n n) xs) (hs : a.eval s = .slice A n n) (hy : a.eval y = .slice (some ⟨g, 0, none⟩) 1 1) (hg : g = w.heap.size) (hx : r.holds w (fun b => base ≤ b ∧ b < w.heap.size) cs.toList x)
    (hbytes : (n + 1) * bytes ≤ 140737488355328) (h63 : n + 1 ≤ maxLen) (hbase : base ≤ w.heap.size)
    (hK : ∀ v' w', Own r e base w' v' (xs ++ [x]) → Ext w w' → (∀ k, v'.ownBlock = some k → w.heap.size ≤ k) → K (a.put o.dst v') w') : o.wp P a (w.alloc (.cells cs e)) K Q := by
  subst hg
  obtain ⟨v', w', hrun, h1, h2, h3⟩ := run_grow1 (P := P) base t o.type e bytes ht hi hsz xs h hx hbytes h63 hbase
  unfold Oper.wp execOp
  simp only [ho, resolve, invoke, builtin, Sem.run_bind, Sem.run_pure, Result.andThen_ok, List.map_toArray, List.map_cons, List.map_nil, hs, hy, hrun]
  exact hK v' w' h1 h2 h3
/-- 'append(s, x)' to such a slice; x lies in the new block behind w. -/
theorem wp_rowF {g : Nat} {t : TypeId} {bytes : Nat} {x : α} {cs : Array Value} (s y : Operand)
    (ho : o.op = .call { callee := .builtin .append, args := #[s, y], argTypes := #[t, t] }) (ht : P.underlying t = some (.slice e)) (hi : ElemInfo P e r.size bytes) (hsz : 0 < r.size)
    (h : RowF T r e w v xs) (hTS : ∀ b, T b → S b) (hs : a.eval s = v) (hy : a.eval y = .slice (some ⟨g, 0, none⟩) 1 1) (hg : g = w.heap.size) (hx1 : r.holds w (fun b => S b ∧ b < w.heap.size) cs.toList x) (hx2 : (∀ b, v.ownBlock = some b → T b) → r.holds w (fun b => S b ∧ b < w.heap.size ∧ v.ownBlock ≠ some b) cs.toList x)
    (hbytes : (xs.length + 1) * bytes ≤ 140737488355328) (h63 : xs.length + 1 ≤ maxLen)
    (hK : ∀ v' w', RowF (grow S w w') r e w' v' (xs ++ [x]) → Out (fun b => v.ownBlock = some b ∧ S b) w w' → (∃ A c, v' = .slice A (xs.length + 1) c) → K (a.put o.dst v') w') : o.wp P a (w.alloc (.cells cs e)) K Q := by
  have hshape : ∀ v' w', RowF (grow S w w') r e w' v' (xs ++ [x]) → ∃ A c, v' = .slice A (xs.length + 1) c := fun v' w' hr => by
    obtain ⟨A, c, h1, _⟩ := hr.len
    exact ⟨A, c, by rw [h1]; simp⟩
  rcases h with ⟨h1, h2⟩ | ⟨A, n, rfl, h2⟩
  · subst hg
    have hx := hx2 h2
    replace h2 := fun b hb => hTS b (h2 b hb)
    replace h1 := h1.inMono fun b _ hb => hTS b hb
    have hlt := h1.lt
    refine wp_app s y ho ht (r := repIn S r) hi hsz (h1.ext (ext_alloc w _)) (isSlice_one (r := repIn S r) (r.keep hx fun b hb => ⟨⟨⟨Nat.zero_le _, hb.2.1, hb.2.2⟩, hb.1⟩, fun _ => rfl⟩) fun k hk => (hlt k hk).2) hs hy hbytes h63 (Nat.zero_le _) ?_
    intro v' w' g1 g2 g3
    have hout : Out (fun b => v.ownBlock = some b ∧ S b) w w' := ⟨g2.os, g2.tape, g2.output, Nat.le_trans (by simp) g2.size, fun k hk hn => (g2.block k (by simp; omega) (fun e => hn ⟨e.symm, h2 k e.symm⟩)).trans (Below.heap_alloc w _ k hk)⟩
    have hr : RowF (grow S w w') r e w' v' (xs ++ [x]) := .inl ⟨g1.inMono fun b _ hb => .inl hb, fun b hb => by
      rcases g3 with g3 | g3
      · rw [g3] at hb; exact .inl (h2 b hb)
      · right
        have := (g1.lt b hb).2
        rw [g3] at hb
        simp at hb
        omega⟩
    exact hK v' w' hr hout (hshape v' w' hr)
  · have hx := hx1
    replace h2 : IsSlice r w (fun b => S b ∧ b < w.heap.size) (.slice A n n) xs := h2.keep fun b hb => ⟨⟨hTS b hb.1, hb.2⟩, fun _ => rfl⟩
    obtain ⟨A', n', c', hv, _, _, hrow⟩ := id h2
    injection hv with e1 e2 e3
    subst e1 e2
    have hn := hrow.1
    have h3 : IsSlice (repIn S r) w (fun b => 0 ≤ b ∧ b < w.heap.size) (.slice A n n) xs := by
      refine ⟨A, n, n, rfl, Nat.le_refl _, by rw [← hn]; omega, hn, fun h0 => ?_⟩
      obtain ⟨b, off, hA, hb, hj⟩ := hrow.2 h0
      refine ⟨b, off, hA, ⟨Nat.zero_le _, hb.2⟩, fun j hj' => ?_⟩
      obtain ⟨ds, hd, hc⟩ := hj j hj'
      exact ⟨ds, r.keep hd fun k hk => ⟨⟨⟨Nat.zero_le _, hk.2⟩, hk.1⟩, fun _ => rfl⟩, hc⟩
    refine wp_grow1 (r := repIn S r) s y ho ht hi hsz h3 hs hy hg (r.keep hx fun b hb => ⟨⟨⟨Nat.zero_le _, hb.2⟩, hb.1⟩, fun _ => rfl⟩) (by rw [← hn]; exact hbytes) (by rw [← hn]; exact h63) (Nat.zero_le _) ?_
    intro v' w' g1 g2 g3
    have hr : RowF (grow S w w') r e w' v' (xs ++ [x]) := .inl ⟨g1.inMono fun b _ hb => .inl hb, fun b hb => .inr ⟨g3 b hb, (g1.lt b hb).2⟩⟩
    exact hK v' w' hr (Out.of_ext g2) (hshape v' w' hr)
theorem step_rowF {g : Nat} {t : TypeId} {bytes : Nat} {x : α} {cs : Array Value} (s y : Operand) (hgd : o.guard = none)
    (ho : o.op = .call { callee := .builtin .append, args := #[s, y], argTypes := #[t, t] }) (ht : P.underlying t = some (.slice e)) (hi : ElemInfo P e r.size bytes) (hsz : 0 < r.size)
    (h : RowF T r e w v xs) (hTS : ∀ b, T b → S b) (hs : a.eval s = v) (hy : a.eval y = .slice (some ⟨g, 0, none⟩) 1 1) (hg : g = w.heap.size) (hx1 : r.holds w (fun b => S b ∧ b < w.heap.size) cs.toList x) (hx2 : (∀ b, v.ownBlock = some b → T b) → r.holds w (fun b => S b ∧ b < w.heap.size ∧ v.ownBlock ≠ some b) cs.toList x)
    (hbytes : (xs.length + 1) * bytes ≤ 140737488355328) (h63 : xs.length + 1 ≤ maxLen)
    (hK : ∀ v' w', RowF (grow S w w') r e w' v' (xs ++ [x]) → Out (fun b => v.ownBlock = some b ∧ S b) w w' → (∃ A c, v' = .slice A (xs.length + 1) c) → K (a.put o.dst v') w') : if Region.wanted o (yielded ops a.tmps) = true then o.wp P a (w.alloc (.cells cs e)) K Q else E := by
  have hw : Region.wanted o (yielded ops a.tmps) = true := by simp [Region.wanted, hgd]
  rw [if_pos hw]
  exact wp_rowF s y ho ht hi hsz h hTS hs hy hg hx1 hx2 hbytes h63 hK
end
end Go.Proofs.Ytimlbebockfioaa
