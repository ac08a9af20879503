/- The walks of keep's writer. -/
import Derived.Test.YtjchobncmogcpaaCrc
import Derived.Deep.RegionHeld3
import Derived.Test.YtjchobncmogcpaaEdits
namespace Go.Proofs.Ytjchobncmogcpaa
open Go.RowKit

/-- The block g and the row behind v may have turned, and what is new; v' is the row now. -/
structure Wr (g : Nat) (v : Value) (w w' : World) (v' : Value) : Prop where
  os : w'.os = w.os
  tape : w'.tape = w.tape
  output : w'.output = w.output
  size : w.heap.size ≤ w'.heap.size
  block : ∀ k, k < w.heap.size → k ≠ g → v.ownBlock ≠ some k → w'.heap[k]? = w.heap[k]?
  own : v'.ownBlock = v.ownBlock ∨ ∃ k, v'.ownBlock = some k ∧ w.heap.size ≤ k
section
variable {g : Nat} {v v' v'' : Value} {w w' w'' : World}
theorem Wr.refl (g : Nat) (v : Value) (w : World) : Wr g v w w v := ⟨rfl, rfl, rfl, Nat.le_refl _, fun _ _ _ _ => rfl, .inl rfl⟩
theorem Wr.trans (h : Wr g v w w' v') (k : Wr g v' w' w'' v'') : Wr g v w w'' v'' := by
  refine ⟨k.os.trans h.os, k.tape.trans h.tape, k.output.trans h.output, Nat.le_trans h.size k.size, fun i hi h1 h2 => (k.block i (Nat.lt_of_lt_of_le hi h.size) h1 ?_).trans (h.block i hi h1 h2), ?_⟩
  · rcases h.own with e | ⟨j, e, hj⟩
    · rw [e]; exact h2
    · rw [e]; intro e2; injection e2 with e2; omega
  · rcases k.own with e | ⟨j, e, hj⟩
    · rw [e]; exact h.own
    · exact .inr ⟨j, e, Nat.le_trans h.size hj⟩
theorem Wr.then (h : Wr g v w w' v') (k : Ext w' w'') : Wr g v w w'' v' :=
  ⟨k.os.trans h.os, k.tape.trans h.tape, k.output.trans h.output, Nat.le_trans h.size k.size, fun i hi h1 h2 => (k.block i (Nat.lt_of_lt_of_le hi h.size)).trans (h.block i hi h1 h2), h.own⟩
theorem Wr.since (k : Ext w w') (h : Wr g v w' w'' v') : Wr g v w w'' v' := by
  refine ⟨h.os.trans k.os, h.tape.trans k.tape, h.output.trans k.output, Nat.le_trans k.size h.size, fun i hi h1 h2 => (h.block i (Nat.lt_of_lt_of_le hi k.size) h1 h2).trans (k.block i hi), ?_⟩
  rcases h.own with e | ⟨j, e, hj⟩
  · exact .inl e
  · exact .inr ⟨j, e, Nat.le_trans k.size hj⟩
theorem Wr.put (h : Wr g v w w' v') (i : Nat) (u : Value) : Wr g v w (w'.setCell ⟨g, i, none⟩ u) v' :=
  ⟨h.os, h.tape, h.output, by simpa [World.setCell] using h.size, fun k hk h1 h2 => (Below.heap_setCell w' _ u k (by simpa using h1)).trans (h.block k hk h1 h2), h.own⟩
theorem Wr.grow (h : w.grownBy w' v.ownBlock) (hv : v'.ownBlock = v.ownBlock ∨ v'.ownBlock = some w.heap.size) : Wr g v w w' v' :=
  ⟨h.os, h.tape, h.output, h.size, fun k hk _ h2 => h.block k hk fun e => h2 e.symm, hv.imp id fun e => ⟨_, e, Nat.le_refl _⟩⟩
theorem Wr.blk {gl : Nat} {t : TypeId} {cs : Array Value} (h : Wr g v w w' v') (hb : Blk w gl t cs) (h1 : gl ≠ g) (h2 : v.ownBlock ≠ some gl) : Blk w' gl t cs := (h.block gl hb.lt h1 h2).trans hb
theorem Wr.below {base : Nat} (h : Wr g v w w' v') (hb : base ≤ w.heap.size) (hg : base ≤ g) (hv : ∀ k, v.ownBlock = some k → base ≤ k) : Below base w w' :=
  ⟨h.os, h.tape, h.output, h.size, fun k hk => h.block k (by omega) (by omega) fun e => by have := hv k e; omega⟩
theorem Wr.ne (h : Wr g v w w' v') (hv : v.ownBlock ≠ some g) (hg : g < w.heap.size) : v'.ownBlock ≠ some g := by
  rcases h.own with e | ⟨j, e, hj⟩
  · rw [e]; exact hv
  · rw [e]; intro e2; injection e2 with e2; omega
theorem Own.wput {α : Type} {r : Rep α} {e base : Nat} {xs : List α} (h : Own r e base w v xs) {i : Nat} {u : Value} (hr : Flat r) (hv : v.ownBlock ≠ some g) : Own r e base (w.setCell ⟨g, i, none⟩ u) v xs := by
  obtain ⟨ys, ⟨h1, h2⟩, h3⟩ := h
  refine ⟨ys, ⟨h1, ?_⟩, fun j hj => hr _ _ _ _ _ _ (h3 j hj)⟩
  rcases h2 with h2 | ⟨b, cap, cur, hv', hg', hh, hrest⟩
  · exact .inl h2
  · refine .inr ⟨b, cap, cur, hv', hg', ?_, hrest⟩
    rw [Below.heap_setCell w _ u b (by subst hv'; simp [Value.ownBlock] at hv; exact hv)]
    exact hh
end

/-- A number in eight bytes. -/
def wide8 (n : Int) : List UInt8 := putB (n % 18446744073709551616).toNat 8
theorem wide8_len (n : Int) : (wide8 n).length = 8 := putB_len 8 _
def nums8 (l : List Int) : List UInt8 := l.flatMap wide8
theorem nums8_len : ∀ l : List Int, (nums8 l).length = 8 * l.length
  | [] => rfl
  | x :: l => by have := nums8_len l; simp only [nums8, List.flatMap_cons, List.length_append, wide8_len, List.length_cons] at *; omega
theorem nums8_snoc (l : List Int) (x : Int) : nums8 (l ++ [x]) = nums8 l ++ wide8 x := by simp [nums8]
def ints64 (l : List Int) : Array Value := (l.map (Value.int .i64)).toArray
theorem ints64_at {l : List Int} {k : Nat} {x : Int} (h : l[k]? = some x) : (ints64 l)[k]? = some (.int .i64 x) := by simp [ints64, h]
theorem wrap_nat (x : Int) : ((x % 18446744073709551616).toNat : Int) = x % 18446744073709551616 := Int.toNat_of_nonneg (Int.emod_nonneg _ (by decide))
theorem newN {α : Type} {r : Rep α} (hf : Flat r) {w w' : World} {u v : Value} {xs : List α} {base : Nat} (h : IsSlice r w' (fresh w w') u xs) (hv : ∀ k, v.ownBlock = some k → base ≤ k ∧ k < w.heap.size) (hb : base ≤ w.heap.size) : SliceIn r w' (nb w' v) (el base w' v) u xs :=
  ((h.newer hv hb).keep (S' := nb w' v) fun _ hb => ⟨⟨hb.2.1, hb.2.2⟩, fun _ => rfl⟩).flat hf
section
variable {P : Program} {α : Type} {r : Rep α} {w : World} {ops : Array Oper} {o : Oper} {a : Act} {K : Act → World → Prop} {Q : Exit → Act → World → Prop} {E : Prop}
theorem step_appK {base : Nat} {t e : TypeId} {bytes : Nat} {v u : Value} {xs news : List α} (s x : Operand) (hgd : o.guard = none)
    (ho : o.op = .call { callee := .builtin .append, args := #[s, x], argTypes := #[t, t] }) (ht : P.underlying t = some (.slice e)) (hi : ElemInfo P e r.size bytes) (hsz : 0 < r.size)
    (hown : Own r e base w v xs) (hu : SliceIn r w (nb w v) (el base w v) u news) (hs : a.eval s = v) (hx : a.eval x = u)
    (hbytes : (xs.length + news.length) * bytes ≤ 140737488355328) (h63 : xs.length + news.length ≤ maxLen) (hbase : base ≤ w.heap.size)
    (h : ∀ v' w', Own r e base w' v' (xs ++ news) → w.grownBy w' v.ownBlock → (v'.ownBlock = v.ownBlock ∨ v'.ownBlock = some w.heap.size) → K (a.put o.dst v') w') : if Region.wanted o (yielded ops a.tmps) = true then o.wp P a w K Q else E := by
  have hw : Region.wanted o (yielded ops a.tmps) = true := by simp [Region.wanted, hgd]
  rw [if_pos hw]
  exact wp_app s x ho ht hi hsz hown hu hs hx hbytes h63 hbase fun v' w' h1 h2 h3 => h v' w' h1 h2 h3
end
set_option maxRecDepth 100000
section
set_option maxHeartbeats 1000000 in
theorem numbers_any (w : World) (g gl base : Nat) (v : Value) (xs : List UInt8) (ns : List Int) (n : Nat) (hb : Blk w g 152 #[v]) (ho : Own repByte 5 base w v xs) (hv : v.ownBlock ≠ some g) (hbase : base ≤ w.heap.size)
    (hl : Blk w gl 3 (ints64 ns)) (h1 : gl ≠ g) (h2 : v.ownBlock ≠ some gl) (hn : ns.length = n) (hn8 : n ≤ 8) (hxl : xs.length ≤ 4000000) :
    Calls Try.prog 88 #[.pointer (some ⟨g, 0, none⟩), .slice (some ⟨gl, 0, none⟩) n n] w fun e w' => e = .returned (.tuple #[]) ∧ ∃ v', Blk w' g 152 #[v'] ∧ Own repByte 5 base w' v' (xs ++ nums8 ns) ∧ Wr g v w w' v' := by
  have hgl := hb.lt
  have HN := hid hn
  clear hn
  go_enter Try.func88, Try.ntmps88
  go_wp2
  go_loopw [8] (fun i wr => ∃ (k : Nat) (v' : Value), k ≤ n ∧ i = .int .i64 k ∧ Blk wr g 152 #[v'] ∧ Own repByte 5 base wr v' (xs ++ nums8 (ns.take k)) ∧ Wr g v w wr v') (fun i _ => n - (intOf i).toNat)
  case atStart => exact ⟨0, v, Nat.zero_le _, rfl, hb, by simpa [nums8] using ho, Wr.refl _ _ _⟩
  case round =>
    obtain ⟨k, v', hk, rfl, hb', ho', hw'⟩ := hrel
    by_cases hlt : k < n
    · obtain ⟨x, hx⟩ : ∃ x, ns[k]? = some x := ⟨_, List.getElem?_eq_getElem (by rw [HN.out]; exact hlt)⟩
      have hlr := hw'.blk hl h1 h2
      have hcx : wr.cell? ⟨gl, k, none⟩ = some (.int .i64 x) := (hlr.cell k).trans (ints64_at hx)
      have HT := hid (show nums8 (ns.take (k + 1)) = nums8 (ns.take k) ++ wide8 x by rw [take_succ_of hx, nums8_snoc])
      have hP := hid (fun W : World => put_any (x % 18446744073709551616).toNat 8 W (by have := Int.emod_lt_of_pos x (show (0 : Int) < 18446744073709551616 by decide); omega) (by omega) (by omega))
      rw [wrap_nat] at hP
      have hQ := hid (show (xs ++ nums8 (ns.take k)).length ≤ 4000064 by rw [List.length_append, nums8_len, List.length_take]; omega)
      generalize hpb : xs ++ nums8 (ns.take k) = pb at *
      have HPB := hid hpb
      clear hpb
      have hc0 : wr.cell? ⟨g, 0, none⟩ = some v' := hb'.cell 0
      have hne' := hw'.ne hv hgl
      have hglr : g < wr.heap.size := hb'.lt
      have hszr := hw'.size
      obtain ⟨A, c, rfl, _⟩ := ho'.form
      have hbd := hb'.drew
      have hcd : wr.drew.cell? ⟨g, 0, none⟩ = some (.slice A pb.length c) := hc0
      have hpl := hQ.out
      have hb0 : base ≤ wr.heap.size := Nat.le_trans hbase hszr
      generalize hP8 : putB (x % 18446744073709551616).toNat 8 = p8 at *
      have hp8 : p8.length = 8 := by rw [← hP8]; exact putB_len _ _
      have HW := hid (show wide8 x = p8 from hP8)
      have HP8 := hid hp8
      clear hP8 hp8
      generalize hplg : pb.length = pl at *
      have HPL := hid hplg
      clear hplg
      go_wp2
      go_region_law (first
        | (go_simp; go_at_call 89; refine (hP.out _).mono ?_; rintro r w3 ⟨u, rfl, hu, hx3⟩; obtain ⟨Au, cu, rfl⟩ := hu.shape; have hx3 : Ext wr w3 := Ext.trans (Below.drew (Below.refl _ _)) hx3; have hu3 := newN flat_byte (IsSlice.since hu (Below.drew (Below.refl _ _))) ho'.lt hb0; have hb3 := hb'.ext hx3; have c3 := hb3.cell 0; have ho3 := ho'.ext hx3; dsimp only)
        | (refine step_appK (r := repByte) (base := base) _ _ rfl rfl Try.underlying33 info_byte (by decide) ho3 hu3 rfl rfl (by have := HP8.out; have := HPL.out; omega) (by have := HP8.out; have := HPL.out; simp only [maxLen]; omega) (Nat.le_trans hb0 hx3.size) ?_; intro v4 w4 hown4 hg4 hv4; obtain ⟨A4, c4, rfl, _⟩ := hown4.form; rw [List.length_append, HP8.out, HPL.out] at hown4 hv4 ⊢; have hb4 := hb3.grown hg4 (fun e => hne' e.symm); have f4 := hb4.frozen 0; have e4 : w4.cell? ⟨g, 0, none⟩ = some (.slice A pl c) := hb4.cell 0))
      all_goals
        go_wp2
        go_roundw
        case rel =>
          refine ⟨k + 1, _, by omega, by go_num, hb4.set_ 0 _, by rw [HT.out, ← List.append_assoc, HPB.out, HW.out]; exact hown4.wput flat_byte (by rcases hv4 with e | e <;> rw [e] <;> first | exact hne' | (intro e2; injection e2 with e2; have := hx3.size; omega)), ?_⟩
          exact (hw'.then hx3).trans ((Wr.grow hg4 hv4).put _ _)
        case measure => simp [intOf]; omega
    · obtain rfl : k = n := by omega
      go_wp2
      go_end0
      rw [List.take_of_length_le (by rw [HN.out]; exact Nat.le_refl _)] at ho'
      exact ⟨rfl, _, hb', ho', hw'⟩
theorem ints64_1 (a : Int) : #[Value.int .i64 a] = ints64 [a] := rfl
theorem ints64_3 (a b c : Int) : #[Value.int .i64 a, Value.int .i64 b, Value.int .i64 c] = ints64 [a, b, c] := rfl
theorem ints64_4 (a b c d : Int) : #[Value.int .i64 a, Value.int .i64 b, Value.int .i64 c, Value.int .i64 d] = ints64 [a, b, c, d] := rfl
theorem ints64_8 (a b c d e f i j : Int) : #[Value.int .i64 a, Value.int .i64 b, Value.int .i64 c, Value.int .i64 d, Value.int .i64 e, Value.int .i64 f, Value.int .i64 i, Value.int .i64 j] = ints64 [a, b, c, d, e, f, i, j] := rfl
theorem Blk.newE {w : World} {t : TypeId} {gl : Nat} {cs cs' : Array Value} (hg : gl = w.heap.size) (h : cs = cs') : Blk (w.alloc (.cells cs t)) gl t cs' := by subst hg; exact h ▸ Blk.new w t cs
theorem wrap64_byte (c : UInt8) : wrap64 (c.toNat : Int) = (c.toNat : Int) := by
  have h : ∀ n : Fin 256, wrap64 (n.val : Int) = (n.val : Int) := by decide +kernel
  exact h ⟨c.toNat, c.toNat_lt⟩
theorem ints64_3b (a b : Int) (c : UInt8) : #[Value.int .i64 a, Value.int .i64 b, Value.int .i64 (wrap64 (c.toNat : Int))] = ints64 [a, b, (c.toNat : Int)] := by rw [wrap64_byte]; rfl
def edB (e : Ed) : List UInt8 := nums8 [e.kind, e.at_, (e.b.toNat : Int)]
def edsB (l : List Ed) : List UInt8 := l.flatMap edB
theorem edsB_len : ∀ l : List Ed, (edsB l).length = 24 * l.length
  | [] => rfl
  | x :: l => by have := edsB_len l; simp only [edsB, edB, List.flatMap_cons, List.length_append, nums8_len, List.length_cons, List.length_nil] at *; omega
theorem edsB_snoc (l : List Ed) (x : Ed) : edsB (l ++ [x]) = edsB l ++ edB x := by simp [edsB]
def headC (c : Ch) : List UInt8 := nums8 [c.kind, c.who, c.at_, (c.data.length : Int)]
def chB (c : Ch) : List UInt8 := headC c ++ c.data ++ nums8 [(c.edits.length : Int)] ++ edsB c.edits
theorem numbersAt_any (w : World) (g gl base : Nat) (v : Value) (xs : List UInt8) (ns : List Int) (cs : Array Value) (n : Nat) (hb : Blk w g 152 #[v]) (ho : Own repByte 5 base w v xs) (hv : v.ownBlock ≠ some g) (hbase : base ≤ w.heap.size)
    (hgl : gl = w.heap.size) (hcs : cs = ints64 ns) (hn : ns.length = n) (hn8 : n ≤ 8) (hxl : xs.length ≤ 4000000) :
    Calls Try.prog 88 #[.pointer (some ⟨g, 0, none⟩), .slice (some ⟨gl, 0, none⟩) n n] (w.alloc (.cells cs 3)) fun e w' => e = .returned (.tuple #[]) ∧ ∃ v', Blk w' g 152 #[v'] ∧ Own repByte 5 base w' v' (xs ++ nums8 ns) ∧ Wr g v w w' v' ∧ v'.ownBlock ≠ some g :=
  (numbers_any _ g gl base v xs ns n (hb.alloc _) (ho.ext (ext_alloc _ _)) hv (by simp; omega) (Blk.newE hgl hcs) (by have := hb.lt; omega) (fun e => by have := (ho.lt _ e).2; omega) hn hn8 hxl).mono fun e w' ⟨he, v', h1, h2, h3⟩ =>
    ⟨he, v', h1, h2, Wr.since (ext_alloc _ _) h3, h3.ne hv (by have := hb.lt; simp; omega)⟩
set_option maxHeartbeats 2000000 in
theorem wchoice_any (w : World) (g base : Nat) (v : Value) (xs : List UInt8) (c : Ch) (u1 u2 : Value) (hb : Blk w g 152 #[v]) (ho : Own repByte 5 base w v xs) (hv : v.ownBlock ≠ some g) (hbase : base ≤ w.heap.size) (hbg : base ≤ g)
    (hu1 : IsSlice repByte w (fun b => b < base) u1 c.data) (hu2 : IsSlice repEd w (fun b => b < base) u2 c.edits) (hd : c.data.length ≤ 255) (he : c.edits.length ≤ 255) (hxl : xs.length ≤ 3900000) :
    Calls Try.prog 90 #[.pointer (some ⟨g, 0, none⟩), .agg #[.int .i64 c.kind, .int .i64 c.who, .int .i64 c.at_, u1, u2]] w fun e w' => e = .returned (.tuple #[]) ∧ ∃ v', Blk w' g 152 #[v'] ∧ Own repByte 5 base w' v' (xs ++ chB c) ∧ Wr g v w w' v' ∧ v'.ownBlock ≠ some g := by
  obtain ⟨A1, c1, rfl⟩ := hu1.shape
  obtain ⟨A2, c2, rfl⟩ := hu2.shape
  have hgl := hb.lt
  obtain ⟨B, hB⟩ : ∃ B : Array Value, B = #[.int .i64 c.kind, .int .i64 c.who, .int .i64 c.at_, .slice A1 c.data.length c1, .slice A2 c.edits.length c2] := ⟨_, rfl⟩
  have hbx : Blk (w.alloc (.cells #[.int .i64 c.kind, .int .i64 c.who, .int .i64 c.at_, .slice A1 c.data.length c1, .slice A2 c.edits.length c2] 147)) w.heap.size 147 B := by rw [hB]; exact Blk.new _ _ _
  have hx1 : Ext w (w.alloc (.cells #[.int .i64 c.kind, .int .i64 c.who, .int .i64 c.at_, .slice A1 c.data.length c1, .slice A2 c.edits.length c2] 147)) := ext_alloc _ _
  have hsz1 : w.heap.size < (w.alloc (.cells #[.int .i64 c.kind, .int .i64 c.who, .int .i64 c.at_, .slice A1 c.data.length c1, .slice A2 c.edits.length c2] 147)).heap.size := by simp
  have hd1 : B[0]? = some (.int .i64 c.kind) := by rw [hB]; simp
  have hd2 : B[1]? = some (.int .i64 c.who) := by rw [hB]; simp
  have hd3 : B[2]? = some (.int .i64 c.at_) := by rw [hB]; simp
  have hd4 : B[3]? = some (.slice A1 c.data.length c1) := by rw [hB]; simp
  have hd5 : B[4]? = some (.slice A2 c.edits.length c2) := by rw [hB]; simp
  have hB5 := hid (fun (W : World) (h : Blk W w.heap.size 147 B) => (⟨(h.cell 0).trans hd1, (h.cell 1).trans hd2, (h.cell 2).trans hd3, (h.cell 3).trans hd4, (h.cell 4).trans hd5⟩ : W.cell? ⟨w.heap.size, 0, none⟩ = some (.int .i64 c.kind) ∧ W.cell? ⟨w.heap.size, 1, none⟩ = some (.int .i64 c.who) ∧ W.cell? ⟨w.heap.size, 2, none⟩ = some (.int .i64 c.at_) ∧ W.cell? ⟨w.heap.size, 3, none⟩ = some (.slice A1 c.data.length c1) ∧ W.cell? ⟨w.heap.size, 4, none⟩ = some (.slice A2 c.edits.length c2)))
  obtain ⟨b0, b1, b2, b3, b4⟩ := hB5.out _ hbx
  have HHL := hid (show (xs ++ headC c).length ≤ 3900032 by rw [List.length_append, headC, nums8_len]; simp; omega)
  have HDL := hid hd
  have HEL := hid he
  have hown : v.ownBlock ≠ some w.heap.size := fun e => by have := (ho.lt _ e).2; omega
  have hneg : w.heap.size ≠ g := by omega
  clear hB hd1 hd2 hd3 hd4 hd5
  generalize hw1 : w.alloc (.cells #[.int .i64 c.kind, .int .i64 c.who, .int .i64 c.at_, .slice A1 c.data.length c1, .slice A2 c.edits.length c2] 147) = w1 at hbx hx1 hsz1 b0 b1 b2 b3 b4
  generalize hdl : c.data.length = dl at *
  generalize hel : c.edits.length = el' at *
  have HD := hid hdl
  have HE := hid hel
  clear hdl hel
  go_enter Try.func90, Try.ntmps90
  go_wp2_with (first
    | (go_at_call 88; refine (numbersAt_any w1 g _ base v xs [c.kind, c.who, c.at_, (dl : Int)] _ 4 (hb.ext hx1) (ho.ext hx1) hv (by omega) (by simp) (ints64_4 _ _ _ _) rfl (by omega) (by omega)).mono ?_; rintro e w2 ⟨rfl, v2, hb2, ho2, hw2, hv2⟩))
  have hw02 : Wr g v w1 w2 v2 := hw2
  have hbx2 := hw2.blk hbx hneg hown
  obtain ⟨c0, c1', c2', c3, c4⟩ := hB5.out _ hbx2
  have hsz2 := hw02.size
  have hx0 : w.heap.size < w2.heap.size := Nat.lt_of_lt_of_le hsz1 hw2.size
  have hHC : nums8 [c.kind, c.who, c.at_, (dl : Int)] = headC c := by unfold headC; rw [HD.out]
  rw [hHC] at ho2
  have hcg : w2.cell? ⟨g, 0, none⟩ = some v2 := hb2.cell 0
  have hun2 : SliceIn repByte w2 (nb w2 v2) (el base w2 v2) (.slice A1 dl c1) c.data := (hu1.keep (S' := nb w2 v2) fun k hk => ⟨⟨by omega, fun e => by have := (ho2.lt _ e).1; omega⟩, fun o => World.cell?_of_block ((hw02.block k (by omega) (by omega) (fun e => by have := (ho.lt _ e).1; omega)).trans (hx1.block k (by omega)))⟩).flat flat_byte
  generalize hp2 : xs ++ headC c = p2 at *
  have HP2 := hid hp2
  clear hp2
  clear hw1 b0 b1 b2 b3 b4 hHC
  go_wp2
  obtain ⟨A3, c3', rfl, _⟩ := ho2.form
  generalize hl2 : p2.length = l2 at *
  have HL2 := hid hl2
  clear hl2
  have hbd2 := hb2.drew
  go_region_law (first
    | (refine step_appK (r := repByte) (base := base) _ _ rfl rfl Try.underlying33 info_byte (by decide) (ho2.ext (Below.drew (Below.refl _ _))) hun2 rfl rfl (by have := HHL.out; have := HD.out; have := HL2.out; have := HDL.out; omega) (by have := HHL.out; have := HD.out; have := HDL.out; have := HL2.out; simp only [maxLen]; omega) (Nat.le_trans hbase (Nat.le_of_lt hx0)) ?_; intro v4 w4 hown4 hg4 hv4; obtain ⟨A4, c4', rfl, _⟩ := hown4.form; rw [List.length_append, HD.out, HL2.out] at hown4 hv4 ⊢; have hb4 := hbd2.grown hg4 (fun e => hv2 e.symm); have f4 := hb4.frozen 0; have e4 : w4.cell? ⟨g, 0, none⟩ = some (.slice A3 l2 c3') := hb4.cell 0))
  all_goals
    have hw24 : Wr g (.slice A3 l2 c3') w2 w4 (.slice A4 (l2 + dl) c4') := Wr.since (Below.drew (Below.refl _ _)) (Wr.grow hg4 hv4)
    have hw04 : Wr g v w1 w4 (.slice A4 (l2 + dl) c4') := hw02.trans hw24
    have hv4n : (Value.slice A4 (l2 + dl) c4').ownBlock ≠ some g := hw24.ne hv2 hb2.lt
    have hbx4 := hw04.blk hbx hneg hown
    have hb5 := hb4.set_ 0 (.slice A4 (l2 + dl) c4')
    have ho5 := hown4.wput (g := g) (i := 0) (u := .slice A4 (l2 + dl) c4') flat_byte hv4n
    have hbx5 := hbx4.far (p := ⟨g, 0, none⟩) hneg (.slice A4 (l2 + dl) c4')
    have hw05 := hw04.put 0 (.slice A4 (l2 + dl) c4')
    have hlen5 : (p2 ++ c.data).length ≤ 3900300 := by rw [List.length_append, HL2.out, HD.out]; have := HHL.out; omega
    generalize hw5 : w4.setCell ⟨g, 0, none⟩ (.slice A4 (l2 + dl) c4') = w5 at hb5 ho5 hbx5 hw05
    obtain ⟨_, _, _, _, d4⟩ := hB5.out _ hbx5
    simp only [List.setIfInBounds_toArray, List.set_cons_zero] at hb5
    have hsz5 := hw05.size
    have hx5 : w.heap.size < w5.heap.size := by have := hbx5.lt; omega
    generalize hp5 : p2 ++ c.data = p5 at *
    have HP5 := hid hp5
    clear hp5
    generalize (Value.slice A4 (l2 + dl) c4') = v5 at *
    go_wp2_with (first
      | (go_at_call 88; refine (numbersAt_any w5 g _ base v5 p5 [(el' : Int)] _ 1 hb5 ho5 hv4n (by omega) (by simp) (ints64_1 _) rfl (by omega) (by omega)).mono ?_; rintro e w6 ⟨rfl, v6, hb6, ho6, hw6, hv6⟩; have hw06 := hw05.trans hw6; have hbx6 := hw06.blk hbx hneg hown; obtain ⟨_, _, _, _, d6⟩ := hB5.out _ hbx6))
    have hlen6 : (p5 ++ nums8 [(el' : Int)]).length ≤ 3900400 := by rw [List.length_append, nums8_len]; simp; omega
    have hx6 : w.heap.size < w6.heap.size := hbx6.lt
    have hsz6 := hw06.size
    clear hw05 hw04 hw24 hbx5 hbx4 hb5 ho5 hb4 hown4 hg4 hv4 hw6 hw2 hw02
    generalize hp6 : p5 ++ nums8 [(el' : Int)] = p6 at *
    have HP6 := hid hp6
    clear hp6
    obtain ⟨_, _, _, hv2', _, _, hrow⟩ := id hu2
    injection hv2' with e1 e2 e3
    subst e1 e2 e3
    go_loopw [37] (fun i wr => ∃ (k : Nat) (v' : Value), k ≤ el' ∧ i = .int .i64 k ∧ Blk wr g 152 #[v'] ∧ Own repByte 5 base wr v' (p6 ++ edsB (c.edits.take k)) ∧ Wr g v w1 wr v' ∧ v'.ownBlock ≠ some g) (fun i _ => el' - (intOf i).toNat)
    case atStart => exact ⟨0, v6, Nat.zero_le _, rfl, hb6, by simpa [edsB] using ho6, hw06, hv6⟩
    case round =>
      obtain ⟨k, v', hk, rfl, hb', ho', hw', hv'⟩ := hrel
      have hbxr := hw'.blk hbx hneg hown
      obtain ⟨_, _, _, _, dr⟩ := hB5.out _ hbxr
      have hxr : w.heap.size < wr.heap.size := hbxr.lt
      by_cases hlt : k < el'
      · obtain ⟨b, off, x, rfl, hbl, hx, q0, q1, q2⟩ := hrow.ed hlt
        have hbk : wr.heap[b]? = w.heap[b]? := (hw'.block b (by have := hx1.size; omega) (by omega) (fun e => by have := (ho.lt _ e).1; omega)).trans (hx1.block b (by omega))
        have z0 : wr.cell? ⟨b, off + k * 3, none⟩ = some (.int .i64 x.kind) := (World.cell?_of_block hbk).trans q0
        have z1 : wr.cell? ⟨b, off + k * 3 + 1, none⟩ = some (.int .i64 x.at_) := (World.cell?_of_block hbk).trans q1
        have z2 : wr.cell? ⟨b, off + k * 3 + 2, none⟩ = some (.int .u8 (x.b.toNat : Int)) := (World.cell?_of_block hbk).trans q2
        have HT := hid (show edsB (c.edits.take (k + 1)) = edsB (c.edits.take k) ++ edB x by rw [take_succ_of hx, edsB_snoc])
        have hQ := hid (show (p6 ++ edsB (c.edits.take k)).length ≤ 4000000 by rw [List.length_append, edsB_len, List.length_take]; omega)
        have hxlt : b < wr.heap.size := by omega
        generalize hpb : p6 ++ edsB (c.edits.take k) = pb at *
        have HPB := hid hpb
        clear hpb hx
        go_wp2_with (first
          | (go_at_call 88; refine (numbersAt_any (wr.alloc (.cells #[.int .i64 x.kind, .int .i64 x.at_, .int .u8 (x.b.toNat : Int)] 161)) g _ base v' pb [x.kind, x.at_, (x.b.toNat : Int)] _ 3 (hb'.alloc _) (ho'.ext (ext_alloc _ _)) hv' (by simp; omega) (by simp) (ints64_3b _ _ _) rfl (by omega) (by have := hQ.out; omega)).mono ?_; rintro e w7 ⟨rfl, v7, hb7, ho7, hw7, hv7⟩))
        go_roundw
        case rel =>
          refine ⟨k + 1, v7, by omega, by go_num, hb7, ?_, hw'.trans (Wr.since (ext_alloc _ _) hw7), hv7⟩
          rw [HT.out, ← List.append_assoc, HPB.out]
          exact ho7
        case measure => simp [intOf]; omega
      · obtain rfl : k = el' := by omega
        go_wp2
        go_end0
        rw [List.take_of_length_le (by rw [HE.out]; exact Nat.le_refl _), ← HP6.out, ← HP5.out, ← HP2.out] at ho'
        refine ⟨rfl, v', hb', ?_, Wr.since hx1 hw', hv'⟩
        unfold chB
        rw [HE.out]
        simpa [List.append_assoc] using ho'
end
end Go.Proofs.Ytjchobncmogcpaa
