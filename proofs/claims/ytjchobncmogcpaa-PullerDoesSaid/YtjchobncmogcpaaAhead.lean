/- What a puller is at, in memory: its own block, its queue, its map of the places that came ahead. -/
import Derived.Test.YtjchobncmogcpaaQueue
import Derived.Test.YtjchobncmogcpaaOwnSet
import Derived.Test.YtjchobncmogcpaaRing
namespace Go.Proofs.Ytjchobncmogcpaa
open Go.RowKit

section
variable {κ : Type} [DecidableEq κ]
theorem alook_put (l : List (κ × Value)) (k : κ) (v : Value) (k' : κ) : alook (aput l k v) k' = if k = k' then some v else alook l k' := by
  induction l with
  | nil =>
    by_cases h : k = k'
    · subst h; simp [alook, aput]
    · have : decide (k' = k) = false := decide_eq_false (fun e => h e.symm)
      simp [alook, aput, this, h]
  | cons p l ih =>
    simp only [aput]
    by_cases hp : k = p.1
    · rw [if_pos hp]
      by_cases h : k = k'
      · subst h; simp [alook]
      · have h1 : decide (k' = k) = false := decide_eq_false (fun e => h e.symm)
        have h2 : decide (k' = p.1) = false := by rw [← hp]; exact h1
        rw [if_neg h]
        unfold alook
        rw [List.find?_cons, h1, List.find?_cons, h2]
    · rw [if_neg hp]
      by_cases h : k' = p.1
      · have h1 : decide (k' = p.1) = true := decide_eq_true h
        have h2 : ¬ k = k' := by rw [h]; exact hp
        rw [if_neg h2]
        unfold alook
        rw [List.find?_cons, h1, List.find?_cons, h1]
      · have h1 : decide (k' = p.1) = false := decide_eq_false h
        unfold alook at ih ⊢
        rw [List.find?_cons, h1, List.find?_cons, h1]
        exact ih
theorem alook_mem {l : List (κ × Value)} {k : κ} : alook l k = none ↔ k ∉ l.map (·.1) := by
  unfold alook
  rw [Option.map_eq_none_iff, List.find?_eq_none]
  simp only [decide_eq_true_eq, List.mem_map, not_exists, not_and]
  exact ⟨fun h p hp e => h p hp e.symm, fun h p hp e => h p hp e.symm⟩
theorem alook_del {l : List (κ × Value)} (hn : (l.map (·.1)).Nodup) (k k' : κ) : alook (adel l k) k' = if k = k' then none else alook l k' := by
  induction l with
  | nil => simp [alook, adel]
  | cons p l ih =>
    rw [List.map_cons, List.nodup_cons] at hn
    simp only [adel]
    by_cases hp : k = p.1
    · rw [if_pos hp]
      by_cases h : k = k'
      · subst h
        rw [if_pos rfl, alook_mem, hp]
        exact hn.1
      · have h2 : decide (k' = p.1) = false := decide_eq_false (fun e => h (by rw [hp, e]))
        rw [if_neg h]
        unfold alook
        rw [List.find?_cons, h2]
    · rw [if_neg hp]
      have ih := ih hn.2
      by_cases h : k' = p.1
      · have h1 : decide (k' = p.1) = true := decide_eq_true h
        have h2 : ¬ k = k' := by rw [h]; exact hp
        rw [if_neg h2]
        unfold alook
        rw [List.find?_cons, h1, List.find?_cons, h1]
      · have h1 : decide (k' = p.1) = false := decide_eq_false h
        unfold alook at ih ⊢
        rw [List.find?_cons, h1, List.find?_cons, h1]
        exact ih
theorem aput_keys {l : List (κ × Value)} (hn : (l.map (·.1)).Nodup) {k : κ} (h : alook l k = none) (v : Value) : ((aput l k v).map (·.1)).Nodup := by
  rw [aput_new h, List.map_append, List.nodup_append]
  refine ⟨hn, by simp, fun a ha b hb => ?_⟩
  simp at hb
  subst hb
  intro e
  subst e
  exact alook_mem.1 h ha
theorem adel_sub (l : List (κ × Value)) (k : κ) : (adel l k).Sublist l := by
  induction l with
  | nil => exact List.Sublist.refl _
  | cons p l ih =>
    simp only [adel]
    split
    · exact List.sublist_cons_self p l
    · exact ih.cons_cons p
theorem adel_keys {l : List (κ × Value)} (hn : (l.map (·.1)).Nodup) (k : κ) : ((adel l k).map (·.1)).Nodup := ((adel_sub l k).map _).nodup hn
end

/-- A place and its message: in the map, and in the list. -/
def AhOne (X : Nat → Prop) (w : World) : Option Value → Option (List UInt8) → Prop
  | some v, some x => IsSlice repByte w (outOf X w) v x ∧ x.length ≤ 64
  | none, none => True
  | _, _ => False
structure AhIs (X : Nat → Prop) (w : World) (L : List (Int × Value)) (H : List (Int × List UInt8)) : Prop where
  nodup : (L.map (·.1)).Nodup
  at_ : ∀ k, AhOne X w (alook L k) (hlook H k)
section
variable {X : Nat → Prop} {w w' : World} {L : List (Int × Value)} {H : List (Int × List UInt8)}
theorem AhIs.out (h : AhIs X w L H) (ho : Out X w w') : AhIs X w' L H := ⟨h.nodup, fun k => by
  have := h.at_ k
  revert this
  cases alook L k <;> cases hlook H k <;> intro h1
  · exact h1
  · exact h1
  · exact h1
  · exact ⟨h1.1.out ho, h1.2⟩⟩
theorem AhIs.none (h : AhIs X w L H) {k : Int} (hk : hlook H k = Option.none) : alook L k = Option.none := by
  have := h.at_ k
  rw [hk] at this
  revert this
  cases alook L k <;> intro h1
  · rfl
  · exact h1.elim
theorem AhIs.some (h : AhIs X w L H) {k : Int} {x : List UInt8} (hk : hlook H k = Option.some x) : ∃ v, alook L k = Option.some v ∧ IsSlice repByte w (outOf X w) v x ∧ x.length ≤ 64 := by
  have := h.at_ k
  rw [hk] at this
  revert this
  cases alook L k <;> intro h1
  · exact h1.elim
  · exact ⟨_, rfl, h1⟩
theorem AhIs.del (h : AhIs X w L H) (k : Int) : AhIs X w (adel L k) (hdel H k) := ⟨adel_keys h.nodup k, fun k' => by
  rw [alook_del h.nodup, hlook_del]
  split
  · trivial
  · exact h.at_ k'⟩
theorem AhIs.put (h : AhIs X w L H) {k : Int} {v : Value} {x : List UInt8} (hk : hlook H k = Option.none) (hv : IsSlice repByte w (outOf X w) v x) (hx : x.length ≤ 64) : AhIs X w (aput L k v) (hins H k x) := ⟨aput_keys h.nodup (h.none hk) v, fun k' => by
  rw [alook_put, hlook_ins hk]
  split
  · exact ⟨hv, hx⟩
  · exact h.at_ k'⟩
end

/-- What a puller is set to. -/
structure Cfg where
  e : Int
  w : Int
  m : Int
  l : Int
  b : Int
  room : Int
  begin_ : Int
structure Cfg.Ok (c : Cfg) : Prop where
  w1 : 1 ≤ c.w
  wl : c.w ≤ c.l
  w64 : c.w ≤ 64
  l2 : c.l ≤ 4096
  m1 : 2 * (c.w + c.l) < c.m
  m2 : c.m ≤ 65536
  r1 : 1 ≤ c.room
  r2 : c.room ≤ 16
def cfgVals (c : Cfg) : List Value := [.int .i64 c.e, .int .i64 c.w, .int .i64 c.m, .int .i64 c.l, .int .i64 c.b, .int .i64 c.room, .int .u64 c.begin_]
def puCells (c : Cfg) (gq gm : Nat) (ent ret : Int) : Array Value :=
  #[.int .i64 c.e, .int .i64 c.w, .int .i64 c.m, .int .i64 c.l, .int .i64 c.b, .int .i64 c.room, .int .u64 c.begin_, .pointer (some ⟨gq, 0, none⟩), .map (some gm), .int .i64 ent, .int .i64 ret]
def own3 (gp gq gm : Nat) : Nat → Prop := fun b => b = gp ∨ b = gq ∨ b = gm
/-- What its texts lie outside of: X. -/
structure PuAt (X : Nat → Prop) (w : World) (gp gq gm : Nat) (c : Cfg) (s : Pu) : Prop where
  pq : gp ≠ gq
  pm : gp ≠ gm
  qm : gq ≠ gm
  sub : ∀ b, own3 gp gq gm b → X b
  ltX : ∀ b, X b → b < w.heap.size
  blk : Blk w gp 132 (puCells c gq gm s.ent s.ret)
  q : QAt X w gq c.room s.q
  map : ∃ L, MapSt (keyInt .i64) w gm L ∧ AhIs X w L s.ah
theorem puCellsAt {w : World} {gp gq gm : Nat} {c : Cfg} {ent ret : Int} (h : Blk w gp 132 (puCells c gq gm ent ret)) :
    w.cell? ⟨gp, 1, none⟩ = some (.int .i64 c.w) ∧ w.cell? ⟨gp, 2, none⟩ = some (.int .i64 c.m) ∧ w.cell? ⟨gp, 3, none⟩ = some (.int .i64 c.l) ∧
    w.cell? ⟨gp, 7, none⟩ = some (.pointer (some ⟨gq, 0, none⟩)) ∧ w.cell? ⟨gp, 8, none⟩ = some (.map (some gm)) ∧ w.cell? ⟨gp, 9, none⟩ = some (.int .i64 ent) ∧ w.cell? ⟨gp, 10, none⟩ = some (.int .i64 ret) ∧
    w.frozen? ⟨gp, 9, none⟩ = false ∧ w.frozen? ⟨gp, 10, none⟩ = false :=
  ⟨h.cell 1, h.cell 2, h.cell 3, h.cell 7, h.cell 8, h.cell 9, h.cell 10, h.frozen 9, h.frozen 10⟩
section
variable {X : Nat → Prop} {w w' : World} {gp gq gm : Nat} {c : Cfg} {s : Pu}
theorem PuAt.ltp (h : PuAt X w gp gq gm c s) : gp < w.heap.size := h.blk.lt
theorem PuAt.inp (h : PuAt X w gp gq gm c s) : X gp := h.sub _ (.inl rfl)
theorem PuAt.inq (h : PuAt X w gp gq gm c s) : X gq := h.sub _ (.inr (.inl rfl))
theorem PuAt.inm (h : PuAt X w gp gq gm c s) : X gm := h.sub _ (.inr (.inr rfl))
theorem PuAt.lt (h : PuAt X w gp gq gm c s) : ∀ b, own3 gp gq gm b → b < w.heap.size := fun b hb => h.ltX b (h.sub b hb)
theorem PuAt.ext (h : PuAt X w gp gq gm c s) (he : Ext w w') : PuAt X w' gp gq gm c s :=
  ⟨h.pq, h.pm, h.qm, h.sub, fun b hb => Nat.lt_of_lt_of_le (h.ltX b hb) he.size, h.blk.ext he, h.q.ext he, by obtain ⟨L, h1, h2⟩ := h.map; exact ⟨L, h1.ext he, h2.out (Out.of_ext he)⟩⟩
theorem PuAt.drewN (h : PuAt X w gp gq gm c s) (n : Nat) : PuAt X (w.drewN n) gp gq gm c s := h.ext (ext_drewN w n)
/-- Another block of X turns. -/
theorem PuAt.other (h : PuAt X w gp gq gm c s) {row : Option Nat} (hg : w.grownBy w' row) (hr : ∀ b, row = some b → X b ∧ ¬ own3 gp gq gm b) : PuAt X w' gp gq gm c s := by
  have ho : Out X w w' := ⟨hg.os, hg.tape, hg.output, hg.size, fun k hk hn => hg.block k hk (fun e => hn (hr k e.symm).1)⟩
  have hne : ∀ b, own3 gp gq gm b → some b ≠ row := fun b hb e => (hr b e.symm).2 hb
  obtain ⟨q1, q2, q3, q4, first, vs, q5, q6⟩ := h.q
  exact ⟨h.pq, h.pm, h.qm, h.sub, fun b hb => Nat.lt_of_lt_of_le (h.ltX b hb) hg.size, h.blk.grown hg (hne _ (.inl rfl)), ⟨q1, q2, q3, q4, first, vs, q5.grown hg (hne _ (.inr (.inl rfl))), q6.out ho⟩, by
    obtain ⟨L, h1, h2⟩ := h.map
    exact ⟨L, h1.kept hg (hne _ (.inr (.inr rfl))), h2.out ho⟩⟩
/-- Fewer, or newer, blocks are kept apart. -/
theorem PuAt.apart {Y : Nat → Prop} (h : PuAt X w gp gq gm c s) (hs : ∀ b, own3 gp gq gm b → Y b) (hlt : ∀ b, Y b → b < w'.heap.size) (he : Ext w w') (hY : ∀ b, b < w.heap.size → Y b → X b) : PuAt Y w' gp gq gm c s := by
  have hk : ∀ {v : Value} {xs : List UInt8}, IsSlice repByte w (outOf X w) v xs → IsSlice repByte w' (outOf Y w') v xs := fun hv =>
    hv.keep fun b hb => ⟨⟨Nat.lt_of_lt_of_le hb.1 he.size, fun hy => hb.2 (hY b hb.1 hy)⟩, fun _ => he.cell hb.1 _⟩
  obtain ⟨q1, q2, q3, q4, first, vs, q5, q6⟩ := h.q
  obtain ⟨L, h1, h2⟩ := h.map
  exact ⟨h.pq, h.pm, h.qm, hs, hlt, h.blk.ext he, ⟨hs _ (.inr (.inl rfl)), q2, q3, q4, first, vs, q5.ext he, ⟨q6.len, q6.low, q6.q16, fun i hi => (q6.at_ i hi).imp fun v hv => ⟨hv.1, hk hv.2⟩, q6.short⟩⟩, L, h1.ext he, ⟨h2.nodup, fun k => by
    have := h2.at_ k
    revert this
    cases alook L k <;> cases hlook s.ah k <;> intro h1
    · exact h1
    · exact h1
    · exact h1
    · exact ⟨hk h1.1, h1.2⟩⟩⟩
/-- The numbers turn. -/
theorem PuAt.ent (h : PuAt X w gp gq gm c s) (n : Nat) (v : Int) (hv : v = n) : PuAt X (w.setCell ⟨gp, 9, none⟩ (.int .i64 v)) gp gq gm c ⟨n, s.ret, s.q, s.ah⟩ := by
  subst hv
  have ho : Only gp w (w.setCell ⟨gp, 9, none⟩ (.int .i64 (n : Int))) := (Only.refl _ _).set_ _ _
  exact ⟨h.pq, h.pm, h.qm, h.sub, fun b hb => Nat.lt_of_lt_of_le (h.ltX b hb) ho.size, h.blk.set_ 9 _, h.q.only ho h.inp (fun e => h.pq e.symm), by
    obtain ⟨L, h1, h2⟩ := h.map
    exact ⟨L, h1.kept ho (fun e => h.pm (by injection e with e; exact e.symm)), h2.out (Out.of_only ho h.inp)⟩⟩
theorem PuAt.ret (h : PuAt X w gp gq gm c s) (n : Nat) (v : Int) (hv : v = n) : PuAt X (w.setCell ⟨gp, 10, none⟩ (.int .i64 v)) gp gq gm c ⟨s.ent, n, s.q, s.ah⟩ := by
  subst hv
  have ho : Only gp w (w.setCell ⟨gp, 10, none⟩ (.int .i64 (n : Int))) := (Only.refl _ _).set_ _ _
  exact ⟨h.pq, h.pm, h.qm, h.sub, fun b hb => Nat.lt_of_lt_of_le (h.ltX b hb) ho.size, h.blk.set_ 10 _, h.q.only ho h.inp (fun e => h.pq e.symm), by
    obtain ⟨L, h1, h2⟩ := h.map
    exact ⟨L, h1.kept ho (fun e => h.pm (by injection e with e; exact e.symm)), h2.out (Out.of_only ho h.inp)⟩⟩
/-- The queue turns. -/
theorem PuAt.queue (h : PuAt X w gp gq gm c s) (ho : Only gq w w') {q : List (List UInt8)} (hq : QAt X w' gq c.room q) : PuAt X w' gp gq gm c ⟨s.ent, s.ret, q, s.ah⟩ :=
  ⟨h.pq, h.pm, h.qm, h.sub, fun b hb => Nat.lt_of_lt_of_le (h.ltX b hb) ho.size, h.blk.grown ho (fun e => h.pq (by injection e)), hq, by
    obtain ⟨L, h1, h2⟩ := h.map
    exact ⟨L, h1.kept ho (fun e => h.qm (by injection e with e; exact e.symm)), h2.out (Out.of_only ho h.inq)⟩⟩
/-- The map turns. -/
theorem PuAt.turn (h : PuAt X w gp gq gm c s) (ho : Only gm w w') {L : List (Int × Value)} {H : List (Int × List UInt8)} (hm : MapSt (keyInt .i64) w' gm L) (hL : AhIs X w L H) : PuAt X w' gp gq gm c ⟨s.ent, s.ret, s.q, H⟩ :=
  ⟨h.pq, h.pm, h.qm, h.sub, fun b hb => Nat.lt_of_lt_of_le (h.ltX b hb) ho.size, h.blk.grown ho (fun e => h.pm (by injection e)), h.q.only ho h.inm h.qm, L, hm, hL.out (Out.of_only ho h.inm)⟩
end
end Go.Proofs.Ytjchobncmogcpaa
