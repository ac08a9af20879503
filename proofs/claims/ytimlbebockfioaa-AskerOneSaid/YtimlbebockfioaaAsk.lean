/- The asker in memory: whose a block is, told by a number; its small functions. -/
import Derived.Test.YtimlbebockfioaaAskPlain
import Derived.Test.YtimlbebockfioaaQueueF
import Derived.Test.YtimlbebockfioaaTimer2
namespace Go.Proofs.Ytimlbebockfioaa
open Go.RowKit

theorem SrcAt.mono {FD FU FU' : Nat → Prop} {w : World} {gs : Nat} {D U : List Int} (h : SrcAt FD FU w gs D U) (hm : ∀ q, FU q → FU' q) (h1 : ¬ FU' gs) (h2 : ∀ q, FD q → ¬ FU' q) (h3 : ∀ q, FU' q → q < w.heap.size) : SrcAt FD FU' w gs D U := by
  obtain ⟨dv, uv, k1, k2, k3⟩ := h.is
  exact ⟨h.nd, h1, h2, fun q hq => hq.elim (fun e => h.lt q (.inl e)) (h3 q), dv, uv, k1, k2, k3.mono fun q _ hq => hm q hq⟩
theorem QF.mono {F F' : Nat → Prop} {w : World} {g : Nat} {room : Int} {q : List (List UInt8)} (h : QF F w g room q) (hm : ∀ k, F k → F' k) (h1 : ¬ F' g) (h2 : ∀ k, F' k → k < w.heap.size) : QF F' w g room q :=
  QF.of h.1 (fun k hk hn => hm k (Classical.byContradiction fun hF => hn ⟨hk, hF⟩)) h2 h1
def akCells (gq gt gs acc done : Nat) (t r : Int) (bound : Bool) (tv : Value) : Array Value :=
  #[.pointer (some ⟨gq, 0, none⟩), .pointer (some ⟨gt, 0, none⟩), .pointer (some ⟨gs, 0, none⟩), .int .i64 (acc : Int), .int .i64 (done : Int), .int .u64 t, .int .u64 r, .bool bound, tv]
/-- Whose a block is: 1 the asker's, 2 the queue's, 3 the timers', 4 their map, 5 the source's, 6 a text, 7 handed in, 8 drawn, 9 told; 0 none of these. -/
structure AkAt (col : Nat → Nat) (w : World) (ga gq gt b gs : Nat) (most room : Int) (s : Ak) : Prop where
  ca : col ga = 1
  cq : col gq = 2
  ct : col gt = 3
  cb : col b = 4
  cs : col gs = 5
  lt : ∀ q, col q ≠ 0 → q < w.heap.size
  q : QF (fun k => col k = 6) w gq room s.q
  tm : TmAt w gt b most s.T
  src : SrcAt (fun k => col k = 7) (fun k => col k = 8) w gs s.D s.U
  is : ∃ tv, Blk w ga 112 (akCells gq gt gs s.acc s.told.length s.t s.r s.bound tv) ∧ RowF (fun k => col k = 9) (repInt .i64) 3 w tv s.told
open Classical in
/-- What is new since w is n's. -/
noncomputable def recol (col : Nat → Nat) (w w' : World) (n : Nat) : Nat → Nat := fun k => if w.heap.size ≤ k ∧ k < w'.heap.size then n else col k
section
variable {col : Nat → Nat} {w w' : World} {ga gq gt b gs : Nat} {most room : Int} {s : Ak} {n : Nat}
theorem recol_old (hlt : ∀ q, col q ≠ 0 → q < w.heap.size) {k : Nat} (hk : col k ≠ 0) : recol col w w' n k = col k := by
  unfold recol
  rw [if_neg (by have := hlt k hk; omega)]
theorem recol_is (hlt : ∀ q, col q ≠ 0 → q < w.heap.size) {k m : Nat} (hm : m ≠ 0) (h : col k = m) : recol col w w' n k = m := by rw [recol_old hlt (by omega), h]
theorem recol_from {k m : Nat} (hmn : m ≠ n) (h : recol col w w' n k = m) : col k = m := by
  unfold recol at h
  split at h
  · exact absurd h.symm hmn
  · exact h
theorem recol_new {k : Nat} (h : recol col w w' n k = n) : col k = n ∨ (w.heap.size ≤ k ∧ k < w'.heap.size) := by
  unfold recol at h
  split at h
  · rename_i h1; exact .inr h1
  · exact .inl h
theorem recol_mk {k : Nat} (h : w.heap.size ≤ k ∧ k < w'.heap.size) : recol col w w' n k = n := by unfold recol; rw [if_pos h]
theorem AkAt.away (h : AkAt col w ga gq gt b gs most room s) {Y : Nat → Prop} (ho : Out Y w w') (hY : ∀ q, Y q → col q = 0) : AkAt col w' ga gq gt b gs most room s := by
  obtain ⟨tv, h1, h2⟩ := h.is
  have hn : ∀ {q m}, m ≠ 0 → col q = m → ¬ Y q := fun hm hc hy => hm (hc.symm.trans (hY _ hy))
  exact ⟨h.ca, h.cq, h.ct, h.cb, h.cs, fun q hq => Nat.lt_of_lt_of_le (h.lt q hq) ho.size, h.q.away ho fun k hk => ⟨fun e => hn (by omega) h.cq (e ▸ hk), fun e => hn (by omega) e hk⟩, h.tm.out3 ho (hn (by omega) h.ct) (hn (by omega) h.cb), h.src.away ho fun q hq => ⟨fun e => hn (by omega) h.cs (e ▸ hq), fun e => hn (by omega) e hq, fun e => hn (by omega) e hq⟩, tv, h1.out ho (hn (by omega) h.ca), h2.frame ho.size fun k hk hF => ho.block k hk (hn (by omega) hF)⟩
theorem AkAt.ext (h : AkAt col w ga gq gt b gs most room s) (he : Ext w w') : AkAt col w' ga gq gt b gs most room s := h.away (Y := fun _ => False) (Out.of_ext he) fun _ h => h.elim
theorem akCellsAt {acc done : Nat} {t r : Int} {bound : Bool} {tv : Value} (h : Blk w ga 112 (akCells gq gt gs acc done t r bound tv)) :
    w.cell? ⟨ga, 0, none⟩ = some (.pointer (some ⟨gq, 0, none⟩)) ∧ w.cell? ⟨ga, 1, none⟩ = some (.pointer (some ⟨gt, 0, none⟩)) ∧ w.cell? ⟨ga, 2, none⟩ = some (.pointer (some ⟨gs, 0, none⟩)) ∧ w.cell? ⟨ga, 3, none⟩ = some (.int .i64 (acc : Int)) ∧ w.cell? ⟨ga, 4, none⟩ = some (.int .i64 (done : Int)) ∧ w.cell? ⟨ga, 5, none⟩ = some (.int .u64 t) ∧ w.cell? ⟨ga, 6, none⟩ = some (.int .u64 r) ∧ w.cell? ⟨ga, 7, none⟩ = some (.bool bound) ∧ w.cell? ⟨ga, 8, none⟩ = some tv :=
  ⟨h.cell 0, h.cell 1, h.cell 2, h.cell 3, h.cell 4, h.cell 5, h.cell 6, h.cell 7, h.cell 8⟩
/-- Cells of its own turn. -/
theorem AkAt.own (h : AkAt col w ga gq gt b gs most room s) (ho : Only ga w w') {acc : Nat} {t r : Int} {bound : Bool} {tv : Value} (hv : w.cell? ⟨ga, 8, none⟩ = some tv) (hb : Blk w' ga 112 (akCells gq gt gs acc s.told.length t r bound tv)) : AkAt col w' ga gq gt b gs most room ⟨s.q, s.T, s.D, s.U, acc, t, r, bound, s.told⟩ := by
  obtain ⟨tv', h1, h2⟩ := h.is
  obtain rfl : tv' = tv := by
    have := (akCellsAt h1).2.2.2.2.2.2.2.2
    rw [hv] at this
    injection this with this
    exact this.symm
  have hO : Out (fun q => q = ga) w w' := Out.of_only ho rfl
  have hne : ∀ {q m}, m ≠ 1 → col q = m → ¬ q = ga := fun hm hc e => hm (by rw [← hc, e, h.ca])
  exact ⟨h.ca, h.cq, h.ct, h.cb, h.cs, fun q hq => Nat.lt_of_lt_of_le (h.lt q hq) ho.size, h.q.away hO fun k hk => ⟨fun e => hne (by omega) h.cq (e ▸ hk), fun e => hne (by omega) e hk⟩, h.tm.out3 hO (hne (by omega) h.ct) (hne (by omega) h.cb), h.src.away hO fun q hq => ⟨fun e => hne (by omega) h.cs (e ▸ hq), fun e => hne (by omega) e hq, fun e => hne (by omega) e hq⟩, tv', hb, h2.frame ho.size fun k hk hF => hO.block k hk (hne (by omega) hF)⟩
/-- Its timers turn. -/
theorem AkAt.timer (h : AkAt col w ga gq gt b gs most room s) (ho : Only b w w') {T : List Tm} (ht : TmAt w' gt b most T) : AkAt col w' ga gq gt b gs most room ⟨s.q, T, s.D, s.U, s.acc, s.t, s.r, s.bound, s.told⟩ := by
  obtain ⟨tv, h1, h2⟩ := h.is
  have hO : Out (fun q => q = b) w w' := Out.of_only ho rfl
  have hne : ∀ {q m}, m ≠ 4 → col q = m → ¬ q = b := fun hm hc e => hm (by rw [← hc, e, h.cb])
  exact ⟨h.ca, h.cq, h.ct, h.cb, h.cs, fun q hq => Nat.lt_of_lt_of_le (h.lt q hq) ho.size, h.q.away hO fun k hk => ⟨fun e => hne (by omega) h.cq (e ▸ hk), fun e => hne (by omega) e hk⟩, ht, h.src.away hO fun q hq => ⟨fun e => hne (by omega) h.cs (e ▸ hq), fun e => hne (by omega) e hq, fun e => hne (by omega) e hq⟩, tv, h1.out hO (hne (by omega) h.ca), h2.frame ho.size fun k hk hF => hO.block k hk (hne (by omega) hF)⟩
/-- Its source turns. -/
theorem AkAt.source (h : AkAt col w ga gq gt b gs most room s) {FU' : Nat → Prop} {U : List Int} (hs : SrcAt (fun k => col k = 7) FU' w' gs s.D U) (hF : ∀ q, FU' q → col q = 8 ∨ Proofs.Ytimlbebockfioaa.fresh w w' q) (ho : Out (fun q => q = gs ∨ col q = 8) w w') : AkAt (recol col w w' 8) w' ga gq gt b gs most room ⟨s.q, s.T, s.D, U, s.acc, s.t, s.r, s.bound, s.told⟩ := by
  obtain ⟨tv, h1, h2⟩ := h.is
  have hne : ∀ {q m}, m ≠ 5 → m ≠ 8 → col q = m → ¬ (q = gs ∨ col q = 8) := fun hm hm2 hc e => e.elim (fun e => hm (by rw [← hc, e, h.cs])) fun e => hm2 (hc.symm.trans e)
  have hr : ∀ {k m}, m ≠ 0 → col k = m → recol col w w' 8 k = m := fun hm hc => recol_is h.lt hm hc
  have hlt : ∀ q, recol col w w' 8 q ≠ 0 → q < w'.heap.size := fun q hq => by
    by_cases hc : col q = 0
    · by_cases hn : w.heap.size ≤ q ∧ q < w'.heap.size
      · exact hn.2
      · unfold recol at hq; rw [if_neg hn] at hq; exact absurd hc hq
    · exact Nat.lt_of_lt_of_le (h.lt q hc) ho.size
  refine ⟨hr (by omega) h.ca, hr (by omega) h.cq, hr (by omega) h.ct, hr (by omega) h.cb, hr (by omega) h.cs, hlt, ?_, h.tm.out3 ho (hne (by omega) (by omega) h.ct) (hne (by omega) (by omega) h.cb), ?_, tv, h1.out ho (hne (by omega) (by omega) h.ca), ?_⟩
  · refine (h.q.away ho fun k hk => ⟨fun e => hne (by omega) (by omega) h.cq (e ▸ hk), fun e => hne (by omega) (by omega) e hk⟩).mono (fun k hk => hr (by omega) hk) (fun hk => ?_) fun k hk => hlt k (by omega)
    rw [hr (by omega) h.cq] at hk
    omega
  · have h7 : ∀ q, recol col w w' 8 q = 7 ↔ col q = 7 := fun q => ⟨fun e => recol_from (by omega) e, fun e => hr (by omega) e⟩
    have e7 : (fun k => recol col w w' 8 k = 7) = fun k => col k = 7 := funext fun q => propext (h7 q)
    rw [e7]
    refine hs.mono (fun q hq => (hF q hq).elim (fun e => hr (by omega) e) fun e => recol_mk e) (fun hq => ?_) (fun q hq hq' => ?_) fun q hq => hlt q (by omega)
    · rw [hr (by omega) h.cs] at hq
      omega
    · rw [hr (by omega) hq] at hq'
      omega
  · exact (h2.frame ho.size fun k hk hF => ho.block k hk (hne (by omega) (by omega) hF)).mono fun q _ hq => hr (by omega) hq
end
set_option maxRecDepth 100000
section
variable {col : Nat → Nat} {w : World} {ga gq gt b gs : Nat} {most room : Int} {s : Ak}
theorem akIs_any (h : AkAt col w ga gq gt b gs most room s) :
    Calls Try.prog 51 #[.pointer (some ⟨ga, 0, none⟩)] w fun e w' => e = .returned (.bool true) ∧ w = w' := by
  obtain ⟨tv, hb, _⟩ := h.is
  obtain ⟨c0, _⟩ := akCellsAt hb
  clear h hb
  go_enter Try.func51, Try.ntmps51
  go_wp2
  go_ret
  exact ⟨rfl, rfl⟩
theorem akAsks_any (h : AkAt col w ga gq gt b gs most room s) :
    Calls Try.prog 55 #[.pointer (some ⟨ga, 0, none⟩)] w fun e w' => ∃ u, e = .returned u ∧ IsSlice repTk w' (fresh w w') u (asksK s) ∧ Ext w w' := by
  obtain ⟨tv, hb, _⟩ := h.is
  obtain ⟨_, _, _, _, _, c5, _⟩ := akCellsAt hb
  obtain ⟨t, ht⟩ : ∃ t, t = s.t := ⟨_, rfl⟩
  have hA : asksK s = [⟨0, t, 0, 0, []⟩] := by rw [ht]; rfl
  rw [← ht] at c5
  rw [hA]
  clear h hb ht hA
  go_enter Try.func55, Try.ntmps55
  go_wp2
  go_ret
  have hL := own_lit1 (r := repTk) (base := w.heap.size) (w := w) (e := 69) (x := ⟨0, t, 0, 0, []⟩) (cs := #[.int .i64 0, .int .u64 t, .int .u64 0, .int .u64 0, .slice none 0 0]) (Nat.le_refl _) ⟨_, rfl, isSlice_nil _ _ _⟩
  exact ⟨_, rfl, hL.own.keep fun k hk => ⟨⟨by simpa using hk.1, by simpa using hk.2⟩, fun _ => rfl⟩, ext_alloc _ _⟩
end
end Go.Proofs.Ytimlbebockfioaa
