/- The pusher in memory; its small functions. -/
import Derived.Test.YtimlbebockfioaaTimer2
import Derived.Test.YtimlbebockfioaaPushPlain
import Derived.Test.YtimlbebockfioaaFoot
import Derived.Test.YtimlbebockfioaaCfg
import Derived.Test.YtimlbebockfioaaJoin
import Derived.Test.YtimlbebockfioaaSlide
namespace Go.Proofs.Ytimlbebockfioaa
open Go.RowKit

def psCells (c : Cfg) (lv : Value) (base next gt : Nat) : Array Value :=
  #[.int .i64 c.e, .int .i64 c.w, .int .i64 c.m, .int .i64 c.l, .int .i64 c.b, .int .i64 c.room, .int .u64 c.begin_, lv, .int .i64 (base : Int), .int .i64 (next : Int), .pointer (some ⟨gt, 0, none⟩)]
/-- What the pusher is made of: F is where its messages lie. -/
structure PsAt (F : Nat → Prop) (w : World) (gp gt b : Nat) (c : Cfg) (s : Ps) : Prop where
  ne1 : gp ≠ gt
  ne2 : gp ≠ b
  fp : ∀ k, F k → (k ≠ gp ∧ k ≠ gt ∧ k ≠ b) ∧ k < w.heap.size
  tm : TmAt w gt b c.b s.T
  is : ∃ lv, Blk w gp 97 (psCells c lv s.base s.next gt) ∧ RowF F (repSlice repByte) 39 w lv (s.acc.drop s.base)
theorem psCellsAt {w : World} {gp gt base next : Nat} {c : Cfg} {lv : Value} (h : Blk w gp 97 (psCells c lv base next gt)) :
    w.cell? ⟨gp, 1, none⟩ = some (.int .i64 c.w) ∧ w.cell? ⟨gp, 2, none⟩ = some (.int .i64 c.m) ∧ w.cell? ⟨gp, 5, none⟩ = some (.int .i64 c.room) ∧ w.cell? ⟨gp, 7, none⟩ = some lv ∧ w.cell? ⟨gp, 8, none⟩ = some (.int .i64 (base : Int)) ∧ w.cell? ⟨gp, 9, none⟩ = some (.int .i64 (next : Int)) ∧ w.cell? ⟨gp, 10, none⟩ = some (.pointer (some ⟨gt, 0, none⟩)) ∧
    w.frozen? ⟨gp, 7, none⟩ = false ∧ w.frozen? ⟨gp, 8, none⟩ = false ∧ w.frozen? ⟨gp, 9, none⟩ = false :=
  ⟨h.cell 1, h.cell 2, h.cell 5, h.cell 7, h.cell 8, h.cell 9, h.cell 10, h.frozen 7, h.frozen 8, h.frozen 9⟩
section
variable {F F' : Nat → Prop} {w w' : World} {gp gt b : Nat} {c : Cfg} {s : Ps}
theorem PsAt.ltp (h : PsAt F w gp gt b c s) : gp < w.heap.size := by obtain ⟨lv, h1, _⟩ := h.is; exact h1.lt
theorem PsAt.ext (h : PsAt F w gp gt b c s) (he : Ext w w') : PsAt F w' gp gt b c s := by
  obtain ⟨lv, h1, h2⟩ := h.is
  exact ⟨h.ne1, h.ne2, fun k hk => ⟨(h.fp k hk).1, Nat.lt_of_lt_of_le (h.fp k hk).2 he.size⟩, h.tm.ext he, lv, h1.ext he, h2.frame he.size fun k hk _ => he.block k hk⟩
/-- The timers turn. -/
theorem PsAt.timer (h : PsAt F w gp gt b c s) (ho : Only b w w') {T : List Tm} (ht : TmAt w' gt b c.b T) : PsAt F w' gp gt b c ⟨s.acc, s.base, s.next, T⟩ := by
  obtain ⟨lv, h1, h2⟩ := h.is
  exact ⟨h.ne1, h.ne2, fun k hk => ⟨(h.fp k hk).1, Nat.lt_of_lt_of_le (h.fp k hk).2 ho.size⟩, ht, lv, h1.grown ho (fun e => h.ne2 (by injection e)), h2.frame ho.size fun k hk hF => ho.block k hk (fun e => (h.fp k hF).1.2.2 (by injection e))⟩
/-- Another block turns. -/
theorem PsAt.other (h : PsAt F w gp gt b c s) {row : Option Nat} (hg : w.grownBy w' row) (hr : ∀ k, row = some k → k ≠ gp ∧ k ≠ gt ∧ k ≠ b ∧ ¬ F k) : PsAt F w' gp gt b c s := by
  obtain ⟨lv, h1, h2⟩ := h.is
  exact ⟨h.ne1, h.ne2, fun k hk => ⟨(h.fp k hk).1, Nat.lt_of_lt_of_le (h.fp k hk).2 hg.size⟩, h.tm.kept hg (fun e => (hr gt e.symm).2.1 rfl) (fun e => (hr b e.symm).2.2.1 rfl), lv, h1.grown hg (fun e => (hr gp e.symm).1 rfl), h2.frame hg.size fun k hk hF => hg.block k hk (fun e => (hr k e.symm).2.2.2 hF)⟩
/-- Next turns. -/
theorem PsAt.next (h : PsAt F w gp gt b c s) (n : Nat) (v : Int) (hv : v = n) : PsAt F (w.setCell ⟨gp, 9, none⟩ (.int .i64 v)) gp gt b c ⟨s.acc, s.base, n, s.T⟩ := by
  subst hv
  obtain ⟨lv, h1, h2⟩ := h.is
  have ho : Only gp w (w.setCell ⟨gp, 9, none⟩ (.int .i64 (n : Int))) := (Only.refl _ _).set_ _ _
  exact ⟨h.ne1, h.ne2, fun k hk => ⟨(h.fp k hk).1, Nat.lt_of_lt_of_le (h.fp k hk).2 ho.size⟩, h.tm.kept ho (fun e => h.ne1 (by injection e with e; exact e.symm)) (fun e => h.ne2 (by injection e with e; exact e.symm)), lv, h1.set_ 9 _, h2.frame ho.size fun k hk hF => ho.block k hk (fun e => (h.fp k hF).1.1 (by injection e))⟩
end
set_option maxRecDepth 100000
section
theorem psIs_any (F : Nat → Prop) (w : World) (gp gt b : Nat) (c : Cfg) (s : Ps) (h : PsAt F w gp gt b c s) :
    Calls Try.prog 36 #[.pointer (some ⟨gp, 0, none⟩)] w fun e w' => e = .returned (.bool true) ∧ w = w' := by
  obtain ⟨lv, hb, _⟩ := h.is
  obtain ⟨_, _, _, _, _, _, c10, _, _, _⟩ := psCellsAt hb
  go_enter Try.func36, Try.ntmps36
  go_wp2
  go_ret
  exact ⟨rfl, rfl⟩
theorem psIsNil_any (w : World) : Calls Try.prog 36 #[.pointer none] w fun e w' => e = .returned (.bool false) ∧ w = w' := by
  go_enter Try.func36, Try.ntmps36
  go_wp2
  go_ret
  exact ⟨rfl, rfl⟩
theorem psAccepted_any (F : Nat → Prop) (w : World) (gp gt b : Nat) (c : Cfg) (s : Ps) (h : PsAt F w gp gt b c s) (hb : s.base ≤ s.acc.length) (hl : s.acc.length ≤ 1000000) :
    Calls Try.prog 37 #[.pointer (some ⟨gp, 0, none⟩)] w fun e w' => e = .returned (.int .i64 (s.acc.length : Int)) ∧ ∃ n, w' = w.drewN n := by
  obtain ⟨lv, hbk, hrow⟩ := h.is
  obtain ⟨A, cc, rfl, _⟩ := hrow.len
  obtain ⟨_, _, _, c7, c8, _, _, _, _, _⟩ := psCellsAt hbk
  rw [List.length_drop] at c7
  obtain ⟨d, hd⟩ : ∃ d, d = s.acc.length - s.base := ⟨_, rfl⟩
  rw [← hd] at c7
  obtain ⟨L, hL⟩ : ∃ L : Int, L = (s.acc.length : Int) := ⟨_, rfl⟩
  rw [← hL]
  obtain ⟨B, hB⟩ : ∃ B : Int, B = (s.base : Int) := ⟨_, rfl⟩
  rw [← hB] at c8
  have hbd : B + (d : Int) = L := by omega
  have hB0 : 0 ≤ B ∧ B ≤ 1000000 := by omega
  have hd0 : d ≤ 1000000 := by omega
  have HBD := hid hbd
  clear hbd hL hB hd hbk hrow h
  go_enter Try.func37, Try.ntmps37
  go_wp2
  go_quiet (fail)
  go_wp2
  go_ret
  exact ⟨ret_int HBD.out, _, rfl⟩
end
end Go.Proofs.Ytimlbebockfioaa
