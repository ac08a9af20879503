/- The reference's Step as one; its New and Accepts. -/
import Derived.Test.YtjchobncmogcpaaIdealR4
namespace Go.Proofs.Ytjchobncmogcpaa
open Go.RowKit

set_option maxRecDepth 100000
section
theorem stepR_any (w : World) (gr base : Nat) (s : Iq) (h : RqAt w gr base s) (hok : s.Ok) (hn : s.sent.length ≤ 900) (st kind pl : Int) (dv : Value) (data : List UInt8) (hd : IsSlice repByte w (all w) dv data) (hdl : data.length ≤ 16777216) :
    Calls Try.prog 59 #[.pointer (some ⟨gr, 0, none⟩), .agg #[.int .i64 st, .int .i64 kind, .int .i64 pl, dv]] w fun e w' => e = .returned (.bool (!(stepS s kind data).stuck)) ∧ RqAt w' gr base (stepS s kind data) ∧ LowR gr w w' := by
  cases hstk : s.stuck with
  | true =>
    have e1 : stepS s kind data = s := by unfold stepS; rw [if_pos hstk]
    rw [e1, hstk]
    exact stepRStuck_any w gr base s h hstk st kind pl dv
  | false =>
    have hs : ¬ s.stuck = true := by rw [hstk]; simp
    by_cases h0 : kind = 0
    · have e1 : stepS s kind data = { s with sent := s.sent ++ [data] } := by unfold stepS; rw [if_neg hs, if_pos h0]
      have e2 : (stepS s kind data).stuck = false := by rw [e1]; exact hstk
      rw [e2, e1, h0]
      exact stepR0_any w gr base s h hstk hn st pl dv data hd hdl
    · by_cases h2 : kind = 2
      · have e1 : stepS s kind data = retS s data := by unfold stepS; rw [if_neg hs, if_neg h0, if_pos h2]
        rw [e1, h2]
        exact stepRRet_any w gr base s h hok hstk hn st pl dv data hd
      · by_cases h5 : kind = 5 ∧ s.lossy = true
        · have e1 : stepS s kind data = { s with lost := s.sent.length } := by unfold stepS; rw [if_neg hs, if_neg h0, if_neg h2, if_pos h5]
          have e2 : (stepS s kind data).stuck = false := by rw [e1]; exact hstk
          rw [e2, e1, h5.1]
          exact stepRLost_any w gr base s h hstk h5.2 st pl dv
        · have e1 : stepS s kind data = s := by unfold stepS; rw [if_neg hs, if_neg h0, if_neg h2, if_neg h5]
          rw [e1, hstk]
          exact stepRRest_any w gr base s h hstk st kind pl dv h0 h2 h5
theorem newIR_any (lossy : Bool) (w : World) :
    Calls Try.prog 57 #[.bool lossy] w fun e w' => ∃ gr base, e = .returned (.pointer (some ⟨gr, 0, none⟩)) ∧ RqAt w' gr base (iq0 lossy) ∧ Ext w w' ∧ w.heap.size < gr := by
  go_enter Try.func57, Try.ntmps57
  go_wp2
  go_ret
  have hx1 := ext_alloc w (.cells #[.int .i64 0] 3)
  have hx2 := ext_alloc (w.alloc (.cells #[.int .i64 0] 3)) (.cells #[.bool lossy, .bool false, .slice none 0 0, .int .i64 0, .slice (some ⟨w.heap.size, 0, none⟩) 1 1] 121)
  have hsz : (w.alloc (.cells #[.int .i64 0] 3)).heap.size = w.heap.size + 1 := by simp
  have hb := Blk.new (w.alloc (.cells #[.int .i64 0] 3)) 121 #[.bool lossy, .bool false, .slice none 0 0, .int .i64 0, .slice (some ⟨w.heap.size, 0, none⟩) 1 1]
  rw [hsz] at hb
  have hl := (own_lit1 (r := repInt .i64) (base := w.heap.size) (w := w) (e := 3) (x := 0) (cs := #[.int .i64 0]) (Nat.le_refl _) ⟨rfl, by decide⟩).own
  have hone : ∀ b, w.heap.size ≤ b ∧ b < (w.alloc (.cells #[.int .i64 0] 3)).heap.size → b = w.heap.size := fun b hb => by omega
  refine ⟨w.heap.size + 1, w.heap.size + 2, rfl, ⟨by omega, by simp, .slice none 0 0, _, hb, own_nil _ _ _ _, hl.keep fun b hb' => ⟨⟨⟨by have := hone b hb'; omega, by have := hone b hb'; omega⟩, by have := hone b hb'; simp; omega, by simp [Value.ownBlock]⟩, fun _ => hx2.cell hb'.2 _⟩⟩, Ext.trans hx1 hx2, by omega⟩
end
end Go.Proofs.Ytjchobncmogcpaa
