/- A step of either queue beside the other one. -/
import Derived.Test.YtjchobncmogcpaaIdealPlain
import Derived.Test.YtjchobncmogcpaaIdealZ
import Derived.Test.YtjchobncmogcpaaIdealFifo
namespace Go.Proofs.Ytjchobncmogcpaa
open Go.RowKit

theorem iqAt_closed {lo gq gm base : Nat} (s : Iq) (h1 : lo ≤ gq) (h2 : lo ≤ gm) (h3 : lo ≤ base) : Closed lo (fun u => IqAt u gq gm base s) := fun u u' hs h => by
  obtain ⟨k1, k2, k3, k4, ⟨v, k5, k6⟩, L, k7, k8⟩ := h
  exact ⟨k1, k2, k3, Nat.le_trans k4 hs.size, ⟨v, k5.sub hs h1, k6.sub hs h3⟩, L, k7.sub hs h2, k8⟩
theorem rqAt_closed {lo gr base : Nat} (s : Iq) (h1 : lo < gr) : Closed lo (fun u => RqAt u gr base s) := fun u u' hs h => by
  obtain ⟨k1, k2, v, x, k3, k4, k5⟩ := h
  exact ⟨k1, Nat.le_trans k2 hs.size, v, x, k3.sub hs (by omega), k4.sub hs (by omega), k5.sub hs fun b hb => ⟨by omega, hb.1, Nat.lt_of_lt_of_le hb.2.1 hs.size, hb.2.2⟩⟩
/-- The two queues, each at its own place, both at one state. -/
def Qs (W w : World) (gq gm bq gr br : Nat) (s t : Iq) : Prop := (W.heap.size ≤ gq ∧ W.heap.size ≤ gm ∧ W.heap.size ≤ bq ∧ W.heap.size < gr) ∧ Two (fun u => IqAt u gq gm bq s) (fun u => RqAt u gr br t) W w
section
variable {W w w' : World} {gq gm bq gr br : Nat} {s t : Iq}
theorem Qs.ext0 (h : Qs W w gq gm bq gr br s t) : Ext W w := h.2.ext0
theorem Qs.iq (h : Qs W w gq gm bq gr br s t) : IqAt w gq gm bq s := h.2.left (iqAt_closed s h.1.1 h.1.2.1 h.1.2.2.1)
theorem Qs.rq (h : Qs W w gq gm bq gr br s t) : RqAt w gr br t := h.2.right (rqAt_closed t h.1.2.2.2)
theorem Qs.ext (h : Qs W w gq gm bq gr br s t) (he : Ext w w') : Qs W w' gq gm bq gr br s t := ⟨h.1, h.2.ext he (iqAt_closed s h.1.1 h.1.2.1 h.1.2.2.1) (rqAt_closed t h.1.2.2.2)⟩
theorem qs_step (h : Qs W w gq gm bq gr br s t) (hs : s.Ok) (hn : s.sent.length ≤ 900) (st kind pl : Int) (dv : Value) (data : List UInt8) (hd : IsSlice repByte W (all W) dv data) (hdl : data.length ≤ 16777216) :
    Calls Try.prog 58 #[.pointer (some ⟨gq, 0, none⟩), .agg #[.int .i64 st, .int .i64 kind, .int .i64 pl, dv]] w fun e w' => e = .returned (.bool (!(stepS s kind data).stuck)) ∧ Qs W w' gq gm bq gr br (stepS s kind data) t := by
  obtain ⟨hl, h2⟩ := h
  refine (two_call plainIdeal (f := 58) (by kernel_rfl) (Q := fun x u => x = .bool (!(stepS s kind data).stuck) ∧ IqAt u gq gm bq (stepS s kind data)) h2 (iqAt_closed s hl.1 hl.2.1 hl.2.2.1) (rqAt_closed t hl.2.2.2)
    (fun x u u' hs hq => ⟨hq.1, iqAt_closed _ hl.1 hl.2.1 hl.2.2.1 u u' hs hq.2⟩) (fun u hu hsz hin => (step_any u gq gm bq s hu hs hn st kind pl dv data (hin repByte dv data hd) hdl).mono ?_)).mono ?_
  · rintro e u' ⟨rfl, hq, hlow⟩
    exact ⟨_, rfl, ⟨rfl, hq⟩, hlow.mono (by omega)⟩
  · rintro e w' ⟨x, rfl, htwo⟩
    have hx : x = .bool (!(stepS s kind data).stuck) := by
      obtain ⟨S, T, _, _, _, h4, _⟩ := htwo
      exact h4.1
    subst hx
    exact ⟨rfl, hl, htwo.imp (fun u hu => hu.2) (fun u hu => hu)⟩
theorem qs_stepR (h : Qs W w gq gm bq gr br s t) (hs : t.Ok) (hn : t.sent.length ≤ 900) (st kind pl : Int) (dv : Value) (data : List UInt8) (hd : IsSlice repByte W (all W) dv data) (hdl : data.length ≤ 16777216) :
    Calls Try.prog 59 #[.pointer (some ⟨gr, 0, none⟩), .agg #[.int .i64 st, .int .i64 kind, .int .i64 pl, dv]] w fun e w' => e = .returned (.bool (!(stepS t kind data).stuck)) ∧ Qs W w' gq gm bq gr br s (stepS t kind data) := by
  obtain ⟨hl, h2⟩ := h
  refine (two_call plainIdeal (f := 59) (by kernel_rfl) (Q := fun x u => x = .bool (!(stepS t kind data).stuck) ∧ RqAt u gr br (stepS t kind data)) h2.swap (rqAt_closed t hl.2.2.2) (iqAt_closed s hl.1 hl.2.1 hl.2.2.1)
    (fun x u u' hs hq => ⟨hq.1, rqAt_closed _ hl.2.2.2 u u' hs hq.2⟩) (fun u hu hsz hin => (stepR_any u gr br t hu hs hn st kind pl dv data (hin repByte dv data hd) hdl).mono ?_)).mono ?_
  · rintro e u' ⟨rfl, hq, hlow⟩
    exact ⟨_, rfl, ⟨rfl, hq⟩, hlow.mono (by omega)⟩
  · rintro e w' ⟨x, rfl, htwo⟩
    have hx : x = .bool (!(stepS t kind data).stuck) := by
      obtain ⟨S, T, _, _, _, h4, _⟩ := htwo
      exact h4.1
    subst hx
    exact ⟨rfl, hl, htwo.swap.imp (fun u hu => hu) (fun u hu => hu.2)⟩
theorem qs_new {w1 w2 : World} (h0 : Ext W w1) (h1 : Ext w1 w2) (hq : IqAt w1 gq gm bq s) (l1 : W.heap.size ≤ gq) (l2 : W.heap.size ≤ gm) (hr : RqAt w2 gr br t) (l3 : w1.heap.size < gr) : Qs W w2 gq gm bq gr br s t := by
  have l4 : W.heap.size ≤ bq := by have := hq.q; omega
  have l5 : W.heap.size < gr := by have := h0.size; omega
  exact ⟨⟨l1, l2, l4, l5⟩, two_new h0 h1 (iqAt_closed s l1 l2 l4) (rqAt_closed t l3) hq hr⟩
end
end Go.Proofs.Ytjchobncmogcpaa
