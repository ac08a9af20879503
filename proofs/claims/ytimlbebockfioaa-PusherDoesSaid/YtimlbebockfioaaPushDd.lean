/- The pusher and its reference side by side, with what others hold; Poll. -/
import Derived.Test.YtimlbebockfioaaPushF
import Derived.Test.YtimlbebockfioaaPushLive
namespace Go.Proofs.Ytimlbebockfioaa
open Go.RowKit

structure Dd (X : Nat → Prop) (w : World) (gp gt b gr gu : Nat) (c : Cfg) (W R : Nat) (s t : Ps) : Prop where
  two : ∃ FP FR : Nat → Prop, PsF gp gt b c W R s FP w ∧ RpF gr gu c W R t FR w ∧ (∀ k, FP k → ¬ FR k) ∧ ∀ k, FP k ∨ FR k → ¬ X k
  lt : ∀ k, X k → k < w.heap.size
section
variable {X Y : Nat → Prop} {w w' : World} {gp gt b gr gu : Nat} {c : Cfg} {W R : Nat} {s t s' t' : Ps}
theorem Dd.grow (h : Dd X w gp gt b gr gu c W R s t) (he : Ext w w') (hY : ∀ k, Y k → X k ∨ (w.heap.size ≤ k ∧ k < w'.heap.size)) : Dd Y w' gp gt b gr gu c W R s t := by
  obtain ⟨FP, FR, h1, h2, h3, h4⟩ := h.two
  refine ⟨⟨FP, FR, h1.away (Y := fun _ => False) (Out.of_ext he) (fun _ h => h.elim), h2.away (Y := fun _ => False) (Out.of_ext he) (fun _ h => h.elim), h3, fun k hk hy => ?_⟩, fun k hk => ?_⟩
  · rcases hY k hy with e | e
    · exact h4 k hk e
    · rcases hk with e' | e'
      · have := h1.2.1 k e'; omega
      · have := h2.2.1 k e'; omega
  · rcases hY k hk with e | e
    · exact Nat.lt_of_lt_of_le (h.lt k e) he.size
    · exact e.2
theorem Dd.later (h : Dd X w gp gt b gr gu c W R s t) (he : Ext w w') : Dd X w' gp gt b gr gu c W R s t := h.grow he fun _ hk => .inl hk
variable {P : Program} {f : FuncId} {args : Array Value} {mk : Value → Ending} {xs : List Sl}
/-- A call on the program's side. -/
theorem Dd.left (h : Dd X w gp gt b gr gu c W R s t) (hc : ∀ FP, PsF gp gt b c W R s FP w → Calls P f args w fun e w' => ∃ u, e = mk u ∧ FRes (PsF gp gt b c W R s') FP w u xs w') :
    Calls P f args w fun e w' => ∃ u, ∃ Y : Nat → Prop, e = mk u ∧ (∀ q, Y q → Proofs.Ytimlbebockfioaa.fresh w w' q) ∧ IsSlice repSl w' Y u xs ∧ Dd (fun q => X q ∨ Y q) w' gp gt b gr gu c W R s' t ∧ Out (fun k => ¬ X k) w w' := by
  obtain ⟨FP, FR, h1, h2, h3, h4⟩ := h.two
  refine (hc FP h1).mono ?_
  rintro e w' ⟨u, rfl, FP', k1, k2, k3, k4⟩
  refine ⟨u, _, rfl, fun q hq => hq.1, k3, ⟨⟨FP', FR, k1, h2.away k4 h3, fun k hk hr => ?_, fun k hk hx => ?_⟩, fun k hk => ?_⟩, k4.mono fun k hk => h4 k (.inl hk)⟩
  · rcases k2 k hk with e | e
    · exact h3 k e hr
    · have := h2.2.1 k hr; have := e.1; omega
  · rcases hk with hk | hk
    · rcases hx with hx | hx
      · rcases k2 k hk with e | e
        · exact h4 k (.inl e) hx
        · have := h.lt k hx; have := e.1; omega
      · exact hx.2 hk
    · rcases hx with hx | hx
      · exact h4 k (.inr hk) hx
      · have := h2.2.1 k hk; have := hx.1.1; omega
  · rcases hk with hk | hk
    · exact Nat.lt_of_lt_of_le (h.lt k hk) k4.size
    · exact hk.1.2
/-- A call on the reference's side. -/
theorem Dd.right (h : Dd X w gp gt b gr gu c W R s t) (hc : ∀ FP, RpF gr gu c W R t FP w → Calls P f args w fun e w' => ∃ u, e = mk u ∧ FRes (RpF gr gu c W R t') FP w u xs w') :
    Calls P f args w fun e w' => ∃ u, ∃ Y : Nat → Prop, e = mk u ∧ (∀ q, Y q → Proofs.Ytimlbebockfioaa.fresh w w' q) ∧ IsSlice repSl w' Y u xs ∧ Dd (fun q => X q ∨ Y q) w' gp gt b gr gu c W R s t' ∧ Out (fun k => ¬ X k) w w' := by
  obtain ⟨FP, FR, h1, h2, h3, h4⟩ := h.two
  refine (hc FR h2).mono ?_
  rintro e w' ⟨u, rfl, FR', k1, k2, k3, k4⟩
  refine ⟨u, _, rfl, fun q hq => hq.1, k3, ⟨⟨FP, FR', h1.away k4 fun q hq hp => h3 q hp hq, k1, fun k hp hr => ?_, fun k hk hx => ?_⟩, fun k hk => ?_⟩, k4.mono fun k hk => h4 k (.inr hk)⟩
  · rcases k2 k hr with e | e
    · exact h3 k hp e
    · have := h1.2.1 k hp; have := e.1; omega
  · rcases hk with hk | hk
    · rcases hx with hx | hx
      · exact h4 k (.inl hk) hx
      · have := h1.2.1 k hk; have := hx.1.1; omega
    · rcases hx with hx | hx
      · rcases k2 k hk with e | e
        · exact h4 k (.inr e) hx
        · have := h.lt k hx; have := e.1; omega
      · exact hx.2 hk
  · rcases hk with hk | hk
    · exact Nat.lt_of_lt_of_le (h.lt k hk) k4.size
    · exact hk.1.2
/-- Both made, one behind the other. -/
theorem dd_new {w0 w1 w2 : World} (h0 : Ext w0 w1) (h1 : Ext w1 w2) (hp : PsAt (fun _ => False) w1 gp gt b c ⟨[], 0, 0, []⟩) (hr : RpAt (fun _ => False) w2 gr gu c ⟨[], 0, 0, []⟩) (l1 : w0.heap.size ≤ gp) (l2 : w0.heap.size ≤ gt) (l3 : w0.heap.size ≤ b) (l4 : w1.heap.size ≤ gr) (l5 : ∀ k, rtOwn w2 gu k → w1.heap.size ≤ k) :
    Dd (fun q => q < w0.heap.size) w2 gp gt b gr gu c W R ⟨[], 0, 0, []⟩ ⟨[], 0, 0, []⟩ := by
  have hz := h0.size
  have hz1 := h1.size
  have hlt := hp.ltp
  have htl := hp.tm.lt
  refine ⟨⟨fun q => q = gp ∨ q = gt ∨ q = b, fun q => q = gr ∨ rtOwn w2 gu q, ⟨plz_ok, fun q hq => by rcases hq with e | e | e <;> omega, _, hp.ext h1, fun q hq => by rcases hq with e | e | e | e; exact .inl e; exact .inr (.inl e); exact .inr (.inr e); exact e.elim⟩, ⟨plz_ok, fun q hq => hq.elim (fun e => e ▸ hr.ltp) fun e => rtOwn_lt hr.rt e, _, hr, fun q hq => hq.elim .inl fun e => e.elim .inr fun e => e.elim⟩, fun k hk hr => ?_, fun k hk hx => ?_⟩, fun k hk => ?_⟩
  · rcases hr with e | e
    · rcases hk with h | h | h <;> omega
    · have := l5 k e; rcases hk with h | h | h <;> omega
  · have hx : k < w0.heap.size := hx
    rcases hk with (h | h | h) | (h | h)
    · omega
    · omega
    · omega
    · omega
    · have := l5 k h; omega
  · have hk : k < w0.heap.size := hk
    omega
end
section
variable {X : Nat → Prop} {w : World} {gp gt b gr gu : Nat} {c : Cfg} {W R : Nat} {s t : Ps}
/-- What a call comes to: what it gives lies in Y. -/
def DdRes (X : Nat → Prop) (w : World) (gp gt b gr gu : Nat) (c : Cfg) (W R : Nat) (s t : Ps) (u : Value) (xs : List Sl) (w' : World) : Prop :=
  ∃ Y : Nat → Prop, (∀ q, Y q → Proofs.Ytimlbebockfioaa.fresh w w' q) ∧ IsSlice repSl w' Y u xs ∧ Dd (fun q => X q ∨ Y q) w' gp gt b gr gu c W R s t ∧ Out (fun k => ¬ X k) w w'
theorem dd_send (h : Dd X w gp gt b gr gu c W R s t) (hc : CfgP c W R) (hl : s.acc.length + 1 ≤ 1000000) (v : Value) (x : List UInt8) (hv : IsSlice repByte w (all w) v x) (hx : x.length ≤ 64) (hr : s.acc.length < s.base + R) :
    Calls Try.prog 14 #[.pointer (some ⟨gp, 0, none⟩), v] w fun e w' => ∃ u, e = .returned (.tuple #[.int .i64 (s.acc.length : Int), u, .int .i64 0]) ∧ DdRes X w gp gt b gr gu c W R (sendS W s x) t u (sent0 W c s x) w' :=
  (h.left (mk := fun u => .returned (.tuple #[.int .i64 (s.acc.length : Int), u, .int .i64 0])) fun FP hp => psf_send hp hc hl v x hv hx hr).mono fun e w' ⟨u, Y, h1, h2⟩ => ⟨u, h1, Y, h2⟩
theorem dd_sendR (h : Dd X w gp gt b gr gu c W R s t) (hc : CfgP c W R) (hl : t.acc.length + 1 ≤ 1000000) (v : Value) (x : List UInt8) (hv : IsSlice repByte w (all w) v x) (hx : x.length ≤ 64) (hr : t.acc.length < t.base + R) :
    Calls Try.prog 29 #[.pointer (some ⟨gr, 0, none⟩), v] w fun e w' => ∃ u, e = .returned (.tuple #[.int .i64 (t.acc.length : Int), u, .int .i64 0]) ∧ DdRes X w gp gt b gr gu c W R s (sendS W t x) u (sent0 W c t x) w' :=
  (h.right (mk := fun u => .returned (.tuple #[.int .i64 (t.acc.length : Int), u, .int .i64 0])) fun FP hp => rpf_send hp hc hl v x hv hx hr).mono fun e w' ⟨u, Y, h1, h2⟩ => ⟨u, h1, Y, h2⟩
theorem dd_tick (h : Dd X w gp gt b gr gu c W R s t) (hc : CfgP c W R) (hl : s.acc.length ≤ 1000000) :
    Calls Try.prog 17 #[.pointer (some ⟨gp, 0, none⟩)] w fun e w' => ∃ u, e = .returned u ∧ DdRes X w gp gt b gr gu c W R ⟨s.acc, s.base, s.next, tickT c.b s.T⟩ t u ((dueN s.T).map (slideOf c.m s)) w' :=
  (h.left (mk := fun u => .returned u) fun FP hp => psf_tick hp hc hl).mono fun e w' ⟨u, Y, h1, h2⟩ => ⟨u, h1, Y, h2⟩
theorem dd_tickR (h : Dd X w gp gt b gr gu c W R s t) (hc : CfgP c W R) :
    Calls Try.prog 31 #[.pointer (some ⟨gr, 0, none⟩)] w fun e w' => ∃ u, e = .returned u ∧ DdRes X w gp gt b gr gu c W R s ⟨t.acc, t.base, t.next, tickT c.b t.T⟩ u ((dueN t.T).map (slideOf c.m t)) w' :=
  (h.right (mk := fun u => .returned u) fun FP hp => rpf_tick hp hc).mono fun e w' ⟨u, Y, h1, h2⟩ => ⟨u, h1, Y, h2⟩
theorem dd_take (h : Dd X w gp gt b gr gu c W R s t) (hc : CfgP c W R) (hl : s.acc.length ≤ 1000000) (x : Sl) (A : Option Addr) (n cv : Nat) (hbt : (Lit.int .u64 x.bits).wf = true) :
    Calls Try.prog 18 #[.pointer (some ⟨gp, 0, none⟩), .agg #[.bool x.ack, .int .i64 x.seq, .int .u64 x.bits, .slice A n cv]] w fun e w' => ∃ u, e = .returned u ∧ DdRes X w gp gt b gr gu c W R (takeN c W s x) t u (takeO c W s x) w' :=
  (h.left (mk := fun u => .returned u) fun FP hp => psf_take hp hc hl x A n cv hbt).mono fun e w' ⟨u, Y, h1, h2⟩ => ⟨u, h1, Y, h2⟩
theorem dd_takeR (h : Dd X w gp gt b gr gu c W R s t) (hc : CfgP c W R) (hl : t.acc.length ≤ 1000000) (x : Sl) (A : Option Addr) (n cv : Nat) (hbt : (Lit.int .u64 x.bits).wf = true) :
    Calls Try.prog 32 #[.pointer (some ⟨gr, 0, none⟩), .agg #[.bool x.ack, .int .i64 x.seq, .int .u64 x.bits, .slice A n cv]] w fun e w' => ∃ u, e = .returned u ∧ DdRes X w gp gt b gr gu c W R s (takeN c W t x) u (takeO c W t x) w' :=
  (h.right (mk := fun u => .returned u) fun FP hp => rpf_take hp hc hl x A n cv hbt).mono fun e w' ⟨u, Y, h1, h2⟩ => ⟨u, h1, Y, h2⟩
/-- Both have been asked. -/
theorem DdRes.both {w3 w4 : World} {s' t' : Ps} {u1 u2 : Value} {xs ys : List Sl} {Y1 : Nat → Prop} (hY : ∀ q, Y1 q → Proofs.Ytimlbebockfioaa.fresh w w3 q) (hu : IsSlice repSl w3 Y1 u1 xs) (ho : Out (fun k => ¬ X k) w w3)
    (h : DdRes (fun q => X q ∨ Y1 q) w3 gp gt b gr gu c W R s' t' u2 ys w4) : IsSlice repSl w4 (all w4) u1 xs ∧ IsSlice repSl w4 (all w4) u2 ys ∧ Dd X w4 gp gt b gr gu c W R s' t' ∧ Out (fun k => ¬ X k) w w4 := by
  obtain ⟨Y2, h1, h2, h3, h4⟩ := h
  have hk := hu.keepHeld (fun k hk => (hY k hk).2) (h4.mono fun k hk hy => hk (.inr hy))
  exact ⟨hk.keep fun k hk => ⟨Nat.lt_of_lt_of_le (hY k hk).2 h4.size, fun _ => rfl⟩, h2.keep fun k hk => ⟨(h1 k hk).2, fun _ => rfl⟩, h3.grow (Below.refl _ _) fun k hk => .inl (.inl (.inl hk)), ho.trans (h4.mono fun k hk hx => hk (.inl hx))⟩
theorem Dd.ps (h : Dd X w gp gt b gr gu c W R s t) : ∃ F, PsAt F w gp gt b c s ∧ PsOk W R c.b s := by
  obtain ⟨FP, FR, ⟨h1, _, F, h2, _⟩, _⟩ := h.two
  exact ⟨F, h2, h1⟩
theorem Dd.rp (h : Dd X w gp gt b gr gu c W R s t) : ∃ F, RpAt F w gr gu c t ∧ PsOk W R c.b t := by
  obtain ⟨FP, FR, _, ⟨h1, _, F, h2, _⟩, _⟩ := h.two
  exact ⟨F, h2, h1⟩
end
set_option maxRecDepth 100000
section
theorem psPoll_any (F : Nat → Prop) (w : World) (gp gt b : Nat) (c : Cfg) (s : Ps) (h : PsAt F w gp gt b c s) (hb : s.base ≤ s.acc.length) (hl : s.acc.length ≤ 1000000) (id : Int) :
    Calls Try.prog 15 #[.pointer (some ⟨gp, 0, none⟩), .int .i64 id] w fun e w' => e = .returned (.tuple #[.int .i64 (pollV s id).1, .int .i64 (pollV s id).2]) ∧ ∃ n, w' = w.drewN n := by
  have HI := hid (psIs_any F w gp gt b c s h)
  have HACC := hid (psAccepted_any F w gp gt b c s h hb hl)
  obtain ⟨lv, hbk, _⟩ := h.is
  obtain ⟨_, _, _, _, c8, _, _, _, _, _⟩ := psCellsAt hbk
  obtain ⟨L, hL⟩ : ∃ L : Int, L = (s.acc.length : Int) := ⟨_, rfl⟩
  have hP : pollV s id = if id < 0 ∨ L ≤ id then (0, 4) else if id < s.base then (1, 0) else (0, 0) := by rw [hL]; rfl
  rw [← hL] at HACC
  rw [hP]
  obtain ⟨B, hB⟩ : ∃ B : Int, B = (s.base : Int) := ⟨_, rfl⟩
  rw [← hB] at c8 ⊢
  clear hL hB hb hbk hP h
  by_cases h1 : id < 0
  · rw [if_pos (.inl h1)]
    have d1 : decide (id < 0) = true := decide_eq_true h1
    clear h1
    go_enter Try.func15, Try.ntmps15
    go_wp2_with (go_at_call 36; refine HI.out.mono ?_; rintro e w2 ⟨rfl, rfl⟩)
    go_ret2
    exact ⟨rfl, 0, rfl⟩
  · have d1 : decide (id < 0) = false := decide_eq_false h1
    by_cases h2 : L ≤ id
    · rw [if_pos (.inr h2)]
      have d2 : decide (L ≤ id) = true := decide_eq_true h2
      clear h1 h2
      go_enter Try.func15, Try.ntmps15
      go_wp2_with (first
        | (go_at_call 36; refine HI.out.mono ?_; rintro e w2 ⟨rfl, rfl⟩)
        | (go_at_call 37; refine HACC.out.mono ?_; rintro e w3 ⟨rfl, n3, rfl⟩))
      go_ret2
      exact ⟨rfl, _, rfl⟩
    · rw [if_neg (by omega)]
      have d2 : decide (L ≤ id) = false := decide_eq_false h2
      by_cases h3 : id < B
      · rw [if_pos h3]
        have d3 : decide (id < B) = true := decide_eq_true h3
        clear h1 h2 h3
        go_enter Try.func15, Try.ntmps15
        go_wp2_with (first
          | (go_at_call 36; refine HI.out.mono ?_; rintro e w2 ⟨rfl, rfl⟩)
          | (go_at_call 37; refine HACC.out.mono ?_; rintro e w3 ⟨rfl, n3, rfl⟩; have c8 : (w.drewN n3).cell? ⟨gp, 8, none⟩ = some (.int .i64 B) := c8))
        go_ret2
        exact ⟨rfl, _, rfl⟩
      · rw [if_neg h3]
        have d3 : decide (id < B) = false := decide_eq_false h3
        clear h1 h2 h3
        go_enter Try.func15, Try.ntmps15
        go_wp2_with (first
          | (go_at_call 36; refine HI.out.mono ?_; rintro e w2 ⟨rfl, rfl⟩)
          | (go_at_call 37; refine HACC.out.mono ?_; rintro e w3 ⟨rfl, n3, rfl⟩; have c8 : (w.drewN n3).cell? ⟨gp, 8, none⟩ = some (.int .i64 B) := c8))
        go_ret2
        exact ⟨rfl, _, rfl⟩
end
end Go.Proofs.Ytimlbebockfioaa
