/- The pusher with its footprint hidden: its contracts as the laws use them; one act. -/
import Derived.Test.YtimlbebockfioaaPushAct
namespace Go.Proofs.Ytimlbebockfioaa
open Go.RowKit

/-- X: the blocks that others hold. -/
structure PsL (X : Nat → Prop) (w : World) (gp gt b : Nat) (c : Cfg) (W R : Nat) (s : Ps) : Prop where
  at_ : ∃ F : Nat → Prop, PsAt F w gp gt b c s ∧ ∀ q, (q = gp ∨ q = gt ∨ q = b ∨ F q) → ¬ X q
  ok : PsOk W R c.b s
  lt : ∀ k, X k → k < w.heap.size
structure CfgP (c : Cfg) (W R : Nat) : Prop where
  ok : c.Ok
  w : c.w = W
  r : c.room = R
  b1 : 1 ≤ c.b
  b2 : c.b ≤ 64
theorem CfgP.wle {c : Cfg} {W R : Nat} (h : CfgP c W R) : W ≤ 64 ∧ 1 ≤ R ∧ R ≤ 16 ∧ 1 ≤ W := by
  have := h.ok.w64; have := h.ok.r2; have := h.ok.r1; have := h.ok.w1; have := h.w; have := h.r
  omega
section
variable {X Y : Nat → Prop} {w w' : World} {gp gt b : Nat} {c : Cfg} {W R : Nat} {s s' : Ps}
/-- Others hold more: what is new, or less. -/
theorem PsL.grow (h : PsL X w gp gt b c W R s) (he : Ext w w') (hY : ∀ k, Y k → X k ∨ (w.heap.size ≤ k ∧ k < w'.heap.size)) : PsL Y w' gp gt b c W R s := by
  obtain ⟨F, h1, h2⟩ := h.at_
  refine ⟨⟨F, h1.ext he, fun q hq hy => ?_⟩, h.ok, fun k hk => ?_⟩
  · rcases hY q hy with hx | hx
    · exact h2 q hq hx
    · have h3 := h1.ltp
      have h4 := h1.tm.lt
      rcases hq with e | e | e | e
      · omega
      · omega
      · omega
      · have := (h1.fp q e).2; omega
  · rcases hY k hk with hx | hx
    · exact Nat.lt_of_lt_of_le (h.lt k hx) he.size
    · exact hx.2
theorem PsL.later (h : PsL X w gp gt b c W R s) (he : Ext w w') : PsL X w' gp gt b c W R s := h.grow he fun _ hk => .inl hk
theorem PsL.turn (h : PsL X w gp gt b c W R s) {F : Nat → Prop} (hF : ∀ q, (q = gp ∨ q = gt ∨ q = b ∨ F q) → ¬ X q) (h1 : PsAt F w' gp gt b c s') (h2 : PsOk W R c.b s') (ho : Out (fun k => k = gp ∨ k = b) w w') : PsL X w' gp gt b c W R s' ∧ Out (fun k => ¬ X k) w w' :=
  ⟨⟨⟨F, h1, hF⟩, h2, fun k hk => Nat.lt_of_lt_of_le (h.lt k hk) ho.size⟩, ho.mono fun k hk => hF k (hk.elim .inl fun e => .inr (.inr (.inl e)))⟩
theorem Out.ext_held {w0 : World} (h : Out (fun k => ¬ X k) w w') (hw : Ext w0 w) (hX : ∀ k, k < w0.heap.size → X k) : Ext w0 w' := h.ext_new hw fun k hk => by
  rcases Nat.lt_or_ge k w0.heap.size with h1 | h1
  · exact absurd (hX k h1) hk
  · exact h1
/-- A call of it: what it gives lies apart from it, in Y; what others hold stays. -/
def PslRes (X : Nat → Prop) (w : World) (gp gt b : Nat) (c : Cfg) (W R : Nat) (u : Value) (xs : List Sl) (s : Ps) (w' : World) : Prop :=
  ∃ Y : Nat → Prop, (∀ q, Y q → Proofs.Ytimlbebockfioaa.fresh w w' q) ∧ IsSlice repSl w' Y u xs ∧ PsL (fun q => X q ∨ Y q) w' gp gt b c W R s ∧ Out (fun k => ¬ X k) w w'
theorem PslRes.shape {u : Value} {xs : List Sl} (h : PslRes X w gp gt b c W R u xs s w') : ∃ A n, u = .slice A xs.length n := by
  obtain ⟨Y, _, h2, _⟩ := h
  exact h2.shape
theorem PslRes.drop {u : Value} {xs : List Sl} (h : PslRes X w gp gt b c W R u xs s w') : PsL X w' gp gt b c W R s ∧ Out (fun k => ¬ X k) w w' := by
  obtain ⟨Y, _, _, h3, h4⟩ := h
  exact ⟨h3.grow (Below.refl _ _) fun _ hk => .inl (.inl hk), h4⟩
theorem PsL.turnRes (h : PsL X w gp gt b c W R s) {F : Nat → Prop} (hFl : ∀ q, (q = gp ∨ q = gt ∨ q = b ∨ F q) → q < w.heap.size) (hF : ∀ q, (q = gp ∨ q = gt ∨ q = b ∨ F q) → ¬ X q) (h1 : PsAt F w' gp gt b c s') (h2 : PsOk W R c.b s') (ho : Out (fun k => k = gp ∨ k = b) w w') {u : Value} {xs : List Sl} (hu : IsSlice repSl w' (Proofs.Ytimlbebockfioaa.fresh w w') u xs) : PslRes X w gp gt b c W R u xs s' w' :=
  ⟨_, fun _ hq => hq, hu, ⟨⟨F, h1, fun q hq hX => hX.elim (hF q hq) fun hX => by have := hFl q hq; have := hX.1; omega⟩, h2, fun k hk => hk.elim (fun hk => Nat.lt_of_lt_of_le (h.lt k hk) ho.size) fun hk => hk.2⟩, ho.mono fun k hk => hF k (hk.elim .inl fun e => .inr (.inr (.inl e)))⟩
theorem PsAt.allLt {F : Nat → Prop} (h : PsAt F w gp gt b c s) : ∀ q, (q = gp ∨ q = gt ∨ q = b ∨ F q) → q < w.heap.size := fun q hq => by
  have := h.ltp; have := h.tm.lt
  rcases hq with e | e | e | e
  · omega
  · omega
  · omega
  · exact (h.fp q e).2
/-- What an act makes of it, and how many packets go out. -/
def actP (c : Cfg) (W R : Nat) (s : Ps) (x : Ac) : Ps × Nat :=
  if x.kind = 0 then (if 64 < x.m.length ∨ s.base + R ≤ s.acc.length then (s, 0) else (sendS W s x.m, onC W ⟨s.acc ++ [x.m], s.base, s.next, s.T⟩))
  else if x.kind = 1 then (⟨s.acc, s.base, s.next, tickT c.b s.T⟩, (dueN s.T).length)
  else if x.kind = 2 then (match takeP W c.m s x.s.ack x.s.seq x.s.bits.toNat with
    | none => (s, 0)
    | some s1 => (onS W s1, onC W s1))
  else (s, 0)
end
set_option maxRecDepth 100000
section
variable {X : Nat → Prop} {w : World} {gp gt b : Nat} {c : Cfg} {W R : Nat} {s : Ps}
theorem psl_send (h : PsL X w gp gt b c W R s) (hc : CfgP c W R) (hl : s.acc.length + 1 ≤ 1000000) (v : Value) (x : List UInt8) (hv : IsSlice repByte w (all w) v x) (hx : x.length ≤ 64) (hr : s.acc.length < s.base + R) :
    Calls Try.prog 14 #[.pointer (some ⟨gp, 0, none⟩), v] w fun e w' => ∃ u, e = .returned (.tuple #[.int .i64 (s.acc.length : Int), u, .int .i64 0]) ∧ PslRes X w gp gt b c W R u ((onL W ⟨s.acc ++ [x], s.base, s.next, s.T⟩).map (slideOf c.m ⟨s.acc ++ [x], s.base, s.next, s.T⟩)) (sendS W s x) w' := by
  obtain ⟨F, h1, h2⟩ := h.at_
  refine (psSend_any F w gp gt b c s W R h1 hc.ok hc.w hc.r h.ok hl hc.b1 v x hv hx hr).mono ?_
  rintro e w' ⟨u, rfl, F', hF', hu, hps, hout⟩
  refine ⟨u, rfl, _, fun q hq => hq.1, hu, ⟨⟨F', hps, fun q hq hX => ?_⟩, send_ok h.ok hc.b1 x hx hr hl, fun k hk => hk.elim (fun hk => Nat.lt_of_lt_of_le (h.lt k hk) hout.size) fun hk => hk.1.2⟩, hout.mono fun k hk => ?_⟩
  · have hlt := h1.ltp
    have htl := h1.tm.lt
    rcases hX with hX | ⟨⟨hX, _⟩, hn⟩
    · rcases hq with e | e | e | e
      · exact h2 q (.inl e) hX
      · exact h2 q (.inr (.inl e)) hX
      · exact h2 q (.inr (.inr (.inl e))) hX
      · rcases hF' q e with e | e
        · exact h2 q (.inr (.inr (.inr e))) hX
        · have := h.lt q hX; have := e.1; omega
    · rcases hq with e | e | e | e
      · omega
      · omega
      · omega
      · exact hn e
  · rcases hk with e | e | e
    · exact h2 k (.inl e)
    · exact h2 k (.inr (.inr (.inl e)))
    · exact h2 k (.inr (.inr (.inr e)))
theorem psl_tick (h : PsL X w gp gt b c W R s) (hc : CfgP c W R) (hl : s.acc.length ≤ 1000000) :
    Calls Try.prog 17 #[.pointer (some ⟨gp, 0, none⟩)] w fun e w' => ∃ u, e = .returned u ∧ PslRes X w gp gt b c W R u ((dueN s.T).map (slideOf c.m s)) ⟨s.acc, s.base, s.next, tickT c.b s.T⟩ w' := by
  obtain ⟨F, h1, h2⟩ := h.at_
  refine (psTick_any F w gp gt b c s W R h1 hc.ok h.ok hl (by have := h.ok.tlen; have := hc.wle; omega) hc.b2).mono ?_
  rintro e w' ⟨u, rfl, hu, hps, hout⟩
  exact ⟨u, rfl, h.turnRes h1.allLt h2 hps (tick_psok h.ok hc.b1) (Out.of_only hout (.inr rfl)) hu⟩
/-- What Take comes to. -/
def TakeL (X : Nat → Prop) (gp gt b : Nat) (c : Cfg) (W R : Nat) (s : Ps) (w : World) (t : Option Ps) (e : Ending) (w' : World) : Prop :=
  match t with
  | none => e = .returned (.slice none 0 0) ∧ PsL X w' gp gt b c W R s ∧ Out (fun k => ¬ X k) w w'
  | some s1 => ∃ u, e = .returned u ∧ PslRes X w gp gt b c W R u ((onL W s1).map (slideOf c.m s1)) (onS W s1) w'
theorem takeP_ok {m seq : Int} {most : Int} {ack : Bool} {bits : Nat} {s1 : Ps} (h : PsOk W R most s) (hm : 1 ≤ most) (hl : s.acc.length ≤ 1000000) (ht : takeP W m s ack seq bits = some s1) : PsOk W R most s1 ∧ s1.acc = s.acc ∧ s.base ≤ s1.base ∧ s1.next = s.next := by
  unfold takeP at ht
  split at ht
  · rename_i hc
    injection ht with ht
    have hge := nearV_ge hc.2.1
    obtain ⟨q, hq⟩ := Int.eq_ofNat_of_zero_le (a := (nearV s.base (W + 1 : Int) seq m).1) (by omega)
    rw [hq] at ht hge hc
    simp only [Int.toNat_natCast] at ht
    have h1 := there_ok h hm (q := q) (by omega) (by omega) hl
    rw [← ht]
    exact ⟨bits_ok h1 bits, rfl, by show s.base ≤ q; omega, rfl⟩
  · cases ht
theorem psl_take (h : PsL X w gp gt b c W R s) (hc : CfgP c W R) (hl : s.acc.length ≤ 1000000) (ack : Bool) (seq bt : Int) (A : Option Addr) (n cv : Nat) (hbt : (Lit.int .u64 bt).wf = true) :
    Calls Try.prog 18 #[.pointer (some ⟨gp, 0, none⟩), .agg #[.bool ack, .int .i64 seq, .int .u64 bt, .slice A n cv]] w fun e w' => TakeL X gp gt b c W R s w (takeP W c.m s ack seq bt.toNat) e w' := by
  obtain ⟨F, h1, h2⟩ := h.at_
  have hb := bounds_u64 hbt
  cases ack with
  | false =>
    refine (psTakeNo_any F w gp gt b c s W R h1 hc.ok hc.w seq bt A n cv).mono ?_
    rintro e w' ⟨rfl, hx⟩
    have : takeP W c.m s false seq bt.toNat = none := by unfold takeP; rw [if_neg (by simp)]
    rw [this]
    exact ⟨rfl, h.later hx, Out.of_ext hx⟩
  | true =>
    obtain ⟨B, rfl⟩ := Int.eq_ofNat_of_zero_le hb.1
    refine (psTake_any F w gp gt b c s W R h1 hc.ok hc.w hc.b1 h.ok hl seq B A n cv (by omega)).mono ?_
    intro e w' ht
    simp only [Int.toNat_natCast]
    unfold TakeRes at ht
    unfold TakeL
    cases htp : takeP W c.m s true seq B with
    | none => rw [htp] at ht; exact ⟨ht.1, h.later ht.2, Out.of_ext ht.2⟩
    | some s1 =>
      rw [htp] at ht
      obtain ⟨u, he, hu, hps, hout⟩ := ht
      exact ⟨u, he, h.turnRes h1.allLt h2 hps (onS_ok (takeP_ok h.ok hc.b1 hl htp).1 hc.b1 (by rw [(takeP_ok h.ok hc.b1 hl htp).2.1]; exact hl)) hout hu⟩
theorem psl_state (h : PsL X w gp gt b c W R s) (hl : s.acc.length ≤ 1000000) :
    Calls Try.prog 11 #[.pointer (some ⟨gp, 0, none⟩)] w fun e w' => e = .returned (.agg #[.int .i64 (s.acc.length : Int), .int .i64 (s.base : Int), .int .i64 (s.next : Int)]) ∧ Ext w w' := by
  obtain ⟨F, h1, h2⟩ := h.at_
  exact psState_any F w gp gt b c s h1 (Nat.le_trans h.ok.bn h.ok.nl) hl
theorem psl_timers (h : PsL X w gp gt b c W R s) (hc : CfgP c W R) :
    Calls Try.prog 13 #[.pointer (some ⟨gp, 0, none⟩)] w fun e w' => ∃ u, e = .returned u ∧ IsSlice (repInt .i64) w' (fresh w w') u (s.T.map (·.key)) ∧ Ext w w' := by
  obtain ⟨F, h1, h2⟩ := h.at_
  exact psTimers_any F w gp gt b c s h1 h.ok.tm (by have := h.ok.tlen; have := hc.wle; omega)
end
end Go.Proofs.Ytimlbebockfioaa
