/- The pusher and its reference, each with a footprint: what a call turns, what it gives. -/
import Derived.Test.YtimlbebockfioaaPushR6
import Derived.Test.YtimlbebockfioaaPushL
namespace Go.Proofs.Ytimlbebockfioaa
open Go.RowKit

/-- What a call gives lies apart from the object; what it turns lies in its footprint. -/
def FRes (O : (Nat → Prop) → World → Prop) (FP : Nat → Prop) (w : World) (u : Value) (xs : List Sl) (w' : World) : Prop :=
  ∃ FP' : Nat → Prop, O FP' w' ∧ (∀ q, FP' q → FP q ∨ Proofs.Ytimlbebockfioaa.fresh w w' q) ∧ IsSlice repSl w' (fun q => Proofs.Ytimlbebockfioaa.fresh w w' q ∧ ¬ FP' q) u xs ∧ Out FP w w'
/-- The program's side. -/
def PsF (gp gt b : Nat) (c : Cfg) (W R : Nat) (s : Ps) (FP : Nat → Prop) (w : World) : Prop := PsOk W R c.b s ∧ (∀ q, FP q → q < w.heap.size) ∧ ∃ F : Nat → Prop, PsAt F w gp gt b c s ∧ ∀ q, (q = gp ∨ q = gt ∨ q = b ∨ F q) → FP q
/-- The reference's side. -/
def RpF (gr gt : Nat) (c : Cfg) (W R : Nat) (s : Ps) (FP : Nat → Prop) (w : World) : Prop := PsOk W R c.b s ∧ (∀ q, FP q → q < w.heap.size) ∧ ∃ F : Nat → Prop, RpAt F w gr gt c s ∧ ∀ q, (q = gr ∨ rtOwn w gt q ∨ F q) → FP q
section
variable {F FP Y : Nat → Prop} {w w' : World} {gp gt b gr : Nat} {c : Cfg} {W R : Nat} {s s' : Ps}
theorem PsAt.away (h : PsAt F w gp gt b c s) (ho : Out Y w w') (hY : ∀ q, Y q → q ≠ gp ∧ q ≠ gt ∧ q ≠ b ∧ ¬ F q) : PsAt F w' gp gt b c s := by
  obtain ⟨lv, h1, h2⟩ := h.is
  exact ⟨h.ne1, h.ne2, fun k hk => ⟨(h.fp k hk).1, Nat.lt_of_lt_of_le (h.fp k hk).2 ho.size⟩, h.tm.out3 ho (fun hy => (hY _ hy).2.1 rfl) (fun hy => (hY _ hy).2.2.1 rfl), lv, h1.out ho fun hy => (hY _ hy).1 rfl, h2.frame ho.size fun k hk hF => ho.block k hk fun hy => (hY k hy).2.2.2 hF⟩
theorem PsF.away (h : PsF gp gt b c W R s FP w) (ho : Out Y w w') (hY : ∀ q, Y q → ¬ FP q) : PsF gp gt b c W R s FP w' := by
  obtain ⟨h1, h2, F, h3, h4⟩ := h
  exact ⟨h1, fun q hq => Nat.lt_of_lt_of_le (h2 q hq) ho.size, F, h3.away ho fun q hq => ⟨fun e => hY q hq (h4 q (.inl e)), fun e => hY q hq (h4 q (.inr (.inl e))), fun e => hY q hq (h4 q (.inr (.inr (.inl e)))), fun e => hY q hq (h4 q (.inr (.inr (.inr e))))⟩, h4⟩
theorem RpF.away (h : RpF gr gt c W R s FP w) (ho : Out Y w w') (hY : ∀ q, Y q → ¬ FP q) : RpF gr gt c W R s FP w' := by
  obtain ⟨h1, h2, F, h3, h4⟩ := h
  obtain ⟨k1, k2⟩ := h3.away ho fun q hq => ⟨fun e => hY q hq (h4 q (.inl e)), fun e => hY q hq (h4 q (.inr (.inl e))), fun e => hY q hq (h4 q (.inr (.inr e)))⟩
  exact ⟨h1, fun q hq => Nat.lt_of_lt_of_le (h2 q hq) ho.size, F, k1, fun q hq => h4 q (hq.elim .inl fun e => e.elim (fun e => .inr (.inl (k2 q e))) fun e => .inr (.inr e))⟩
theorem PsF.turn (h : PsF gp gt b c W R s FP w) {F : Nat → Prop} (h4 : ∀ q, (q = gp ∨ q = gt ∨ q = b ∨ F q) → FP q) (h1 : PsAt F w' gp gt b c s') (h2 : PsOk W R c.b s') (ho : Out (fun k => k = gp ∨ k = b) w w') {u : Value} {xs : List Sl} (hu : IsSlice repSl w' (Proofs.Ytimlbebockfioaa.fresh w w') u xs) : FRes (PsF gp gt b c W R s') FP w u xs w' :=
  ⟨FP, ⟨h2, fun q hq => Nat.lt_of_lt_of_le (h.2.1 q hq) ho.size, F, h1, h4⟩, fun _ hq => .inl hq, hu.keep fun q hq => ⟨⟨hq, fun e => by have := h.2.1 q e; have := hq.1; omega⟩, fun _ => rfl⟩, ho.mono fun k hk => h4 k (hk.elim .inl fun e => .inr (.inr (.inl e)))⟩
theorem RpF.turn (h : RpF gr gt c W R s FP w) {F : Nat → Prop} (h4 : ∀ q, (q = gr ∨ rtOwn w gt q ∨ F q) → FP q) (h1 : RpAt F w' gr gt c s') (h2 : PsOk W R c.b s') (ho : RpFr w w' gr gt) {u : Value} {xs : List Sl} (hu : IsSlice repSl w' (fun q => Proofs.Ytimlbebockfioaa.fresh w w' q ∧ ¬ rtOwn w' gt q) u xs) : FRes (RpF gr gt c W R s') FP w u xs w' := by
  have hlt : ∀ q, rtOwn w' gt q → q < w'.heap.size := fun q hq => rtOwn_lt h1.rt hq
  refine ⟨fun q => FP q ∨ rtOwn w' gt q, ⟨h2, fun q hq => hq.elim (fun e => Nat.lt_of_lt_of_le (h.2.1 q e) ho.1.size) (hlt q), F, h1, fun q hq => ?_⟩, fun q hq => ?_, hu.keep fun q hq => ⟨⟨hq.1, fun e => ?_⟩, fun _ => rfl⟩, ho.1.mono fun k hk => h4 k (hk.elim .inl fun e => .inr (.inl e))⟩
  · rcases hq with e | e | e
    · exact .inl (h4 q (.inl e))
    · exact .inr e
    · exact .inl (h4 q (.inr (.inr e)))
  · rcases hq with e | e
    · exact .inl e
    · rcases ho.2 q e with e' | e'
      · exact .inl (h4 q (.inr (.inl e')))
      · exact .inr ⟨e', hlt q e⟩
  · rcases e with e | e
    · have := h.2.1 q e; have := hq.1.1; omega
    · exact hq.2 e
end
set_option maxRecDepth 100000
section
variable {FP : Nat → Prop} {w : World} {gp gt b gr : Nat} {c : Cfg} {W R : Nat} {s : Ps}
def sent0 (W : Nat) (c : Cfg) (s : Ps) (x : List UInt8) : List Sl := (onL W ⟨s.acc ++ [x], s.base, s.next, s.T⟩).map (slideOf c.m ⟨s.acc ++ [x], s.base, s.next, s.T⟩)
theorem psf_send (h : PsF gp gt b c W R s FP w) (hc : CfgP c W R) (hl : s.acc.length + 1 ≤ 1000000) (v : Value) (x : List UInt8) (hv : IsSlice repByte w (all w) v x) (hx : x.length ≤ 64) (hr : s.acc.length < s.base + R) :
    Calls Try.prog 14 #[.pointer (some ⟨gp, 0, none⟩), v] w fun e w' => ∃ u, e = .returned (.tuple #[.int .i64 (s.acc.length : Int), u, .int .i64 0]) ∧ FRes (PsF gp gt b c W R (sendS W s x)) FP w u (sent0 W c s x) w' := by
  obtain ⟨ok, hlt, F, h1, h2⟩ := h
  refine (psSend_any F w gp gt b c s W R h1 hc.ok hc.w hc.r ok hl hc.b1 v x hv hx hr).mono ?_
  rintro e w' ⟨u, rfl, F', hF', hu, hps, hout⟩
  refine ⟨u, rfl, fun q => FP q ∨ F' q, ⟨send_ok ok hc.b1 x hx hr hl, fun q hq => ?_, F', hps, fun q hq => ?_⟩, fun q hq => hq.elim .inl fun e => (hF' q e).elim (fun e => .inl (h2 q (.inr (.inr (.inr e))))) .inr, hu.keep fun q hq => ⟨⟨hq.1, fun e => ?_⟩, fun _ => rfl⟩, hout.mono fun k hk => h2 k (hk.elim .inl fun e => .inr (.inr e))⟩
  · rcases hq with e | e
    · exact Nat.lt_of_lt_of_le (hlt q e) hout.size
    · exact (hps.fp q e).2
  · rcases hq with e | e | e | e
    · exact .inl (h2 q (.inl e))
    · exact .inl (h2 q (.inr (.inl e)))
    · exact .inl (h2 q (.inr (.inr (.inl e))))
    · exact .inr e
  · rcases e with e | e
    · have := hlt q e; have := hq.1.1; omega
    · exact hq.2 e
theorem rpf_send (h : RpF gr gt c W R s FP w) (hc : CfgP c W R) (hl : s.acc.length + 1 ≤ 1000000) (v : Value) (x : List UInt8) (hv : IsSlice repByte w (all w) v x) (hx : x.length ≤ 64) (hr : s.acc.length < s.base + R) :
    Calls Try.prog 29 #[.pointer (some ⟨gr, 0, none⟩), v] w fun e w' => ∃ u, e = .returned (.tuple #[.int .i64 (s.acc.length : Int), u, .int .i64 0]) ∧ FRes (RpF gr gt c W R (sendS W s x)) FP w u (sent0 W c s x) w' := by
  obtain ⟨ok, hlt, F, h1, h2⟩ := h
  refine (rpSend_any F w gr gt c s W R h1 hc.ok hc.w hc.r ok hl hc.b1 v x hv hx hr).mono ?_
  rintro e w' ⟨u, rfl, F', hF', hu, hps, hout, hown⟩
  refine ⟨u, rfl, fun q => FP q ∨ F' q ∨ rtOwn w' gt q, ⟨send_ok ok hc.b1 x hx hr hl, fun q hq => ?_, F', hps, fun q hq => ?_⟩, fun q hq => ?_, hu.keep fun q hq => ⟨⟨hq.1, fun e => ?_⟩, fun _ => rfl⟩, hout.mono fun k hk => h2 k hk⟩
  · rcases hq with e | e | e
    · exact Nat.lt_of_lt_of_le (hlt q e) hout.size
    · exact (hps.fp q e).2
    · exact rtOwn_lt hps.rt e
  · rcases hq with e | e | e
    · exact .inl (h2 q (.inl e))
    · exact .inr (.inr e)
    · exact .inr (.inl e)
  · rcases hq with e | e | e
    · exact .inl e
    · exact (hF' q e).elim (fun e => .inl (h2 q (.inr (.inr e)))) .inr
    · rcases hown q e with e' | e'
      · exact .inl (h2 q (.inr (.inl e')))
      · exact .inr ⟨e', rtOwn_lt hps.rt e⟩
  · rcases e with e | e | e
    · have := hlt q e; have := hq.1.1; omega
    · exact hq.2.2 e
    · exact hq.2.1 e
theorem psf_tick (h : PsF gp gt b c W R s FP w) (hc : CfgP c W R) (hl : s.acc.length ≤ 1000000) :
    Calls Try.prog 17 #[.pointer (some ⟨gp, 0, none⟩)] w fun e w' => ∃ u, e = .returned u ∧ FRes (PsF gp gt b c W R ⟨s.acc, s.base, s.next, tickT c.b s.T⟩) FP w u ((dueN s.T).map (slideOf c.m s)) w' := by
  have h0 := h
  obtain ⟨ok, hlt, F, h1, h2⟩ := h
  refine (psTick_any F w gp gt b c s W R h1 hc.ok ok hl (by have := ok.tlen; have := hc.wle; omega) hc.b2).mono ?_
  rintro e w' ⟨u, rfl, hu, hps, hout⟩
  exact ⟨u, rfl, h0.turn h2 hps (tick_psok ok hc.b1) (Out.of_only hout (.inr rfl)) hu⟩
theorem rpf_tick (h : RpF gr gt c W R s FP w) (hc : CfgP c W R) :
    Calls Try.prog 31 #[.pointer (some ⟨gr, 0, none⟩)] w fun e w' => ∃ u, e = .returned u ∧ FRes (RpF gr gt c W R ⟨s.acc, s.base, s.next, tickT c.b s.T⟩) FP w u ((dueN s.T).map (slideOf c.m s)) w' := by
  have h0 := h
  obtain ⟨ok, hlt, F, h1, h2⟩ := h
  refine (rpTick_any F w gr gt c s W R h1 hc.ok ok (by have := ok.tlen; have := hc.wle; omega) hc.b2).mono ?_
  rintro e w' ⟨u, rfl, hu, hps, hout⟩
  exact ⟨u, rfl, h0.turn h2 hps (tick_psok ok hc.b1) hout hu⟩
/-- What Take makes of it, and what goes out. -/
def takeN (c : Cfg) (W : Nat) (s : Ps) (x : Sl) : Ps := match takeP W c.m s x.ack x.seq x.bits.toNat with
  | none => s
  | some s1 => onS W s1
def takeO (c : Cfg) (W : Nat) (s : Ps) (x : Sl) : List Sl := match takeP W c.m s x.ack x.seq x.bits.toNat with
  | none => []
  | some s1 => (onL W s1).map (slideOf c.m s1)
theorem psf_take (h : PsF gp gt b c W R s FP w) (hc : CfgP c W R) (hl : s.acc.length ≤ 1000000) (x : Sl) (A : Option Addr) (n cv : Nat) (hbt : (Lit.int .u64 x.bits).wf = true) :
    Calls Try.prog 18 #[.pointer (some ⟨gp, 0, none⟩), .agg #[.bool x.ack, .int .i64 x.seq, .int .u64 x.bits, .slice A n cv]] w fun e w' => ∃ u, e = .returned u ∧ FRes (PsF gp gt b c W R (takeN c W s x)) FP w u (takeO c W s x) w' := by
  obtain ⟨ack, seq, bt, data⟩ := x
  have h0 := h
  obtain ⟨ok, hlt, F, h1, h2⟩ := h
  have hb := bounds_u64 hbt
  simp only at hb
  cases ack with
  | false =>
    refine (psTakeNo_any F w gp gt b c s W R h1 hc.ok hc.w seq bt A n cv).mono ?_
    rintro e w' ⟨rfl, hx⟩
    have hn : takeP W c.m s false seq bt.toNat = none := by unfold takeP; rw [if_neg (by simp)]
    have e1 : takeN c W s ⟨false, seq, bt, data⟩ = s := by unfold takeN; simp only [hn]
    have e2 : takeO c W s ⟨false, seq, bt, data⟩ = [] := by unfold takeO; simp only [hn]
    rw [e1, e2]
    exact ⟨_, rfl, h0.turn h2 (h1.ext hx) ok (Out.of_ext hx) (isSlice_nil _ _ _)⟩
  | true =>
    obtain ⟨B, rfl⟩ := Int.eq_ofNat_of_zero_le hb.1
    refine (psTake_any F w gp gt b c s W R h1 hc.ok hc.w hc.b1 ok hl seq B A n cv (by omega)).mono ?_
    intro e w' ht
    unfold TakeRes at ht
    cases htp : takeP W c.m s true seq B with
    | none =>
      rw [htp] at ht
      have e1 : takeN c W s ⟨true, seq, (B : Int), data⟩ = s := by unfold takeN; simp only [Int.toNat_natCast, htp]
      have e2 : takeO c W s ⟨true, seq, (B : Int), data⟩ = [] := by unfold takeO; simp only [Int.toNat_natCast, htp]
      rw [e1, e2]
      exact ⟨_, ht.1, h0.turn h2 (h1.ext ht.2) ok (Out.of_ext ht.2) (isSlice_nil _ _ _)⟩
    | some s1 =>
      rw [htp] at ht
      obtain ⟨u, he, hu, hps, hout⟩ := ht
      have e1 : takeN c W s ⟨true, seq, (B : Int), data⟩ = onS W s1 := by unfold takeN; simp only [Int.toNat_natCast, htp]
      have e2 : takeO c W s ⟨true, seq, (B : Int), data⟩ = (onL W s1).map (slideOf c.m s1) := by unfold takeO; simp only [Int.toNat_natCast, htp]
      rw [e1, e2]
      exact ⟨u, he, h0.turn h2 hps (onS_ok (takeP_ok ok hc.b1 hl htp).1 hc.b1 (by rw [(takeP_ok ok hc.b1 hl htp).2.1]; exact hl)) hout hu⟩
theorem rpf_take (h : RpF gr gt c W R s FP w) (hc : CfgP c W R) (hl : s.acc.length ≤ 1000000) (x : Sl) (A : Option Addr) (n cv : Nat) (hbt : (Lit.int .u64 x.bits).wf = true) :
    Calls Try.prog 32 #[.pointer (some ⟨gr, 0, none⟩), .agg #[.bool x.ack, .int .i64 x.seq, .int .u64 x.bits, .slice A n cv]] w fun e w' => ∃ u, e = .returned u ∧ FRes (RpF gr gt c W R (takeN c W s x)) FP w u (takeO c W s x) w' := by
  obtain ⟨ack, seq, bt, data⟩ := x
  have h0 := h
  obtain ⟨ok, hlt, F, h1, h2⟩ := h
  have hb := bounds_u64 hbt
  simp only at hb
  cases ack with
  | false =>
    refine (rpTakeNo_any w gr seq bt A n cv).mono ?_
    rintro e w' ⟨rfl, hx⟩
    have hn : takeP W c.m s false seq bt.toNat = none := by unfold takeP; rw [if_neg (by simp)]
    have e1 : takeN c W s ⟨false, seq, bt, data⟩ = s := by unfold takeN; simp only [hn]
    have e2 : takeO c W s ⟨false, seq, bt, data⟩ = [] := by unfold takeO; simp only [hn]
    rw [e1, e2]
    exact ⟨_, rfl, h0.turn h2 (h1.ext hx) ok (RpFr.of_ext h1 hx) (isSlice_nil _ _ _)⟩
  | true =>
    obtain ⟨B, rfl⟩ := Int.eq_ofNat_of_zero_le hb.1
    refine (rpTake_any F w gr gt c s W R h1 hc.ok hc.w hc.b1 ok hl seq B A n cv (by omega)).mono ?_
    intro e w' ht
    unfold TakeResR at ht
    cases htp : takeP W c.m s true seq B with
    | none =>
      rw [htp] at ht
      have e1 : takeN c W s ⟨true, seq, (B : Int), data⟩ = s := by unfold takeN; simp only [Int.toNat_natCast, htp]
      have e2 : takeO c W s ⟨true, seq, (B : Int), data⟩ = [] := by unfold takeO; simp only [Int.toNat_natCast, htp]
      rw [e1, e2]
      exact ⟨_, ht.1, h0.turn h2 (h1.ext ht.2) ok (RpFr.of_ext h1 ht.2) (isSlice_nil _ _ _)⟩
    | some s1 =>
      rw [htp] at ht
      obtain ⟨u, he, hu, hps, hout⟩ := ht
      have e1 : takeN c W s ⟨true, seq, (B : Int), data⟩ = onS W s1 := by unfold takeN; simp only [Int.toNat_natCast, htp]
      have e2 : takeO c W s ⟨true, seq, (B : Int), data⟩ = (onL W s1).map (slideOf c.m s1) := by unfold takeO; simp only [Int.toNat_natCast, htp]
      rw [e1, e2]
      exact ⟨u, he, h0.turn h2 hps (onS_ok (takeP_ok ok hc.b1 hl htp).1 hc.b1 (by rw [(takeP_ok ok hc.b1 hl htp).2.1]; exact hl)) hout hu⟩
end
end Go.Proofs.Ytimlbebockfioaa
