/- The puller and its reference, side by side. -/
import Derived.Test.YtjchobncmogcpaaPullPlain
import Derived.Test.YtjchobncmogcpaaPullAhead
import Derived.Test.YtjchobncmogcpaaPullR6
namespace Go.Proofs.Ytjchobncmogcpaa
open Go.RowKit

def XW (W : World) (gp gq gm : Nat) : Nat → Prop := fun b => b < W.heap.size ∨ own3 gp gq gm b
def SlAt (lo : Nat) (v : Value) (l : List Sl) (u : World) : Prop := IsSlice repSl u (fun b => lo ≤ b ∧ b < u.heap.size) v l
def ByAt (lo : Nat) (v : Value) (m : List UInt8) (u : World) : Prop := IsSlice repByte u (fun b => lo ≤ b ∧ b < u.heap.size) v m
theorem slAt_closed (lo : Nat) (v : Value) (l : List Sl) : Closed lo (SlAt lo v l) := fun u u' hs h => h.sub hs fun b hb => ⟨hb.1, hb.1, Nat.lt_of_lt_of_le hb.2 hs.size⟩
theorem byAt_closed (lo : Nat) (v : Value) (m : List UInt8) : Closed lo (ByAt lo v m) := fun u u' hs h => h.sub hs fun b hb => ⟨hb.1, hb.1, Nat.lt_of_lt_of_le hb.2 hs.size⟩
theorem SlAt.all {lo : Nat} {v : Value} {l : List Sl} {u : World} (h : SlAt lo v l u) : IsSlice repSl u (all u) v l := h.keep fun b hb => ⟨hb.2, fun _ => rfl⟩
theorem ByAt.all {lo : Nat} {v : Value} {m : List UInt8} {u : World} (h : ByAt lo v m u) : IsSlice repByte u (all u) v m := h.keep fun b hb => ⟨hb.2, fun _ => rfl⟩
theorem puAt_closed {W : World} {gp gq gm : Nat} (c : Cfg) (s : Pu) (h1 : W.heap.size ≤ gp) (h2 : W.heap.size ≤ gq) (h3 : W.heap.size ≤ gm) : Closed W.heap.size (fun u => PuAt (XW W gp gq gm) u gp gq gm c s) := fun u u' hs h => by
  have hk : ∀ {v : Value} {xs : List UInt8}, IsSlice repByte u (outOf (XW W gp gq gm) u) v xs → IsSlice repByte u' (outOf (XW W gp gq gm) u') v xs := fun hv =>
    hv.sub hs fun b hb => ⟨by have := hb.2; simp only [XW, not_or] at this; omega, Nat.lt_of_lt_of_le hb.1 hs.size, hb.2⟩
  obtain ⟨q1, q2, q3, q4, first, vs, q5, q6⟩ := h.q
  obtain ⟨L, m1, m2⟩ := h.map
  exact ⟨h.pq, h.pm, h.qm, h.sub, fun b hb => Nat.lt_of_lt_of_le (h.ltX b hb) hs.size, h.blk.sub hs h1, ⟨q1, q2, q3, q4, first, vs, q5.sub hs h2, ⟨q6.len, q6.low, q6.q16, fun i hi => (q6.at_ i hi).imp fun v hv => ⟨hv.1, hk hv.2⟩, q6.short⟩⟩, L, m1.sub hs h3, ⟨m2.nodup, fun k => by
    have := m2.at_ k
    revert this
    cases alook L k <;> cases hlook s.ah k <;> intro h1
    · exact h1
    · exact h1
    · exact h1
    · exact ⟨hk h1.1, h1.2⟩⟩⟩
theorem prAt_closed {lo gn gr : Nat} (c : Cfg) (s : Pu) (h1 : lo ≤ gn) : Closed lo (fun u => PrAt u gn gr c s) := fun u u' hs h => by
  obtain ⟨hlt, qv, lv, k1, k2, k3, k4⟩ := h
  exact ⟨hlt, qv, lv, k1.sub hs (by omega), k2.sub hs h1, k3.sub hs (by omega), k4.sub hs fun b hb => ⟨by have := hb.1; omega, hb.1, Nat.lt_of_lt_of_le hb.2.1 hs.size, hb.2.2⟩⟩
/-- Both, each at its own place, at their states; and what was handed out. -/
structure Pd (W w : World) (gp gq gm gn gr : Nat) (c : Cfg) (s t : Pu) (EA EB : World → Prop) : Prop where
  l1 : W.heap.size ≤ gp
  l2 : W.heap.size ≤ gq
  l3 : W.heap.size ≤ gm
  l4 : W.heap.size ≤ gn
  cA : Closed W.heap.size EA
  cB : Closed W.heap.size EB
  two : Two (fun u => PuAt (XW W gp gq gm) u gp gq gm c s ∧ EA u) (fun u => PrAt u gn gr c t ∧ EB u) W w
section
variable {W w w' : World} {gp gq gm gn gr : Nat} {c : Cfg} {s t : Pu} {EA EB : World → Prop}
theorem Pd.clA (h : Pd W w gp gq gm gn gr c s t EA EB) : Closed W.heap.size (fun u => PuAt (XW W gp gq gm) u gp gq gm c s ∧ EA u) := fun u u' hs hh => ⟨puAt_closed c s h.l1 h.l2 h.l3 u u' hs hh.1, h.cA u u' hs hh.2⟩
theorem Pd.clB (h : Pd W w gp gq gm gn gr c s t EA EB) : Closed W.heap.size (fun u => PrAt u gn gr c t ∧ EB u) := fun u u' hs hh => ⟨prAt_closed c t h.l4 u u' hs hh.1, h.cB u u' hs hh.2⟩
theorem Pd.ext0 (h : Pd W w gp gq gm gn gr c s t EA EB) : Ext W w := h.two.ext0
theorem Pd.pu (h : Pd W w gp gq gm gn gr c s t EA EB) : PuAt (XW W gp gq gm) w gp gq gm c s := (h.two.left h.clA).1
theorem Pd.ea (h : Pd W w gp gq gm gn gr c s t EA EB) : EA w := (h.two.left h.clA).2
theorem Pd.pr (h : Pd W w gp gq gm gn gr c s t EA EB) : PrAt w gn gr c t := (h.two.right h.clB).1
theorem Pd.eb (h : Pd W w gp gq gm gn gr c s t EA EB) : EB w := (h.two.right h.clB).2
theorem Pd.ext (h : Pd W w gp gq gm gn gr c s t EA EB) (he : Ext w w') : Pd W w' gp gq gm gn gr c s t EA EB := ⟨h.l1, h.l2, h.l3, h.l4, h.cA, h.cB, h.two.ext he h.clA h.clB⟩
def noX : World → Prop := fun _ => True
theorem noX_closed (lo : Nat) : Closed lo noX := fun _ _ _ _ => trivial
theorem Pd.drop (h : Pd W w gp gq gm gn gr c s t EA EB) : Pd W w gp gq gm gn gr c s t noX noX := ⟨h.l1, h.l2, h.l3, h.l4, noX_closed _, noX_closed _, h.two.imp (fun u hu => ⟨hu.1, trivial⟩) (fun u hu => ⟨hu.1, trivial⟩)⟩
/-- A call on the program's side. -/
theorem pd_left (h : Pd W w gp gq gm gn gr c s t EA EB) {f : FuncId} (hF : FPull f = true) {args : Array Value} (s' : Pu) (EA' : Value → World → Prop) (hE : ∀ x, Closed W.heap.size (EA' x))
    (hc : ∀ u, PuAt (XW W gp gq gm) u gp gq gm c s → W.heap.size ≤ u.heap.size → (∀ {α : Type} (r : Rep α) (v : Value) (xs : List α), IsSlice r W (all W) v xs → IsSlice r u (all u) v xs) →
      Calls Try.prog f args u fun e u' => ∃ x, e = .returned x ∧ (PuAt (XW W gp gq gm) u' gp gq gm c s' ∧ EA' x u') ∧ Below W.heap.size u u') :
    Calls Try.prog f args w fun e w' => ∃ x, e = .returned x ∧ Pd W w' gp gq gm gn gr c s' t (EA' x) EB := by
  refine (two_call plainPull hF (Q := fun x u => PuAt (XW W gp gq gm) u gp gq gm c s' ∧ EA' x u) h.two h.clA h.clB (fun x u u' hs hh => ⟨puAt_closed c s' h.l1 h.l2 h.l3 u u' hs hh.1, hE x u u' hs hh.2⟩) (fun u hu hsz hin => hc u hu.1 hsz hin)).mono ?_
  rintro e w' ⟨x, rfl, htwo⟩
  exact ⟨x, rfl, h.l1, h.l2, h.l3, h.l4, hE x, h.cB, htwo⟩
theorem pd_right (h : Pd W w gp gq gm gn gr c s t EA EB) {f : FuncId} (hF : FPull f = true) {args : Array Value} (t' : Pu) (EB' : Value → World → Prop) (hE : ∀ x, Closed W.heap.size (EB' x))
    (hc : ∀ u, PrAt u gn gr c t → W.heap.size ≤ u.heap.size → (∀ {α : Type} (r : Rep α) (v : Value) (xs : List α), IsSlice r W (all W) v xs → IsSlice r u (all u) v xs) →
      Calls Try.prog f args u fun e u' => ∃ x, e = .returned x ∧ (PrAt u' gn gr c t' ∧ EB' x u') ∧ Below W.heap.size u u') :
    Calls Try.prog f args w fun e w' => ∃ x, e = .returned x ∧ Pd W w' gp gq gm gn gr c s t' EA (EB' x) := by
  refine (two_call plainPull hF (Q := fun x u => PrAt u gn gr c t' ∧ EB' x u) h.two.swap h.clB h.clA (fun x u u' hs hh => ⟨prAt_closed c t' h.l4 u u' hs hh.1, hE x u u' hs hh.2⟩) (fun u hu hsz hin => hc u hu.1 hsz hin)).mono ?_
  rintro e w' ⟨x, rfl, htwo⟩
  exact ⟨x, rfl, h.l1, h.l2, h.l3, h.l4, h.cA, hE x, htwo.swap⟩
end
/-- What a packet does. -/
def actS (c : Cfg) (s : Pu) (x : Sl) : Pu := if x.ack = true then s else takeS c.w c.m c.room.toNat s x.seq x.data
def actL (c : Cfg) (s : Pu) (x : Sl) : List Sl := if x.ack = true then [] else [tellS c (takeS c.w c.m c.room.toNat s x.seq x.data)]
section
variable {W w w' : World} {gp gq gm gn gr : Nat} {c : Cfg} {s t : Pu} {EA EB : World → Prop}
theorem pd_take (h : Pd W w gp gq gm gn gr c s t EA EB) (hc : c.Ok) (hs : s.ent ≤ 100000) (x : Sl) (v : Value) (hv : IsSlice repByte W (all W) v x.data) (hd : x.data.length ≤ 16777216) :
    Calls Try.prog 19 #[.pointer (some ⟨gp, 0, none⟩), .agg #[.bool x.ack, .int .i64 x.seq, .int .u64 x.bits, v]] w fun e w' => ∃ u, e = .returned u ∧ Pd W w' gp gq gm gn gr c (actS c s x) t (SlAt W.heap.size u (actL c s x)) EB := by
  refine pd_left h (f := 19) (by kernel_rfl) (actS c s x) (fun u => SlAt W.heap.size u (actL c s x)) (fun u => slAt_closed _ _ _) fun u hu hsz hin => ?_
  unfold actS actL
  cases hx : x.ack with
  | true =>
    refine (takeAck_any _ u gp gq gm c s hu x.seq x.bits v).mono ?_
    rintro e u' ⟨rfl, hx'⟩
    exact ⟨_, rfl, ⟨hu.ext hx', isSlice_nil _ _ _⟩, hx'.mono hsz⟩
  | false =>
    refine (take_any _ u gp gq gm c s hu hc hs x.seq x.bits v x.data (hin repByte v x.data hv) hd).mono ?_
    rintro e u' ⟨r, rfl, hr, hp, ho⟩
    refine ⟨_, rfl, ⟨hp, hr.keep fun b hb => ⟨⟨Nat.le_trans hsz hb.1, hb.2⟩, fun _ => rfl⟩⟩, ⟨ho.os, ho.tape, ho.output, ho.size, fun k hk => ho.block k (Nat.lt_of_lt_of_le hk hsz) (fun hh => by
      have := h.l1; have := h.l2; have := h.l3
      rcases hh with e | e | e <;> omega)⟩⟩
theorem pd_takeR (h : Pd W w gp gq gm gn gr c s t EA EB) (hc : c.Ok) (hok : PuOk c t) (hs : t.ent ≤ 100000) (x : Sl) (v : Value) (hv : IsSlice repByte W (all W) v x.data) (hd : x.data.length ≤ 16777216) :
    Calls Try.prog 25 #[.pointer (some ⟨gr, 0, none⟩), .agg #[.bool x.ack, .int .i64 x.seq, .int .u64 x.bits, v]] w fun e w' => ∃ u, e = .returned u ∧ Pd W w' gp gq gm gn gr c s (actS c t x) EA (SlAt W.heap.size u (actL c t x)) := by
  refine pd_right h (f := 25) (by kernel_rfl) (actS c t x) (fun u => SlAt W.heap.size u (actL c t x)) (fun u => slAt_closed _ _ _) fun u hu hsz hin => ?_
  unfold actS actL
  cases hx : x.ack with
  | true =>
    refine (takeRAck_any u gr x.seq x.bits v).mono ?_
    rintro e u' ⟨rfl, hx'⟩
    exact ⟨_, rfl, ⟨hu.ext hx', isSlice_nil _ _ _⟩, hx'.mono hsz⟩
  | false =>
    refine (takeR_any u gn gr c t hu hc hok hs x.seq x.bits v x.data (hin repByte v x.data hv) hd).mono ?_
    rintro e u' ⟨r, rfl, hr, hp, hb⟩
    exact ⟨_, rfl, ⟨hp, hr.keep fun b hb => ⟨⟨Nat.le_trans hsz hb.1, hb.2⟩, fun _ => rfl⟩⟩, hb.mono h.l4⟩
/-- What came out. -/
def RecvAt (lo : Nat) (m : List UInt8) (l : List Sl) (x : Value) (u : World) : Prop := ∃ a b, x = .tuple #[a, b, .bool true] ∧ ByAt lo a m u ∧ SlAt lo b l u
theorem recvAt_closed (lo : Nat) (m : List UInt8) (l : List Sl) (x : Value) : Closed lo (RecvAt lo m l x) := fun u u' hs h => by
  obtain ⟨a, b, h1, h2, h3⟩ := h
  exact ⟨a, b, h1, byAt_closed _ _ _ u u' hs h2, slAt_closed _ _ _ u u' hs h3⟩
theorem pd_recv (h : Pd W w gp gq gm gn gr c s t EA EB) (hc : c.Ok) (hs : s.ent ≤ 100000) (hr : s.ret ≤ 100000) (m : List UInt8) (s' : Pu) (hrec : recvS c.room.toNat s = some (m, s')) :
    Calls Try.prog 17 #[.pointer (some ⟨gp, 0, none⟩)] w fun e w' => ∃ x, e = .returned x ∧ Pd W w' gp gq gm gn gr c s' t (RecvAt W.heap.size m (recvTell c s s') x) EB := by
  refine pd_left h (f := 17) (by kernel_rfl) s' (RecvAt W.heap.size m (recvTell c s s')) (fun u => recvAt_closed _ _ _ _) fun u hu hsz hin => ?_
  refine (recv_any _ u gp gq gm c s hu hc hs hr m s' hrec).mono ?_
  rintro e u' ⟨a, b, rfl, ha, hb, hp, ho⟩
  refine ⟨_, rfl, ⟨hp, a, b, rfl, ha.keep fun b hb => ⟨⟨Nat.le_trans hsz hb.1, hb.2⟩, fun _ => rfl⟩, hb.keep fun b hb => ⟨⟨Nat.le_trans hsz hb.1, hb.2⟩, fun _ => rfl⟩⟩, ⟨ho.os, ho.tape, ho.output, ho.size, fun k hk => ho.block k (Nat.lt_of_lt_of_le hk hsz) (fun hh => by
    have := h.l1; have := h.l2; have := h.l3
    rcases hh with e | e | e <;> omega)⟩⟩
theorem pd_recvR (h : Pd W w gp gq gm gn gr c s t EA EB) (hc : c.Ok) (hok : PuOk c t) (hs : t.ent ≤ 100000) (hr : t.ret ≤ 100000) (m : List UInt8) (t' : Pu) (hrec : recvS c.room.toNat t = some (m, t')) :
    Calls Try.prog 26 #[.pointer (some ⟨gr, 0, none⟩)] w fun e w' => ∃ x, e = .returned x ∧ Pd W w' gp gq gm gn gr c s t' EA (RecvAt W.heap.size m (recvTell c t t') x) := by
  refine pd_right h (f := 26) (by kernel_rfl) t' (RecvAt W.heap.size m (recvTell c t t')) (fun u => recvAt_closed _ _ _ _) fun u hu hsz hin => ?_
  refine (recvR_any u gn gr c t hu hc hok hs hr m t' hrec).mono ?_
  rintro e u' ⟨a, b, rfl, ha, hb, hp, ho⟩
  exact ⟨_, rfl, ⟨hp, a, b, rfl, ha.keep fun b hb => ⟨⟨by have := hb.1; have := hp.lt; have := h.l4; omega, hb.2⟩, fun _ => rfl⟩, hb.keep fun b hb => ⟨⟨Nat.le_trans hsz hb.1, hb.2⟩, fun _ => rfl⟩⟩, ho.mono h.l4⟩
theorem pd_new {w1 w2 : World} (h0 : Ext W w1) (h1 : Ext w1 w2) (hp : PuAt (own3 gp gq gm) w1 gp gq gm c ⟨0, 0, [], []⟩) (l1 : W.heap.size ≤ gp) (l2 : W.heap.size ≤ gq) (l3 : W.heap.size ≤ gm) (hr : PrAt w2 gn gr c ⟨0, 0, [], []⟩) (l4 : w1.heap.size ≤ gn) : Pd W w2 gp gq gm gn gr c ⟨0, 0, [], []⟩ ⟨0, 0, [], []⟩ noX noX := by
  have l5 : W.heap.size ≤ gn := Nat.le_trans h0.size l4
  have hp2 : PuAt (XW W gp gq gm) w1 gp gq gm c ⟨0, 0, [], []⟩ := by
    obtain ⟨q1, q2, q3, q4, first, vs, q5, q6⟩ := hp.q
    obtain ⟨L, m1, m2⟩ := hp.map
    refine ⟨hp.pq, hp.pm, hp.qm, fun b hb => .inr hb, fun b hb => ?_, hp.blk, ⟨.inr (.inr (.inl rfl)), q2, q3, q4, first, vs, q5, ⟨q6.len, q6.low, q6.q16, fun i hi => absurd hi (by simp), q6.short⟩⟩, L, m1, ⟨m2.nodup, fun k => ?_⟩⟩
    · rcases hb with h | h
      · exact Nat.lt_of_lt_of_le h h0.size
      · exact hp.lt b h
    · have := m2.at_ k
      revert this
      cases hal : alook L k <;> intro h1
      · exact h1
      · exact h1.elim
  refine ⟨l1, l2, l3, l5, noX_closed _, noX_closed _, two_new h0 h1 (fun u u' hs hh => ⟨puAt_closed c _ l1 l2 l3 u u' hs hh.1, trivial⟩) (fun u u' hs hh => ⟨prAt_closed c _ l4 u u' hs hh.1, trivial⟩) ⟨hp2, trivial⟩ ⟨hr, trivial⟩⟩
end
end Go.Proofs.Ytjchobncmogcpaa
