/- Two things in one world, each with its own home. -/
import Derived.Test.YtjchobncmogcpaaVeilUse
import Derived.Test.YtjchobncmogcpaaRange
namespace Go.Proofs.Ytjchobncmogcpaa
open Go.RowKit

/-- What holds of a part of memory, from block lo on. -/
def Closed (lo : Nat) (A : World → Prop) : Prop := ∀ u u', Sub lo u u' → A u → A u'
theorem Closed.mono {lo lo' : Nat} {A : World → Prop} (h : Closed lo' A) (hl : lo ≤ lo') : Closed lo A := fun u u' hs => h u u' (hs.mono hl)
/-- A and B hold apart, above all that W has. -/
def Two (A B : World → Prop) (W w : World) : Prop :=
  ∃ S T : Nat → Prop, (∀ k, S k → ¬ T k) ∧ (∀ k, S k → W.heap.size ≤ k ∧ k < w.heap.size) ∧ (∀ k, T k → W.heap.size ≤ k ∧ k < w.heap.size) ∧ A (see S w) ∧ B (see T w) ∧ Ext W w

section
variable {A B : World → Prop} {W w w' : World}
theorem Two.ext0 (h : Two A B W w) : Ext W w := by obtain ⟨S, T, _, _, _, _, _, h⟩ := h; exact h
theorem Two.left (h : Two A B W w) (hA : Closed W.heap.size A) : A w := by obtain ⟨S, T, _, _, _, h, _⟩ := h; exact hA _ _ (see_le S w) h
theorem Two.right (h : Two A B W w) (hB : Closed W.heap.size B) : B w := by obtain ⟨S, T, _, _, _, _, h, _⟩ := h; exact hB _ _ (see_le T w) h
theorem Two.swap (h : Two A B W w) : Two B A W w := by obtain ⟨S, T, h1, h2, h3, h4, h5, h6⟩ := h; exact ⟨T, S, fun k ht hs => h1 k hs ht, h3, h2, h5, h4, h6⟩
theorem Two.imp {A' B' : World → Prop} (h : Two A B W w) (hA : ∀ u, A u → A' u) (hB : ∀ u, B u → B' u) : Two A' B' W w := by obtain ⟨S, T, h1, h2, h3, h4, h5, h6⟩ := h; exact ⟨S, T, h1, h2, h3, hA _ h4, hB _ h5, h6⟩
theorem sub_see_ext {lo : Nat} {S : Nat → Prop} (he : Ext w w') : Sub lo (see S w) (see S w') := ⟨by rw [see_size, see_size]; exact he.size, fun k o hlo hk hr => by
  have hw := (see_le (lo := lo) S w).real k o hlo hk hr
  have hlt := (Array.getElem?_eq_some_iff.1 hw).1
  rw [see_at, he.block k hlt, ← see_at]
  exact hk⟩
theorem Two.ext (h : Two A B W w) (he : Ext w w') (hA : Closed W.heap.size A) (hB : Closed W.heap.size B) : Two A B W w' := by
  obtain ⟨S, T, h1, h2, h3, h4, h5, h6⟩ := h
  exact ⟨S, T, h1, fun k hk => ⟨(h2 k hk).1, Nat.lt_of_lt_of_le (h2 k hk).2 he.size⟩, fun k hk => ⟨(h3 k hk).1, Nat.lt_of_lt_of_le (h3 k hk).2 he.size⟩, hA _ _ (sub_see_ext he) h4, hB _ _ (sub_see_ext he) h5, Ext.trans h6 he⟩
/-- Both made, one behind the other. -/
theorem two_new {w1 w2 : World} (h0 : Ext W w1) (h1 : Ext w1 w2) (hA : Closed W.heap.size A) (hB : Closed w1.heap.size B) (ha : A w1) (hb : B w2) : Two A B W w2 := by
  refine ⟨fun k => W.heap.size ≤ k ∧ k < w1.heap.size, fun k => w1.heap.size ≤ k ∧ k < w2.heap.size, fun k hs ht => by omega, fun k hk => ⟨hk.1, Nat.lt_of_lt_of_le hk.2 h1.size⟩, fun k hk => ⟨Nat.le_trans h0.size hk.1, hk.2⟩, hA _ _ ⟨by rw [see_size]; exact h1.size, fun k o hlo hk hr => ?_⟩ ha, hB _ _ ⟨by rw [see_size]; exact Nat.le_refl _, fun k o hlo hk hr => ?_⟩ hb, Ext.trans h0 h1⟩
  · have hlt := (Array.getElem?_eq_some_iff.1 hk).1
    exact see_in ((h1.block k hlt).trans hk) ⟨hlo, hlt⟩ (real_good hr).1
  · exact see_in hk ⟨hlo, (Array.getElem?_eq_some_iff.1 hk).1⟩ (real_good hr).1

variable {P : Program} {F : FuncId → Bool}
/-- A call that turns the one, and leaves the other. -/
theorem two_call (hall : ∀ g, F g = true → bodyPlain P F g = true) {f : FuncId} (hF : F f = true) {args : Array Value} {Q : Value → World → Prop} (h : Two A B W w) (hA : Closed W.heap.size A) (hB : Closed W.heap.size B) (hQ : ∀ x, Closed W.heap.size (Q x))
    (hc : ∀ u, A u → W.heap.size ≤ u.heap.size → (∀ {α : Type} (r : Rep α) (v : Value) (xs : List α), IsSlice r W (all W) v xs → IsSlice r u (all u) v xs) → Calls P f args u fun e u' => ∃ x, e = .returned x ∧ Q x u' ∧ Below W.heap.size u u') :
    Calls P f args w fun e w' => ∃ x, e = .returned x ∧ Two (Q x) B W w' := by
  obtain ⟨S, T, h1, h2, h3, h4, h5, h6⟩ := h
  have hs1 : Sub W.heap.size (see S w) (see (fun k => S k ∨ k < W.heap.size) w) := see_sub fun k _ hk => .inl hk
  have hcall := hc (see (fun k => S k ∨ k < W.heap.size) w) (hA _ _ hs1 h4) (by rw [see_size]; exact h6.size) (fun r v xs hx => hx.seen h6 fun k hk => .inr hk)
  refine (calls_see (T := T) hall hF hcall (fun e u ⟨x, hx, _⟩ => ⟨x, hx⟩) (fun k hk ht => by
    rcases hk with hk | hk
    · exact h1 k hk ht
    · have := (h3 k ht).1; omega) (fun k ht => (h3 k ht).2)).mono ?_
  rintro e w' ⟨v', S', T', ⟨x, rfl, hq, hb⟩, hsn⟩
  have hext : Ext W w' := by
    refine ⟨hsn.os.trans (hb.os.trans h6.os), hsn.tape.trans (hb.tape.trans h6.tape), hsn.output.trans (hb.output.trans h6.output), ?_, fun k hk => ?_⟩
    · have := hb.size; rw [see_size, hsn.size] at this; exact Nat.le_trans h6.size this
    · exact (hsn.back k (Nat.lt_of_lt_of_le hk h6.size) (hb.block k hk)).trans (h6.block k hk)
  have hwsz : w.heap.size ≤ w'.heap.size := by have := hb.size; rw [see_size, hsn.size] at this; exact this
  refine ⟨x, rfl, fun k => S' k ∧ W.heap.size ≤ k, T', fun k hs ht => hsn.apart k hs.1 ht, fun k hk => ⟨hk.2, hsn.lt k hk.1⟩, fun k hk => ⟨(h3 k (hsn.le k hk)).1, Nat.lt_of_lt_of_le (h3 k (hsn.le k hk)).2 hwsz⟩, hQ x _ _ ((hsn.sub.mono (Nat.zero_le _)).trans (see_sub fun k hlo hk => ⟨hk, hlo⟩)) hq, hB _ _ (hsn.other.mono (Nat.zero_le _)) h5, hext⟩
end
theorem MapSt.sub {κ : Type} [DecidableEq κ] {K : Key κ} {lo b : Nat} {u u' : World} {l : List (κ × Value)} (h : MapSt K u b l) (hs : Sub lo u u') (hlo : lo ≤ b) : MapSt K u' b l := by
  obtain ⟨es, clock, h1, h2⟩ := h
  exact ⟨es, clock, hs.real b _ hlo h1 rfl, h2⟩
end Go.Proofs.Ytjchobncmogcpaa
