/- Two homes in one world: a call that needs but one of them leaves the other. -/
import Derived.Test.YtjchobncmogcpaaVeilStep
namespace Go.Proofs.Ytjchobncmogcpaa
open Go.RowKit

def isReal : Obj → Bool | .cells c _ f => decide (0 < c.size) || decide (f = (0, 0)) | .map .. => true | .mapIter .. => true | _ => false
theorem real_dead (o : Obj) : isReal (deadOf o) = false := by
  cases o with
  | cells c e f =>
    simp only [deadOf, isReal]
    split
    · simp
    · rename_i h
      simp
      intro e
      rw [e] at h
      simp at h
  | _ => rfl
theorem real_good {o : Obj} (h : isReal o = true) : isBad o = false ∧ isNum o = false := by cases o <;> simp [isReal] at h <;> exact ⟨rfl, rfl⟩
theorem bad_dead (o : Obj) : isBad (deadOf o) = false := by cases o <;> rfl

open Classical in
/-- What is seen where all but the blocks S is hidden. -/
noncomputable def see (S : Nat → Prop) (w : World) : World := { w with heap := w.heap.mapIdx fun k o => if isNum o = true ∨ (S k ∧ isBad o = false) then o else deadOf o }
theorem see_size (S : Nat → Prop) (w : World) : (see S w).heap.size = w.heap.size := by simp [see]
open Classical in
theorem see_at (S : Nat → Prop) (w : World) (k : Nat) : (see S w).heap[k]? = (w.heap[k]?).map fun o => if isNum o = true ∨ (S k ∧ isBad o = false) then o else deadOf o := by simp [see]
theorem see_in {S : Nat → Prop} {w : World} {k : Nat} {o : Obj} (h : w.heap[k]? = some o) (hs : S k) (hb : isBad o = false) : (see S w).heap[k]? = some o := by
  rw [see_at, h, Option.map_some, if_pos (.inr ⟨hs, hb⟩)]

/-- All that is real in u, from block lo on, is in u' too. -/
structure Sub (lo : Nat) (u u' : World) : Prop where
  size : u.heap.size ≤ u'.heap.size
  real : ∀ (k : Nat) (o : Obj), lo ≤ k → u.heap[k]? = some o → isReal o = true → u'.heap[k]? = some o
section
variable {lo : Nat} {u u' w : World} {S T : Nat → Prop}
theorem Sub.refl (u : World) : Sub lo u u := ⟨Nat.le_refl _, fun _ _ _ h _ => h⟩
theorem Sub.trans {a b c : World} (h : Sub lo a b) (k : Sub lo b c) : Sub lo a c := ⟨Nat.le_trans h.size k.size, fun i o hi h1 h2 => k.real i o hi (h.real i o hi h1 h2) h2⟩
theorem Sub.mono {lo' : Nat} (h : Sub lo u u') (hl : lo ≤ lo') : Sub lo' u u' := ⟨h.size, fun i o hi => h.real i o (Nat.le_trans hl hi)⟩
theorem Sub.of_ext (h : Ext u u') : Sub lo u u' := ⟨h.size, fun k o _ hk _ => (h.block k (Array.getElem?_eq_some_iff.1 hk).1).trans hk⟩
theorem see_le (S : Nat → Prop) (w : World) : Sub lo (see S w) w := ⟨Nat.le_of_eq (see_size S w), fun k o _ hk hr => by
  rw [see_at] at hk
  cases hw : w.heap[k]? with
  | none => rw [hw] at hk; cases hk
  | some q =>
    rw [hw, Option.map_some] at hk
    injection hk with hk
    split at hk
    · rw [hk]
    · rw [← hk, real_dead] at hr; cases hr⟩
theorem see_sub (h : ∀ k, lo ≤ k → S k → T k) : Sub lo (see S w) (see T w) := ⟨by rw [see_size, see_size]; exact Nat.le_refl _, fun k o hlo hk hr => by
  have hw := (see_le (lo := lo) S w).real k o hlo hk hr
  rw [see_at, hw, Option.map_some] at hk
  injection hk with hk
  split at hk
  · rename_i hc
    rcases hc with hc | hc
    · rw [(real_good hr).2] at hc; cases hc
    · exact see_in hw (h k hlo hc.1) hc.2
  · rw [← hk, real_dead] at hr; cases hr⟩
theorem Sub.cell (h : Sub lo u u') {b o : Nat} {x : Value} (hlo : lo ≤ b) (hc : u.cell? ⟨b, o, none⟩ = some x) : u'.cell? ⟨b, o, none⟩ = some x := by
  unfold World.cell? at hc ⊢
  cases hb : u.heap[b]? with
  | none => simp [hb] at hc
  | some q =>
    cases q with
    | cells c e f =>
      simp only [hb] at hc
      have hr : isReal (.cells c e f) = true := by
        have hc' : c[o]? = some x := by simpa using hc
        have := (Array.getElem?_eq_some_iff.1 hc').1
        simp [isReal]
        left
        omega
      simp only [h.real b _ hlo hb hr]
      exact hc
    | _ => simp [hb] at hc
theorem Blk.sub {g : Nat} {t : TypeId} {cs : Array Value} (h : Blk u g t cs) (hs : Sub lo u u') (hlo : lo ≤ g) : Blk u' g t cs := hs.real g _ hlo h (by simp [isReal])
theorem IsSlice.sub {α : Type} {r : Rep α} {X Y : Nat → Prop} {v : Value} {xs : List α} (h : IsSlice r u X v xs) (hs : Sub lo u u') (hX : ∀ b, X b → lo ≤ b ∧ Y b) : IsSlice r u' Y v xs :=
  h.keepP fun b hb => ⟨(hX b hb).2, fun o x hx => hs.cell (hX b hb).1 hx⟩
theorem IsSlice.subAll {α : Type} {r : Rep α} {v : Value} {xs : List α} (h : IsSlice r u (all u) v xs) (hs : Sub 0 u u') : IsSlice r u' (all u') v xs := h.sub hs fun _ hb => ⟨Nat.zero_le _, Nat.lt_of_lt_of_le hb hs.size⟩
theorem Own.sub {α : Type} {r : Rep α} {e : TypeId} {base : Nat} {v : Value} {xs : List α} (h : Own r e base u v xs) (hs : Sub lo u u') (hlo : lo ≤ base) : Own r e base u' v xs := by
  obtain ⟨ys, ⟨h1, h2⟩, h3⟩ := h
  refine ⟨ys, ⟨h1, ?_⟩, fun j hj => r.keepP (h3 j hj) fun b hb => ⟨⟨hb.1, Nat.lt_of_lt_of_le hb.2.1 hs.size, hb.2.2⟩, fun o x hx => hs.cell (Nat.le_trans hlo hb.1) hx⟩⟩
  rcases h2 with h2 | ⟨g, cap, cur, hv, hg, hh, hrest⟩
  · exact .inl h2
  · exact .inr ⟨g, cap, cur, hv, hg, hs.real g _ (Nat.le_trans hlo hg) hh (by simp [isReal]), hrest⟩
theorem MapIs.sub {κ : Type} [DecidableEq κ] {K : Key κ} {b : Nat} {l : List (κ × Value)} (h : MapIs K u b l) (hs : Sub lo u u') (hlo : lo ≤ b) : MapIs K u' b l := by
  obtain ⟨es, clock, hb, hl⟩ := h
  exact ⟨es, clock, hs.real b _ hlo hb rfl, hl⟩
/-- What came in, seen in a later world. -/
theorem IsSlice.seen {α : Type} {r : Rep α} {W w : World} {v : Value} {xs : List α} (h : IsSlice r W (all W) v xs) (he : Ext W w) (hS : ∀ k, k < W.heap.size → S k) : IsSlice r (see S w) (all (see S w)) v xs := by
  have h1 := h.ext he
  refine h.keepP fun b hb => ⟨by show b < (see S w).heap.size; rw [see_size]; exact Nat.lt_of_lt_of_le hb he.size, fun o x hx => ?_⟩
  have hx' : w.cell? ⟨b, o, none⟩ = some x := (he.cell hb o).trans hx
  unfold World.cell? at hx' ⊢
  cases hq : w.heap[b]? with
  | none => simp [hq] at hx'
  | some q =>
    cases q with
    | cells c e f =>
      simp only [hq] at hx'
      rw [see_in hq (hS b hb) rfl]
      exact hx'
    | _ => simp [hq] at hx'
end

/-- What is known behind a call for which all but S was hidden. -/
structure Seen (S T : Nat → Prop) (w v' w' : World) (S' T' : Nat → Prop) : Prop where
  sub : Sub 0 v' (see S' w')
  size : v'.heap.size = w'.heap.size
  other : Sub 0 (see T w) (see T' w')
  apart : ∀ k, S' k → ¬ T' k
  le : ∀ k, T' k → T k
  lt : ∀ k, S' k → k < w'.heap.size
  back : ∀ k, k < w.heap.size → v'.heap[k]? = (see S w).heap[k]? → w'.heap[k]? = w.heap[k]?
  os : w'.os = v'.os
  tape : w'.tape = v'.tape
  output : w'.output = v'.output

section
variable {P : Program} {F : FuncId → Bool} {S T : Nat → Prop} {w : World}
theorem see_veil (S : Nat → Prop) (w : World) : Veil (fun k => ∃ o, w.heap[k]? = some o ∧ ¬ (isNum o = true ∨ (S k ∧ isBad o = false))) w (see S w) w := by
  refine ⟨see_size S w, Nat.le_refl _, fun k hk => ?_, fun k hk => ?_, fun k o hk => ?_, rfl, rfl, rfl, rfl⟩
  · rw [see_at]
    cases hw : w.heap[k]? with
    | none => rfl
    | some o =>
      rw [Option.map_some, if_pos (Classical.byContradiction fun hn => hk ⟨o, hw, hn⟩)]
  · obtain ⟨o, hw, hn⟩ := hk
    refine ⟨o, hw, hw, ?_, ?_⟩
    · rw [see_at, hw, Option.map_some, if_neg hn]
    · cases ho : isNum o with
      | false => rfl
      | true => exact absurd (.inl ho) hn
  · rw [see_at] at hk
    cases hw : w.heap[k]? with
    | none => rw [hw] at hk; cases hk
    | some q =>
      rw [hw, Option.map_some] at hk
      injection hk with hk
      split at hk
      · rename_i hc
        rw [← hk]
        rcases hc with hc | hc
        · cases q <;> first | rfl | (simp [isNum] at hc)
        · exact hc.2
      · rw [← hk]; exact bad_dead q

theorem calls_see (hall : ∀ g, F g = true → bodyPlain P F g = true) {f : FuncId} (hF : F f = true) {args : Array Value} {R : Ending → World → Prop} (h : Calls P f args (see S w) R) (hR : ∀ e u, R e u → ∃ x, e = .returned x)
    (hST : ∀ k, S k → ¬ T k) (hT : ∀ k, T k → k < w.heap.size) : Calls P f args w fun e w' => ∃ v' S' T', R e v' ∧ Seen S T w v' w' S' T' := by
  refine (calls_veil hall hF h hR (see_veil S w)).mono ?_
  rintro e w' ⟨v', hr, hv⟩
  have hDd : ∀ k, (∃ o, w.heap[k]? = some o ∧ ¬ (isNum o = true ∨ (S k ∧ isBad o = false))) → w'.heap[k]? = w.heap[k]? := fun k hk => by
    obtain ⟨o, h1, h2, _⟩ := hv.dead k hk
    rw [h1, h2]
  have hreal : ∀ (k : Nat) (o : Obj), v'.heap[k]? = some o → isReal o = true → ¬ (∃ o, w.heap[k]? = some o ∧ ¬ (isNum o = true ∨ (S k ∧ isBad o = false))) := fun k o hk hro hD => by
    obtain ⟨q, h1, h2, h3, _⟩ := hv.dead k hD
    rw [hk] at h3
    injection h3 with h3
    rw [h3, real_dead] at hro
    cases hro
  refine ⟨v', fun k => k < w'.heap.size ∧ (S k ∨ w.heap.size ≤ k ∨ ∃ o, w.heap[k]? = some o ∧ isNum o = true), fun k => T k ∧ ¬ ∃ o, w.heap[k]? = some o ∧ isNum o = true, hr, ?_⟩
  refine ⟨⟨by rw [see_size, hv.size]; exact Nat.le_refl _, fun k o _ hk hro => ?_⟩, hv.size, ⟨?_, fun k o _ hk hro => ?_⟩, fun k hs ht => ?_, fun k ht => ht.1, fun k hk => hk.1, fun k hk he => ?_, hv.os.symm, hv.tape.symm, hv.output.symm⟩
  · have hnD := hreal k o hk hro
    have hw' : w'.heap[k]? = some o := (hv.live k hnD).symm.trans hk
    have hlt := (Array.getElem?_eq_some_iff.1 hw').1
    refine see_in hw' ⟨hlt, ?_⟩ (real_good hro).1
    by_cases hlw : k < w.heap.size
    · have hw : w.heap[k]? = some w.heap[k] := Array.getElem?_eq_getElem hlw
      by_cases hn : isNum w.heap[k] = true
      · exact .inr (.inr ⟨_, hw, hn⟩)
      · have := Classical.byContradiction fun hq => hnD ⟨_, hw, hq⟩
        rcases this with h1 | h1
        · exact absurd h1 hn
        · exact .inl h1.1
    · exact .inr (.inl (by omega))
  · rw [see_size, see_size]; exact hv.grow
  · have hw := (see_le (lo := 0) T w).real k o (Nat.zero_le _) hk hro
    have hg := real_good hro
    have hTk : T k := by
      rw [see_at, hw, Option.map_some] at hk
      injection hk with hk
      split at hk
      · rename_i hc
        rcases hc with hc | hc
        · rw [hg.2] at hc; cases hc
        · exact hc.1
      · rw [← hk, real_dead] at hro; cases hro
    have hD : ∃ o, w.heap[k]? = some o ∧ ¬ (isNum o = true ∨ (S k ∧ isBad o = false)) := ⟨o, hw, fun hc => by
      rcases hc with hc | hc
      · rw [hg.2] at hc; cases hc
      · exact hST k hc.1 hTk⟩
    refine see_in ((hDd k hD).trans hw) ⟨hTk, fun ⟨q, hq, hn⟩ => ?_⟩ hg.1
    rw [hw] at hq
    injection hq with hq
    rw [← hq, hg.2] at hn
    cases hn
  · rcases hs.2 with h1 | h1 | h1
    · exact hST k h1 ht.1
    · have := hT k ht.1; omega
    · exact ht.2 h1
  · by_cases hD : ∃ o, w.heap[k]? = some o ∧ ¬ (isNum o = true ∨ (S k ∧ isBad o = false))
    · exact hDd k hD
    · rw [← hv.live k hD, he]
      rw [see_at, Array.getElem?_eq_getElem hk, Option.map_some, if_pos (Classical.byContradiction fun hq => hD ⟨_, Array.getElem?_eq_getElem hk, hq⟩)]
end
end Go.Proofs.Ytjchobncmogcpaa
