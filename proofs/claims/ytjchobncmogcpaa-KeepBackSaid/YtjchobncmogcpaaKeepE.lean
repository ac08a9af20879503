/- The readers' small steps, each with both its ends; a struct stored into the midst of a block; what a run reads as. -/
import Derived.Test.YtjchobncmogcpaaKeepCh
import Derived.Test.YtjchobncmogcpaaKeepPuts
namespace Go.Proofs.Ytjchobncmogcpaa
open Go.RowKit

section
variable {X : Nat → Prop} {g : Nat} {w w' : World} {e : Ending} {s : St} {P : Value → Prop}
theorem Ends.parts (h : Ends X g w w' e s P) : (Wall (s = none) ∧ e = shortP ∧ Only g w w') ∨ (∃ b' v, Wall (s = some b') ∧ e = .returned v ∧ P v ∧ RdAt X w' g b' ∧ Only g w w') := by
  cases s with
  | none => exact .inl ⟨hid rfl, h.1, h.2⟩
  | some b' =>
    obtain ⟨v, h1, h2, h3, h4⟩ := h
    exact .inr ⟨b', v, hid rfl, h1, h2, h3, h4⟩
theorem Ends.no (hs : s = none) (he : e = shortP) (ho : Only g w w') : Ends X g w w' e s P := by subst hs; exact ⟨he, ho⟩
theorem Ends.ok {b' : List UInt8} {v : Value} (hs : s = some b') (he : e = .returned v) (hP : P v) (hr : RdAt X w' g b') (ho : Only g w w') : Ends X g w w' e s P := by subst hs; exact ⟨v, he, hP, hr, ho⟩
theorem ktake_e (X : Nat → Prop) (w : World) (g n : Nat) (b : List UInt8) (h : RdAt X w g b) :
    Calls Try.prog 136 #[.pointer (some ⟨g, 0, none⟩), .int .i64 (n : Int)] w fun e w' => Ends X g w w' e (tkS n (some b)).2 fun v => IsSlice repByte w' (fresh w w') v (tkS n (some b)).1 := by
  cases hs : (tkS n (some b)).2 with
  | none => exact (ktake_no X w g n b h hs).mono fun _ _ h => h
  | some b' => exact (ktake_ok X w g n b b' h hs).mono fun _ _ ⟨u, h1, h2, h3, h4⟩ => ⟨u, h1, h2, h3, h4⟩
theorem knumber_e (X : Nat → Prop) (w : World) (g : Nat) (b : List UInt8) (h : RdAt X w g b) :
    Calls Try.prog 138 #[.pointer (some ⟨g, 0, none⟩)] w fun e w' => Ends X g w w' e (wideS (some b)).2 fun v => v = .int .u64 ((wideS (some b)).1 : Nat) := by
  cases hs : (wideS (some b)).2 with
  | none => exact (knumber_no X w g b h hs).mono fun _ _ h => h
  | some b' => exact (knumber_ok X w g b b' h hs).mono fun _ _ ⟨h1, h2, h3⟩ => ⟨_, h1, rfl, h2, h3⟩
theorem kplain_e (X : Nat → Prop) (w : World) (g : Nat) (b : List UInt8) (h : RdAt X w g b) :
    Calls Try.prog 137 #[.pointer (some ⟨g, 0, none⟩)] w fun e w' => Ends X g w w' e (plainS (some b)).2 fun v => v = .int .i64 (plainS (some b)).1 := by
  cases hs : (plainS (some b)).2 with
  | none => exact (kplain_no X w g b h hs).mono fun _ _ h => h
  | some b' => exact (kplain_ok X w g b b' h hs).mono fun _ _ ⟨h1, h2, h3⟩ => ⟨_, h1, rfl, h2, h3⟩
theorem kcount_e (X : Nat → Prop) (w : World) (g m : Nat) (b : List UInt8) (h : RdAt X w g b) (hm : m ≤ 1000) :
    Calls Try.prog 139 #[.pointer (some ⟨g, 0, none⟩), .int .i64 (m : Int)] w fun e w' => Ends X g w w' e (cntS m (some b)).2 fun v => v = .int .i64 ((cntS m (some b)).1 : Nat) := by
  cases hs : (cntS m (some b)).2 with
  | none => exact (kcount_no X w g m b h hm hs).mono fun _ _ h => h
  | some b' => exact (kcount_ok X w g m b b' h hm hs).mono fun _ _ ⟨h1, h2, h3⟩ => ⟨_, h1, rfl, h2, h3⟩
end

/-! ### A struct into the midst of a block -/
theorem set_take_drop {α : Type} (v : α) : ∀ (l : List α) (o : Nat) (r : List α), o < l.length →
    (l.set o v).take (o + 1) ++ r ++ (l.set o v).drop (o + 1 + r.length) = l.take o ++ (v :: r) ++ l.drop (o + (r.length + 1)) := by
  intro l o r ho
  have h1 : (l.set o v).take (o + 1) = l.take o ++ [v] := by
    apply List.ext_getElem?
    intro i
    rw [List.getElem?_take, List.getElem?_append, List.getElem?_set, List.getElem?_take]
    simp only [List.length_take]
    by_cases h : i < o
    · rw [if_pos (by omega), if_neg (by omega), if_pos (by omega), if_pos h]
    · by_cases h2 : i = o
      · subst h2
        rw [if_pos (by omega), if_pos rfl, if_pos ho, if_neg (by omega)]
        have : i - min i l.length = 0 := by omega
        rw [this]; rfl
      · rw [if_neg (by omega), if_neg (by omega)]
        rw [List.getElem?_eq_none (by simp; omega)]
  have h2 : (l.set o v).drop (o + 1 + r.length) = l.drop (o + (r.length + 1)) := by
    rw [show o + 1 + r.length = o + (r.length + 1) from by omega]
    rw [List.drop_set, if_pos (by omega)]
  rw [h1, h2]
  simp
theorem Blk.setCells {g : Nat} {t : TypeId} : ∀ (vs : List Value) (o : Nat) (w : World) (old : List Value), Blk w g t old.toArray → o + vs.length ≤ old.length →
    Blk (w.setCells g o vs) g t (old.take o ++ vs ++ old.drop (o + vs.length)).toArray
  | [], o, w, old, h, _ => by simpa [World.setCells] using h
  | v :: r, o, w, old, h, hl => by
    rw [World.setCells]
    have h1 := h.set_ o v
    simp only [List.setIfInBounds_toArray] at h1
    have h2 := Blk.setCells r (o + 1) _ _ h1 (by simp at hl ⊢; omega)
    rw [set_take_drop v old o r (by simp at hl; omega)] at h2
    simpa using h2
theorem only_setCells (g : Nat) : ∀ (vs : List Value) (o : Nat) (w : World), Only g w (w.setCells g o vs)
  | [], _, _ => Only.refl _ _
  | v :: r, o, w => by
    rw [World.setCells]
    exact ((Only.refl g w).set_ o v).trans (only_setCells g r (o + 1) _)
section
variable {P : Program} {w : World} {ops : Array Oper} {rest : List Oper} {o : Oper} {a : Act} {Q : Exit → Act → World → Prop}
theorem wpl_mid {ty t : TypeId} {g k : Nat} {old : List Value} {cs : Array Value} (x y : Operand) (hgd : o.guard = none) (ho : o.op = .store ty x y) (hx : a.eval x = .pointer (some ⟨g, k, none⟩)) (hy : a.eval y = .agg cs)
    (hb : Blk w g t old.toArray) (hl : k + cs.size ≤ old.length) (hi : (P.info? ty).map (·.size) = some cs.size) (h1 : cs.all (·.oneCell') = true)
    (h : ∀ w', Blk w' g t (old.take k ++ cs.toList ++ old.drop (k + cs.size)).toArray → Only g w w' → wpList P ops Q rest (a.put o.dst undef) w') : wpList P ops Q (o :: rest) a w :=
  wpList_store_mid hgd ty x y ho g k cs hx hy (fun j hj => ⟨by
    rw [hb.cell]
    simp
    omega, hb.frozen _⟩) hi h1 (h _ (by have := Blk.setCells cs.toList k w old hb (by simpa using hl); simpa using this) (only_setCells g _ _ _))
end

/-- What a whole run reads as. -/
def runS (b : List UInt8) : KRun × St :=
  let s0 := tkS 2 (some b)
  let a1 := plainS s0.2
  let a2 := plainS a1.2
  let a3 := plainS a2.2
  let a4 := plainS a3.2
  let a5 := plainS a4.2
  let a6 := plainS a5.2
  let a7 := wideS a6.2
  let n := cntS 200 a7.2
  let d := drawsS n.1 [] n.2
  let m := cntS 500 d.2
  let c := chsS m.1 [] m.2
  (⟨a1.1, a2.1, a3.1, a4.1, a5.1, a6.1, (a7.1 : Int), d.1, c.1⟩, if s0.1 = magicB then (if c.2 = some [] then some [] else none) else none)
end Go.Proofs.Ytjchobncmogcpaa
