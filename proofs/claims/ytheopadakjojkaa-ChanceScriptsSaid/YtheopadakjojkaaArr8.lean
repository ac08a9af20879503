/- An argument of eight numbers, opened. -/
import Derived.Test.YtheopadakjojkaaFrame
namespace Go.Proofs.Ytheopadakjojkaa
open Go.ChangeShapes Go.WideShapes Go.ChangeAt Go.RowKit

theorem okWide_array {P : Program} {w : World} {r : Reach} {base : Nat} {t : TypeId} {v : Value} {n : Nat} {e : TypeId} (ht : P.underlying t = some (.array n e)) (h : Value.okWide P w r base t v) : ∃ cs, v = .agg cs ∧ cs.size = P.cellsOf t := by
  simp only [Value.okWide, ht] at h
  obtain ⟨cs, h1, h2, _⟩ := h
  exact ⟨cs, h1, h2⟩

/-- Eight numbers. -/
def rep8 : Rep (List Int) where
  size := 8
  holds _ _ cs l := l.length = 8 ∧ cs = l.map (Value.int .i64)
  len := by rintro _ _ _ _ ⟨h, rfl⟩; simpa using h
  one := by
    rintro _ _ _ _ ⟨h, rfl⟩ u hu
    obtain ⟨x, _, rfl⟩ := List.mem_map.1 hu
    rfl
  keep := by rintro _ _ _ _ _ _ h _; exact h
theorem opens_arr8 {P : Program} {t e : TypeId} (ht : P.underlying t = some (.array 8 e)) (hce : P.cellsOf e = 1) (hc : P.cellsOf t = 8) (he : P.underlying e = some (.int .i64)) : Opens P t rep8 := by
  intro H enc W fuel cs x h
  obtain ⟨xs, n, _, _, hl, hxl, hf⟩ := DataW.trod_array ht h
  rw [hc] at hl
  have hat : ∀ k (hk : k < cs.length), ∃ y, cs[k] = .int .i64 y := by
    intro k hk
    have g := hf k (by omega)
    rw [hce, List.getElem?_eq_getElem (by omega)] at g
    obtain ⟨y, hy, _, _⟩ := DataW.trod_int he g
    refine ⟨y, ?_⟩
    rw [Nat.mul_one, List.drop_eq_getElem_cons hk, List.take_succ_cons, List.take_zero] at hy
    injection hy
  have hall : ∀ (l : List Value), (∀ k (hk : k < l.length), ∃ y, l[k] = .int .i64 y) → ∃ m : List Int, l = m.map (Value.int .i64) := by
    intro l
    induction l with
    | nil => intro _; exact ⟨[], rfl⟩
    | cons v l ih =>
      intro h
      obtain ⟨m, hm⟩ := ih fun k hk => by
        have := h (k + 1) (by simpa using hk)
        simpa using this
      obtain ⟨y, hy⟩ := h 0 (by simp)
      have hy : v = .int .i64 y := by simpa using hy
      exact ⟨y :: m, by rw [hm, hy]; rfl⟩
  obtain ⟨m, hm⟩ := hall cs hat
  exact ⟨m, by rw [hm] at hl; simpa using hl, hm⟩
theorem rep8_agg {w : World} {S : Nat → Prop} {cs : Array Value} {l : List Int} (h : rep8.holds w S (Value.agg cs).cells.toList l) :
    ∃ a b c d e f i j : Int, Value.agg cs = .agg #[.int .i64 a, .int .i64 b, .int .i64 c, .int .i64 d, .int .i64 e, .int .i64 f, .int .i64 i, .int .i64 j] := by
  obtain ⟨hl, hcs⟩ := h
  obtain ⟨cs⟩ := cs
  have hcs : cs = l.map (Value.int .i64) := hcs
  match l, hl with
  | [a, b, c, d, e, f, i, j], _ => exact ⟨a, b, c, d, e, f, i, j, by rw [hcs]; rfl⟩
end Go.Proofs.Ytheopadakjojkaa
