/- The walks of chance's weights. -/
import Derived.Test.YtheopadakjojkaaDice
namespace Go.Proofs.Ytheopadakjojkaa
open Go.RowKit

/-- The sum of the weights, 0 where one of them may not be. -/
def sumG : List Int → Int → Int
  | [], s => s
  | x :: r, s => if x < 0 ∨ 1000 < x then 0 else sumG r (s + x)
/-- The kind at a place. -/
def kindG : List Int → Int → Int → Int
  | [], _, _ => 0
  | x :: r, n, k => if n < x then k else kindG r (n - x) (k + 1)
abbrev w8 (a b c d e f g h : Int) : Value := .agg #[.int .i64 a, .int .i64 b, .int .i64 c, .int .i64 d, .int .i64 e, .int .i64 f, .int .i64 g, .int .i64 h]
theorem sum_bad {x s : Int} {r : List Int} (h : x < 0 ∨ 1000 < x) : sumG (x :: r) s = 0 := by simp only [sumG, if_pos h]
theorem sum_good {x s : Int} {r : List Int} (h : ¬ (x < 0 ∨ 1000 < x)) : sumG (x :: r) s = sumG r (s + x) := by simp only [sumG, if_neg h]
theorem get_all {l : List Int} {k : Nat} (h : k < l.length) : ∃ x, l[k]? = some x ∧ l.drop k = x :: l.drop (k + 1) := ⟨l[k], List.getElem?_eq_getElem h, List.drop_eq_getElem_cons h⟩

theorem lt8 {k : Nat} (h : k < 8) : k = 0 ∨ k = 1 ∨ k = 2 ∨ k = 3 ∨ k = 4 ∨ k = 5 ∨ k = 6 ∨ k = 7 := by omega
theorem w8_get {a b c d e f g h x : Int} {k : Nat} (hx : [a, b, c, d, e, f, g, h][k]? = some x) : (#[.int .i64 a, .int .i64 b, .int .i64 c, .int .i64 d, .int .i64 e, .int .i64 f, .int .i64 g, .int .i64 h] : Array Value)[k]? = some (.int .i64 x) := by
  have : (#[.int .i64 a, .int .i64 b, .int .i64 c, .int .i64 d, .int .i64 e, .int .i64 f, .int .i64 g, .int .i64 h] : Array Value)[k]? = ([a, b, c, d, e, f, g, h].map (Value.int .i64))[k]? := by simp
  rw [this, List.getElem?_map, hx]
  rfl
theorem idx_any {a b c d e f g h x : Int} {k : Nat} (hx : [a, b, c, d, e, f, g, h][k]? = some x) (w : World) :
    (Instr.index 76 (.agg #[.int .i64 a, .int .i64 b, .int .i64 c, .int .i64 d, .int .i64 e, .int .i64 f, .int .i64 g, .int .i64 h]) (.int .i64 k)).run Try.prog w = .ok (.int .i64 x) w := by
  have h0 : ∀ w : World, (Instr.index 76 (.agg #[.int .i64 a, .int .i64 b, .int .i64 c, .int .i64 d, .int .i64 e, .int .i64 f, .int .i64 g, .int .i64 h]) (.int .i64 0)).run Try.prog w = .ok (.int .i64 a) w := fun _ => by kernel_rfl
  have h1 : ∀ w : World, (Instr.index 76 (.agg #[.int .i64 a, .int .i64 b, .int .i64 c, .int .i64 d, .int .i64 e, .int .i64 f, .int .i64 g, .int .i64 h]) (.int .i64 1)).run Try.prog w = .ok (.int .i64 b) w := fun _ => by kernel_rfl
  have h2 : ∀ w : World, (Instr.index 76 (.agg #[.int .i64 a, .int .i64 b, .int .i64 c, .int .i64 d, .int .i64 e, .int .i64 f, .int .i64 g, .int .i64 h]) (.int .i64 2)).run Try.prog w = .ok (.int .i64 c) w := fun _ => by kernel_rfl
  have h3 : ∀ w : World, (Instr.index 76 (.agg #[.int .i64 a, .int .i64 b, .int .i64 c, .int .i64 d, .int .i64 e, .int .i64 f, .int .i64 g, .int .i64 h]) (.int .i64 3)).run Try.prog w = .ok (.int .i64 d) w := fun _ => by kernel_rfl
  have h4 : ∀ w : World, (Instr.index 76 (.agg #[.int .i64 a, .int .i64 b, .int .i64 c, .int .i64 d, .int .i64 e, .int .i64 f, .int .i64 g, .int .i64 h]) (.int .i64 4)).run Try.prog w = .ok (.int .i64 e) w := fun _ => by kernel_rfl
  have h5 : ∀ w : World, (Instr.index 76 (.agg #[.int .i64 a, .int .i64 b, .int .i64 c, .int .i64 d, .int .i64 e, .int .i64 f, .int .i64 g, .int .i64 h]) (.int .i64 5)).run Try.prog w = .ok (.int .i64 f) w := fun _ => by kernel_rfl
  have h6 : ∀ w : World, (Instr.index 76 (.agg #[.int .i64 a, .int .i64 b, .int .i64 c, .int .i64 d, .int .i64 e, .int .i64 f, .int .i64 g, .int .i64 h]) (.int .i64 6)).run Try.prog w = .ok (.int .i64 g) w := fun _ => by kernel_rfl
  have h7 : ∀ w : World, (Instr.index 76 (.agg #[.int .i64 a, .int .i64 b, .int .i64 c, .int .i64 d, .int .i64 e, .int .i64 f, .int .i64 g, .int .i64 h]) (.int .i64 7)).run Try.prog w = .ok (.int .i64 h) w := fun _ => by kernel_rfl
  have hk := lt_of_get hx
  rcases lt8 hk with rfl | rfl | rfl | rfl | rfl | rfl | rfl | rfl <;> (simp only [List.getElem?_cons_succ, List.getElem?_cons_zero, Option.some.injEq] at hx; subst hx)
  · exact h0 w
  · exact h1 w
  · exact h2 w
  · exact h3 w
  · exact h4 w
  · exact h5 w
  · exact h6 w
  · exact h7 w

set_option maxRecDepth 100000
section
set_option maxHeartbeats 800000 in
theorem sum_any (a b c d e f g h : Int) (w : World) :
    Calls Try.prog 95 #[w8 a b c d e f g h] w fun e' w' => e' = .returned (.int .i64 (sumG [a, b, c, d, e, f, g, h] 0)) ∧ Ext w w' := by
  have hix := fun (k : Nat) (x : Int) (hx : [a, b, c, d, e, f, g, h][k]? = some x) (w : World) => idx_any hx w
  have HIX := hid hix
  clear hix
  obtain ⟨l, hl⟩ : ∃ l : List Int, l = [a, b, c, d, e, f, g, h] := ⟨_, rfl⟩
  obtain ⟨S, hS⟩ : ∃ S : Int, S = sumG l 0 := ⟨_, rfl⟩
  rw [← hl] at HIX
  rw [← hl, ← hS]
  have HS := hid hS
  have HL := hid hl
  clear hS hl
  go_enter Try.func95, Try.ntmps95
  go_wp2_with fail
  go_loopw [3, 7] (fun s i wr => ∃ (k : Nat) (t : Int), k ≤ 8 ∧ i = .int .i64 k ∧ s = .int .i64 t ∧ 0 ≤ t ∧ t ≤ 1000 * k ∧ sumG (l.drop k) t = S ∧ Ext w wr) (fun _ i _ => 8 - (intOf i).toNat)
  case atStart => exact ⟨0, 0, Nat.zero_le _, rfl, rfl, by omega, by omega, HS.out.symm, ext_alloc _ _⟩
  case round =>
    obtain ⟨k, t, hk, rfl, rfl, ht0, ht1, hsum, hext⟩ := hrel
    have HM := hid hsum
    clear hsum
    by_cases hlt : k < 8
    · obtain ⟨x, hx, hd⟩ := get_all (l := l) (k := k) (by rw [HL.out]; exact hlt)
      have HD := hid hd
      have hi := HIX.out k x hx
      clear hx hd
      by_cases hneg : x < 0
      · go_wp2
        go_ret
        exact ⟨ret_int (by rw [← HM.out, HD.out, sum_bad (Or.inl hneg)]), hext⟩
      · by_cases hbig : 1000 < x
        · go_wp2
          go_ret
          exact ⟨ret_int (by rw [← HM.out, HD.out, sum_bad (Or.inr hbig)]), hext⟩
        · have hsx := sum_good (r := l.drop (k + 1)) (s := t) (x := x) (by omega)
          have HSX := hid hsx
          clear hsx
          go_wp2
          go_roundw
          case rel => exact ⟨k + 1, t + x, by omega, by go_num, by go_num, by omega, by omega, by rw [← HM.out, HD.out, HSX.out], hext⟩
          case measure => simp [intOf]; omega
    · obtain rfl : k = 8 := by omega
      go_wp2
      go_ret
      exact ⟨ret_int (by rw [← HM.out, HL.out]; rfl), hext⟩
theorem kind_any (a b c d e f g h n : Int) (hn : 0 ≤ n) (hn2 : n ≤ 8000) (hw : ∀ x ∈ [a, b, c, d, e, f, g, h], 0 ≤ x ∧ x ≤ 1000) (w : World) :
    Calls Try.prog 109 #[w8 a b c d e f g h, .int .i64 n] w fun e' w' => e' = .returned (.int .i64 (kindG [a, b, c, d, e, f, g, h] n 0)) ∧ Ext w w' := by
  have hix := fun (k : Nat) (x : Int) (hx : [a, b, c, d, e, f, g, h][k]? = some x) (w : World) => idx_any hx w
  have HIX := hid hix
  clear hix
  obtain ⟨l, hl⟩ : ∃ l : List Int, l = [a, b, c, d, e, f, g, h] := ⟨_, rfl⟩
  obtain ⟨S, hS⟩ : ∃ S : Int, S = kindG l n 0 := ⟨_, rfl⟩
  rw [← hl] at HIX hw
  rw [← hl, ← hS]
  have HS := hid hS
  have HL := hid hl
  have HW := hid hw
  clear hS hl hw
  go_enter Try.func109, Try.ntmps109
  go_wp2_with fail
  go_loopw [1, 8] (fun s i wr => ∃ (k : Nat) (t : Int), k ≤ 8 ∧ i = .int .i64 k ∧ s = .int .i64 t ∧ 0 ≤ t ∧ t ≤ 8000 ∧ kindG (l.drop k) t k = S ∧ Ext w wr) (fun _ i _ => 8 - (intOf i).toNat)
  case atStart => exact ⟨0, n, Nat.zero_le _, rfl, rfl, hn, hn2, HS.out.symm, ext_alloc _ _⟩
  case round =>
    obtain ⟨k, t, hk, rfl, rfl, ht0, ht1, hsum, hext⟩ := hrel
    have HM := hid hsum
    clear hsum
    by_cases hlt : k < 8
    · obtain ⟨x, hx, hd⟩ := get_all (l := l) (k := k) (by rw [HL.out]; exact hlt)
      have HD := hid hd
      have hi := HIX.out k x hx
      have hx01 := HW.out x (List.mem_of_getElem? hx)
      clear hx hd
      by_cases ht : t < x
      · go_wp2
        go_ret
        exact ⟨ret_int (by rw [← HM.out, HD.out]; simp only [kindG, if_pos ht]), hext⟩
      · have hsx : kindG (x :: l.drop (k + 1)) t k = kindG (l.drop (k + 1)) (t - x) (k + 1) := by simp only [kindG, if_neg ht]
        have HSX := hid hsx
        clear hsx
        go_wp2
        go_roundw
        case rel => exact ⟨k + 1, t - x, by omega, by go_num, by go_num, by omega, by omega, by rw [← HM.out, HD.out, HSX.out]; simp, hext⟩
        case measure => simp [intOf]; omega
    · obtain rfl : k = 8 := by omega
      go_wp2
      go_ret
      exact ⟨ret_int (by rw [← HM.out, HL.out]; rfl), hext⟩
set_option maxHeartbeats 800000 in
theorem sumR_any (a b c d e f g h : Int) (w : World) :
    Calls Try.prog 56 #[w8 a b c d e f g h] w fun e' w' => e' = .returned (.int .i64 (sumG [a, b, c, d, e, f, g, h] 0)) ∧ Ext w w' := by
  have hix := fun (k : Nat) (x : Int) (hx : [a, b, c, d, e, f, g, h][k]? = some x) => (box_cell w #[.int .i64 a, .int .i64 b, .int .i64 c, .int .i64 d, .int .i64 e, .int .i64 f, .int .i64 g, .int .i64 h] 72 k).trans (w8_get hx)
  have HIX := hid hix
  clear hix
  obtain ⟨l, hl⟩ : ∃ l : List Int, l = [a, b, c, d, e, f, g, h] := ⟨_, rfl⟩
  obtain ⟨S, hS⟩ : ∃ S : Int, S = sumG l 0 := ⟨_, rfl⟩
  rw [← hl] at HIX
  rw [← hl, ← hS]
  have HS := hid hS
  have HL := hid hl
  clear hS hl
  go_enter Try.func56, Try.ntmps56
  go_wp2_with fail
  obtain ⟨w1, hw1⟩ : ∃ w1 : World, w1 = w.alloc (.cells #[.int .i64 a, .int .i64 b, .int .i64 c, .int .i64 d, .int .i64 e, .int .i64 f, .int .i64 g, .int .i64 h] 72) := ⟨_, rfl⟩
  have hext : Ext w w1 := by rw [hw1]; exact ext_alloc _ _
  rw [← hw1] at HIX ⊢
  clear hw1
  go_loop [3, 4] (fun s i => ∃ (k : Nat) (t : Int), k ≤ 8 ∧ i = .int .i64 k ∧ s = .int .i64 t ∧ 0 ≤ t ∧ t ≤ 1000 * k ∧ sumG (l.drop k) t = S) (fun _ i => 8 - (intOf i).toNat)
  case atStart => exact ⟨0, 0, Nat.zero_le _, rfl, rfl, by omega, by omega, HS.out.symm⟩
  case round =>
    obtain ⟨k, t, hk, rfl, rfl, ht0, ht1, hsum⟩ := hrel
    have HM := hid hsum
    clear hsum
    by_cases hlt : k < 8
    · obtain ⟨x, hx, hd⟩ := get_all (l := l) (k := k) (by rw [HL.out]; exact hlt)
      have HD := hid hd
      have hi := HIX.out k x hx
      clear hx hd
      by_cases hneg : x < 0
      · go_wp2
        go_ret
        exact ⟨ret_int (by rw [← HM.out, HD.out, sum_bad (Or.inl hneg)]), hext⟩
      · by_cases hbig : 1000 < x
        · go_wp2
          go_ret
          exact ⟨ret_int (by rw [← HM.out, HD.out, sum_bad (Or.inr hbig)]), hext⟩
        · have hsx := sum_good (r := l.drop (k + 1)) (s := t) (x := x) (by omega)
          have HSX := hid hsx
          clear hsx
          go_wp2
          go_round
          case rel => exact ⟨k + 1, t + x, by omega, by go_num, by go_num, by omega, by omega, by rw [← HM.out, HD.out, HSX.out]⟩
          case measure => simp [intOf]; omega
    · obtain rfl : k = 8 := by omega
      go_wp2
      go_ret
      exact ⟨ret_int (by rw [← HM.out, HL.out]; rfl), hext⟩
end
end Go.Proofs.Ytheopadakjojkaa
