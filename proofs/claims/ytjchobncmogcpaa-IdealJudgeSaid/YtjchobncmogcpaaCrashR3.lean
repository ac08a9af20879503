/- The walk of judge.Crashed. -/
import Derived.Test.YtjchobncmogcpaaOfR3
import Derived.Test.YtjchobncmogcpaaAloneR3
namespace Go.Proofs.Ytjchobncmogcpaa
open Go.RowKit

/-- Is this event a crash of that station between those two? -/
def hit (x : Ev) (i f t who : Int) : Bool := decide (x.kind = 5 ∧ (who < 0 ∨ x.place = who) ∧ f < i ∧ i < t)
def crFrom (f t who : Int) : Nat → List Ev → Bool
  | _, [] => false
  | k, x :: l => hit x k f t who || crFrom f t who (k + 1) l
def crB (l : List Ev) (f t who : Int) : Bool := crFrom f t who 0 l
theorem crFrom_yes (f t who : Int) : ∀ (l : List Ev) (k j : Nat) (x : Ev), l[j]? = some x → hit x ((k + j : Nat) : Int) f t who = true → crFrom f t who k l = true
  | [], _, _, _, h, _ => by simp at h
  | y :: l, k, 0, x, h, hh => by simp at h; subst h; simp [crFrom, show hit y k f t who = true from hh]
  | y :: l, k, j + 1, x, h, hh => by
    rw [crFrom, crFrom_yes f t who l (k + 1) j x (by simpa using h) (by rw [show k + 1 + j = k + (j + 1) from by omega]; exact hh), Bool.or_true]
theorem crFrom_no (f t who : Int) : ∀ (l : List Ev) (k : Nat), (∀ (j : Nat) (x : Ev), l[j]? = some x → hit x ((k + j : Nat) : Int) f t who = false) → crFrom f t who k l = false
  | [], _, _ => rfl
  | y :: l, k, h => by
    rw [crFrom, show hit y k f t who = false from h 0 y (by simp), Bool.false_or]
    exact crFrom_no f t who l (k + 1) fun j x hj => by
      rw [show k + 1 + j = k + (j + 1) from by omega]
      exact h (j + 1) x (by simpa using hj)
theorem crB_yes {l : List Ev} {f t who : Int} {j : Nat} {x : Ev} (h : l[j]? = some x) (hh : hit x j f t who = true) : crB l f t who = true := crFrom_yes f t who l 0 j x h (by simpa using hh)
theorem crB_no {l : List Ev} {f t who : Int} (h : ∀ (j : Nat) (x : Ev), l[j]? = some x → hit x j f t who = false) : crB l f t who = false := crFrom_no f t who l 0 fun j x hj => by simpa using h j x hj
def NoHit (l : List Ev) (f t who : Int) (k : Nat) : Prop := ∀ (j : Nat) (x : Ev), j < k → l[j]? = some x → hit x j f t who = false
theorem noHit_step {l : List Ev} {f t who : Int} {k : Nat} {x : Ev} (h : NoHit l f t who k) (hx : l[k]? = some x) (hh : hit x k f t who = false) : NoHit l f t who (k + 1) := by
  intro j y hj hy
  rcases Nat.lt_or_ge j k with h1 | h1
  · exact h j y h1 hy
  · obtain rfl : j = k := by omega
    rw [hx] at hy
    injection hy with e
    subst e
    exact hh

set_option maxRecDepth 100000
section
set_option maxHeartbeats 800000 in
theorem crashed_any (v : Value) (xs : List Ev) (f t who : Int) (w : World) (h : IsSlice repEv w (all w) v xs) :
    Calls Try.prog 116 #[v, .int .i64 f, .int .i64 t, .int .i64 who] w fun e w' => e = .returned (.bool (crB xs f t who)) ∧ Ext w w' := by
  obtain ⟨A, n, c, rfl, hnc, hcm, hrow⟩ := h
  have hn := hrow.1
  have hmax : n ≤ 9223372036854775807 := by unfold maxLen at hcm; omega
  have HN := hid hn
  clear hn
  go_enter Try.func116, Try.ntmps116
  go_wp2
  go_loopw [13] (fun i wr => ∃ k : Nat, k ≤ n ∧ i = .int .i64 k ∧ NoHit xs f t who k ∧ Ext w wr) (fun i _ => n - (intOf i).toNat)
  case atStart => exact ⟨0, Nat.zero_le _, rfl, fun _ _ h => absurd h (by omega), Below.refl _ _⟩
  case round =>
    obtain ⟨k, hk, rfl, hno, hext⟩ := hrel
    have HNO := hid hno
    clear hno
    by_cases hlt : k < n
    · obtain ⟨b, off, x, A', m, c', rfl, hx, hd, hdl, c0, c1, c2, c3⟩ := hrow.evE hext hlt
      have HX := hid hx
      clear hx hdl
      go_wp2
      all_goals first
        | (go_ret; exact ⟨ret_bool (crB_yes HX.out (decide_eq_true (by omega))).symm, Ext.trans hext (ext_alloc _ _)⟩)
        | (go_roundw
           case rel => exact ⟨k + 1, by omega, by go_num, noHit_step HNO.out HX.out (decide_eq_false (by first | omega | (simp_all only [beq_eq_false_iff_ne]; omega))), Ext.trans hext (ext_alloc _ _)⟩
           case measure => simp [intOf]; omega)
    · go_wp2
      go_ret
      exact ⟨ret_bool (crB_no fun j x hj => HNO.out j x (by have := lt_of_get hj; have := HN.out; omega) hj).symm, hext⟩

end
end Go.Proofs.Ytjchobncmogcpaa
