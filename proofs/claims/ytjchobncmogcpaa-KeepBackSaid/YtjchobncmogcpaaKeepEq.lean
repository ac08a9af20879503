/- The walks of the comparisons of runs, on both sides. -/
import Derived.Test.YtjchobncmogcpaaKeepP2
namespace Go.Proofs.Ytjchobncmogcpaa
open Go.RowKit

/-- Both are the same as far as was looked. -/
def UpTo' {α : Type} (xs ys : List α) (k : Nat) : Prop := ∀ j, j < k → xs[j]? = ys[j]?
theorem upTo_succ {α : Type} {xs ys : List α} {k : Nat} {x y : α} (h : UpTo' xs ys k) (hx : xs[k]? = some x) (hy : ys[k]? = some y) (e : x = y) : UpTo' xs ys (k + 1) := fun j hj => by
  rcases Nat.lt_or_ge j k with h1 | h1
  · exact h j h1
  · obtain rfl : j = k := by omega
    rw [hx, hy, e]
theorem upTo_eq {α : Type} {xs ys : List α} {k : Nat} (h : UpTo' xs ys k) (hx : xs.length = k) (hy : ys.length = k) : xs = ys := List.ext_getElem? fun j => by
  rcases Nat.lt_or_ge j k with h1 | h1
  · exact h j h1
  · rw [List.getElem?_eq_none (by omega), List.getElem?_eq_none (by omega)]
theorem ne_at {α : Type} {xs ys : List α} {k : Nat} {x y : α} (hx : xs[k]? = some x) (hy : ys[k]? = some y) (e : x ≠ y) : xs ≠ ys := fun h => by
  subst h
  rw [hx] at hy
  injection hy with hy
  exact e hy
theorem ed_ext {x y : Ed} (h1 : (x.kind == y.kind) = true) (h2 : (x.at_ == y.at_) = true) (h3 : ((x.b.toNat : Int) == (y.b.toNat : Int)) = true) : x = y := by
  cases x; cases y
  simp only [beq_iff_eq, Ed.mk.injEq] at h1 h2 h3 ⊢
  exact ⟨h1, h2, UInt8.toNat_inj.1 (by omega)⟩
theorem ed_ne {x y : Ed} (h : (x.kind == y.kind) = false ∨ (x.at_ == y.at_) = false ∨ ((x.b.toNat : Int) == (y.b.toNat : Int)) = false) : x ≠ y := fun e => by
  subst e
  simp at h
theorem bool_cases (b : Bool) : b = true ∨ b = false := by cases b <;> simp
open Classical in
/-- Are they the same? -/
noncomputable def eqB {α : Type} (x y : α) : Bool := decide (x = y)
open Classical in
theorem eqB_t {α : Type} {x y : α} (h : x = y) : eqB x y = true := decide_eq_true h
open Classical in
theorem eqB_f {α : Type} {x y : α} (h : x ≠ y) : eqB x y = false := decide_eq_false h
open Classical in
theorem eqB_of {α : Type} {x y : α} (h : eqB x y = true) : x = y := of_decide_eq_true h
open Classical in
theorem eqB_ne {α : Type} {x y : α} (h : eqB x y = false) : x ≠ y := of_decide_eq_false h
theorem eqB_dec {α : Type} (x y : α) [Decidable (x = y)] : decide (x = y) = eqB x y := by unfold eqB; exact decide_eq_decide.2 Iff.rfl
/-- Its own answer: a drawn world. -/
def Drawn (w w' : World) : Prop := ∃ k, w' = w.drewN k
set_option maxRecDepth 100000
section
set_option maxHeartbeats 1000000 in
theorem eqU64_any (v u : Value) (xs ys : List Int) (w : World) (h : IsSlice (repInt .u64) w (all w) v xs) (h' : IsSlice (repInt .u64) w (all w) u ys) :
    Calls Try.prog 104 #[v, u] w fun e w' => e = .returned (.bool (eqB xs ys)) ∧ Drawn w w' := by
  obtain ⟨A, n, c, rfl, hnc, hcm, hrow⟩ := h
  obtain ⟨A', n', c', rfl, hnc', hcm', hrow'⟩ := h'
  have hn := hrow.1
  have hn' := hrow'.1
  obtain ⟨R, hR⟩ : ∃ R, R = eqB xs ys := ⟨_, rfl⟩
  rw [← hR]
  have HR := hid hR
  clear hR
  by_cases hl : ((n : Int) != (n' : Int)) = true
  · have hf : eqB xs ys = false := eqB_f fun e => by subst e; simp [← hn, hn'] at hl
    have HF := hid hf
    clear hf hrow hrow' hn hn'
    go_enter Try.func104, Try.ntmps104
    go_wp2
    go_ret
    exact ⟨ret_bool (by rw [HR.out, HF.out]), 0, rfl⟩
  · obtain rfl : n = n' := by simp at hl; omega
    have HN := hid hn
    have HN' := hid hn'
    clear hn hn' hl
    have hmax : n ≤ 9223372036854775807 := by unfold maxLen at hcm; omega
    go_enter Try.func104, Try.ntmps104
    go_wp2
    go_loopw [13] (fun i wr => ∃ k : Nat, k ≤ n ∧ i = .int .i64 k ∧ Wall (UpTo' xs ys k) ∧ ∃ d, wr = w.drewN d) (fun i _ => n - (intOf i).toNat)
    case atStart => exact ⟨0, Nat.zero_le _, rfl, hid fun j hj => absurd hj (by omega), 0, rfl⟩
    case round =>
      obtain ⟨k, hk, rfl, HUP, d, rfl⟩ := hrel
      by_cases hlt : k < n
      · obtain ⟨b, off, x, rfl, _, hx, hcx, _⟩ := hrow.int hlt
        obtain ⟨b2, off2, y, rfl, _, hy, hcy, _⟩ := hrow'.int hlt
        have HX := hid hx
        have HY := hid hy
        clear hx hy
        by_cases hxy : (x != y) = true
        · have HF := hid (eqB_f (ne_at HX.out HY.out (by simpa using hxy)))
          go_wp2
          go_quiet (fail)
          go_wp2
          go_ret
          exact ⟨ret_bool (by rw [HR.out, HF.out]), _, by first | exact World.drewN_drewN _ _ _ | rfl⟩
        · have hxy : (x != y) = false := by simpa using hxy
          go_wp2
          go_quiet (fail)
          go_wp2
          go_roundw
          case rel => exact ⟨k + 1, by omega, by go_num, hid (upTo_succ HUP.out HX.out HY.out (by simpa using hxy)), _, by first | exact World.drewN_drewN _ _ _ | rfl⟩
          case measure => simp [intOf]; omega
      · obtain rfl : k = n := by omega
        have HF := hid (eqB_t (upTo_eq HUP.out HN.out HN'.out))
        go_wp2
        go_ret
        exact ⟨ret_bool (by rw [HR.out, HF.out]), _, rfl⟩
set_option maxHeartbeats 1000000 in
theorem eqEd_any (v u : Value) (xs ys : List Ed) (w : World) (h : IsSlice repEd w (all w) v xs) (h' : IsSlice repEd w (all w) u ys) :
    Calls Try.prog 142 #[v, u] w fun e w' => e = .returned (.bool (eqB xs ys)) ∧ Drawn w w' := by
  obtain ⟨A, n, c, rfl, hnc, hcm, hrow⟩ := h
  obtain ⟨A', n', c', rfl, hnc', hcm', hrow'⟩ := h'
  have hn := hrow.1
  have hn' := hrow'.1
  obtain ⟨R, hR⟩ : ∃ R, R = eqB xs ys := ⟨_, rfl⟩
  rw [← hR]
  have HR := hid hR
  clear hR
  by_cases hl : ((n : Int) != (n' : Int)) = true
  · have hf : eqB xs ys = false := eqB_f fun e => by subst e; simp [← hn, hn'] at hl
    have HF := hid hf
    clear hf hrow hrow' hn hn'
    go_enter Try.func142, Try.ntmps142
    go_wp2
    go_ret
    exact ⟨ret_bool (by rw [HR.out, HF.out]), 0, rfl⟩
  · obtain rfl : n = n' := by simp at hl; omega
    have HN := hid hn
    have HN' := hid hn'
    clear hn hn' hl
    have hmax : n ≤ 9223372036854775807 := by unfold maxLen at hcm; omega
    go_enter Try.func142, Try.ntmps142
    go_wp2
    go_loopw [13] (fun i wr => ∃ k : Nat, k ≤ n ∧ i = .int .i64 k ∧ Wall (UpTo' xs ys k) ∧ ∃ d, wr = w.drewN d) (fun i _ => n - (intOf i).toNat)
    case atStart => exact ⟨0, Nat.zero_le _, rfl, hid fun j hj => absurd hj (by omega), 0, rfl⟩
    case round =>
      obtain ⟨k, hk, rfl, HUP, d, rfl⟩ := hrel
      by_cases hlt : k < n
      · obtain ⟨b, off, x, rfl, _, hx, x0, x1, x2⟩ := hrow.ed hlt
        obtain ⟨b2, off2, y, rfl, _, hy, y0, y1, y2⟩ := hrow'.ed hlt
        have HX := hid hx
        have HY := hid hy
        clear hx hy
        have hdiff : x ≠ y → Wall (eqB xs ys = false) := fun e => hid (eqB_f (ne_at HX.out HY.out e))
        rcases bool_cases (x.kind == y.kind) with e1 | e1
        · rcases bool_cases (x.at_ == y.at_) with e2 | e2
          · rcases bool_cases ((x.b.toNat : Int) == (y.b.toNat : Int)) with e3 | e3
            · have HE := hid (ed_ext e1 e2 e3)
              clear hdiff
              go_wp2
              go_quiet (fail)
              go_wp2
              go_roundw
              case rel => exact ⟨k + 1, by omega, by go_num, hid (upTo_succ HUP.out HX.out HY.out HE.out), _, by first | exact World.drewN_drewN _ _ _ | rfl⟩
              case measure => simp [intOf]; omega
            · have HF := hdiff (ed_ne (.inr (.inr e3)))
              clear hdiff
              go_wp2
              go_quiet (fail)
              go_wp2
              go_ret
              exact ⟨ret_bool (by rw [HR.out, HF.out]), _, by first | exact World.drewN_drewN _ _ _ | rfl⟩
          · have HF := hdiff (ed_ne (.inr (.inl e2)))
            clear hdiff
            go_wp2
            go_quiet (fail)
            go_wp2
            go_ret
            exact ⟨ret_bool (by rw [HR.out, HF.out]), _, by first | exact World.drewN_drewN _ _ _ | rfl⟩
        · have HF := hdiff (ed_ne (.inl e1))
          clear hdiff
          go_wp2
          go_quiet (fail)
          go_wp2
          go_ret
          exact ⟨ret_bool (by rw [HR.out, HF.out]), _, by first | exact World.drewN_drewN _ _ _ | rfl⟩
      · obtain rfl : k = n := by omega
        have HF := hid (eqB_t (upTo_eq HUP.out HN.out HN'.out))
        go_wp2
        go_ret
        exact ⟨ret_bool (by rw [HR.out, HF.out]), _, rfl⟩
set_option maxHeartbeats 1000000 in
theorem eqEdR_any (v u : Value) (xs ys : List Ed) (w : World) (h : IsSlice repEd w (all w) v xs) (h' : IsSlice repEd w (all w) u ys) :
    Calls Try.prog 103 #[v, u] w fun e w' => e = .returned (.bool (eqB xs ys)) ∧ Drawn w w' := by
  obtain ⟨A, n, c, rfl, hnc, hcm, hrow⟩ := h
  obtain ⟨A', n', c', rfl, hnc', hcm', hrow'⟩ := h'
  have hn := hrow.1
  have hn' := hrow'.1
  obtain ⟨R, hR⟩ : ∃ R, R = eqB xs ys := ⟨_, rfl⟩
  rw [← hR]
  have HR := hid hR
  clear hR
  by_cases hl : ((n : Int) != (n' : Int)) = true
  · have hf : eqB xs ys = false := eqB_f fun e => by subst e; simp [← hn, hn'] at hl
    have HF := hid hf
    clear hf hrow hrow' hn hn'
    go_enter Try.func103, Try.ntmps103
    go_wp2
    go_ret
    exact ⟨ret_bool (by rw [HR.out, HF.out]), 0, rfl⟩
  · obtain rfl : n = n' := by simp at hl; omega
    have HN := hid hn
    have HN' := hid hn'
    clear hn hn' hl
    have hmax : n ≤ 9223372036854775807 := by unfold maxLen at hcm; omega
    go_enter Try.func103, Try.ntmps103
    go_wp2
    go_loopw [5] (fun i wr => ∃ k : Nat, k ≤ n ∧ i = .int .i64 k ∧ Wall (UpTo' xs ys k) ∧ ∃ d, wr = w.drewN d) (fun i _ => n - (intOf i).toNat)
    case atStart => exact ⟨0, Nat.zero_le _, rfl, hid fun j hj => absurd hj (by omega), 0, rfl⟩
    case round =>
      obtain ⟨k, hk, rfl, HUP, d, rfl⟩ := hrel
      by_cases hlt : k < n
      · obtain ⟨b, off, x, rfl, _, hx, x0, x1, x2⟩ := hrow.ed hlt
        obtain ⟨b2, off2, y, rfl, _, hy, y0, y1, y2⟩ := hrow'.ed hlt
        have HX := hid hx
        have HY := hid hy
        clear hx hy
        have hdiff : x ≠ y → Wall (eqB xs ys = false) := fun e => hid (eqB_f (ne_at HX.out HY.out e))
        rcases bool_cases (x.kind == y.kind) with e1 | e1
        · rcases bool_cases (x.at_ == y.at_) with e2 | e2
          · rcases bool_cases ((x.b.toNat : Int) == (y.b.toNat : Int)) with e3 | e3
            · have HE := hid (ed_ext e1 e2 e3)
              clear hdiff
              go_wp2
              go_quiet (fail)
              go_wp2
              go_roundw
              case rel => exact ⟨k + 1, by omega, by go_num, hid (upTo_succ HUP.out HX.out HY.out HE.out), _, by first | exact World.drewN_drewN _ _ _ | rfl⟩
              case measure => simp [intOf]; omega
            · have HF := hdiff (ed_ne (.inr (.inr e3)))
              clear hdiff
              go_wp2
              go_quiet (fail)
              go_wp2
              go_ret
              exact ⟨ret_bool (by rw [HR.out, HF.out]), _, by first | exact World.drewN_drewN _ _ _ | rfl⟩
          · have HF := hdiff (ed_ne (.inr (.inl e2)))
            clear hdiff
            go_wp2
            go_quiet (fail)
            go_wp2
            go_ret
            exact ⟨ret_bool (by rw [HR.out, HF.out]), _, by first | exact World.drewN_drewN _ _ _ | rfl⟩
        · have HF := hdiff (ed_ne (.inl e1))
          clear hdiff
          go_wp2
          go_quiet (fail)
          go_wp2
          go_ret
          exact ⟨ret_bool (by rw [HR.out, HF.out]), _, by first | exact World.drewN_drewN _ _ _ | rfl⟩
      · obtain rfl : k = n := by omega
        have HF := hid (eqB_t (upTo_eq HUP.out HN.out HN'.out))
        go_wp2
        go_ret
        exact ⟨ret_bool (by rw [HR.out, HF.out]), _, rfl⟩
end
end Go.Proofs.Ytjchobncmogcpaa
