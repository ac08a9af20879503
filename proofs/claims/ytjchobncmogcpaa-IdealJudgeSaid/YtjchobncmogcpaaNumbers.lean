/- numbers -/
import Derived.Test.YtjchobncmogcpaaRows
import Derived.Test.YtjchobncmogcpaaApi
namespace Go.Proofs.Ytjchobncmogcpaa
open Go.RowKit

theorem info_int : ElemInfo Try.prog 3 1 8 := elemInfo (z := .int .i64 0) (by kernel_rfl) rfl

/-- The numbers of the events of a kind. -/
def numsFrom (kind : Int) : Nat → List Ev → List Int
  | _, [] => []
  | k, x :: l => if x.kind = kind then (k : Int) :: numsFrom kind (k + 1) l else numsFrom kind (k + 1) l
def nums (l : List Ev) (kind : Int) : List Int := numsFrom kind 0 l

theorem numsFrom_snoc (kind : Int) (x : Ev) : ∀ (l : List Ev) (k : Nat), numsFrom kind k (l ++ [x]) = numsFrom kind k l ++ if x.kind = kind then [((k + l.length : Nat) : Int)] else []
  | [], k => by simp [numsFrom]
  | y :: l, k => by
    have := numsFrom_snoc kind x l (k + 1)
    simp only [List.cons_append, numsFrom, this, List.length_cons]
    rw [show k + 1 + l.length = k + (l.length + 1) from by omega]
    split <;> simp
theorem numsFrom_le (kind : Int) : ∀ (l : List Ev) (k : Nat), (numsFrom kind k l).length ≤ l.length
  | [], _ => by simp [numsFrom]
  | y :: l, k => by
    have := numsFrom_le kind l (k + 1)
    simp only [numsFrom]
    split <;> simp <;> omega
theorem nums_step (kind : Int) {l : List Ev} {k : Nat} {x : Ev} (h : l[k]? = some x) : nums (l.take (k + 1)) kind = nums (l.take k) kind ++ if x.kind = kind then [(k : Int)] else [] := by
  have := lt_of_get h
  unfold nums
  rw [take_succ_of h, numsFrom_snoc]
  simp [List.length_take, Nat.min_eq_left (Nat.le_of_lt this)]
theorem nums_len (kind : Int) (l : List Ev) (k : Nat) : (nums (l.take k) kind).length ≤ l.length :=
  Nat.le_trans (numsFrom_le kind _ 0) (by simp; omega)

set_option maxRecDepth 100000 in
set_option maxHeartbeats 400000 in
theorem numbers_any (v : Value) (xs : List Ev) (kind : Int) (w : World) (h : IsSlice repEv w (all w) v xs) (hl : xs.length ≤ 1000) :
    Calls Try.prog 149 #[v, .int .i64 kind] w fun e w' => ∃ u, e = .returned u ∧ IsSlice (repInt .i64) w' (fresh w w') u (nums xs kind) ∧ Ext w w' := by
  obtain ⟨A, n, c, rfl, hnc, hcm, hrow⟩ := h
  have hn := hrow.1
  have hnb : n ≤ 1000 := by omega
  have HN := hid hn
  clear hn
  go_enter Try.func149, Try.ntmps149
  go_wp2
  go_loopw [5, 10] (fun u i wr => ∃ k : Nat, k ≤ n ∧ i = .int .i64 k ∧ Own (repInt .i64) 3 w.heap.size wr u (nums (xs.take k) kind) ∧ Ext w wr) (fun _ i _ => n - (intOf i).toNat)
  case atStart => exact ⟨0, Nat.zero_le _, rfl, own_nil _ _ _ _, Below.refl _ _⟩
  case round =>
    obtain ⟨k, hk, rfl, hown, hext⟩ := hrel
    have hL := nums_len kind xs k
    by_cases hlt : k < n
    · obtain ⟨b, off, x, A', m, c', rfl, hb, hx, hm1, hm2, hd, c0, c1, c2, c3⟩ := (hrow.ext hext).ev hlt
      have HS := hid (nums_step kind hx)
      clear hx
      go_wp2_with (at_builtin; refine wpl_app1 (r := repInt .i64) (x := (k : Int)) _ _ rfl rfl Try.underlying26 info_int (by decide) (hown.ext (ext_alloc _ _)) rfl rfl (by simp) ⟨rfl, WalkArith.wf_i64 (by omega)⟩ (by omega) (by simp only [maxLen]; omega) (by have := hext.size; simp; omega) ?_; intro v' w1 hown1 hg1)
      · have he : (x.kind == kind) = true := by assumption
        go_roundw
        case rel => exact ⟨k + 1, by omega, by go_num, by rw [HS.out, if_pos (by simpa using he)]; exact hown1, Below.grown (hext.trans (ext_alloc _ _)) hg1 (by have := hext.size; simp; omega) (fun j hj => (hown.lt j hj).1)⟩
        case measure => simp [intOf]; omega
      · have he : (x.kind == kind) = false := by assumption
        go_roundw
        case rel => exact ⟨k + 1, by omega, by go_num, by rw [HS.out, if_neg (by simpa using he), List.append_nil]; exact hown.ext (ext_alloc _ _), hext.trans (ext_alloc _ _)⟩
        case measure => simp [intOf]; omega
    · go_wp2
      go_ret
      have hkn : k = xs.length := by have := HN.out; omega
      exact ⟨_, rfl, by subst hkn; rw [List.take_length] at hown; exact hown.fresh, hext⟩
end Go.Proofs.Ytjchobncmogcpaa
