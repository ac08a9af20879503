/- The walks of span's Sum, Waits, Most, and of their references'. -/
import Derived.Deep.RegionHeld3
import Derived.Test.YtmllkniloalgoaaRows
import Derived.Test.YtmllkniloalgoaaKit
namespace Go.Proofs.Ytmllkniloalgoaa
open Go.RowKit

/-- A span. -/
structure Sp where
  place : Int
  sent : Int
  ret : Int
  told : Int
def repSp : Rep Sp where
  size := 4
  holds _ _ cs x := cs = [.int .i64 x.place, .int .i64 x.sent, .int .i64 x.ret, .int .i64 x.told]
  len := by rintro _ _ _ _ rfl; rfl
  one := by
    rintro _ _ _ _ rfl u hu
    simp at hu
    rcases hu with rfl | rfl | rfl | rfl <;> rfl
  keep := by rintro _ _ _ _ _ _ rfl _; rfl
theorem RowAt.sp {w : World} {S : Nat → Prop} {A n} {xs : List Sp} (h : RowAt repSp w S A n xs) {k : Nat} (hk : k < n) :
    ∃ b off x, A = some ⟨b, off, none⟩ ∧ S b ∧ xs[k]? = some x ∧
      w.cell? ⟨b, off + k * 4, none⟩ = some (.int .i64 x.place) ∧ w.cell? ⟨b, off + k * 4 + 1, none⟩ = some (.int .i64 x.sent) ∧ w.cell? ⟨b, off + k * 4 + 2, none⟩ = some (.int .i64 x.ret) ∧ w.cell? ⟨b, off + k * 4 + 3, none⟩ = some (.int .i64 x.told) := by
  obtain ⟨b, off, ds, x, hA, hb, hx, rfl, hc⟩ := h.get hk
  exact ⟨b, off, x, hA, hb, hx, hc 0 (by simp), hc 1 (by simp), hc 2 (by simp), hc 3 (by simp)⟩
theorem RowAt.spE {w w' : World} {A n} {xs : List Sp} (h : RowAt repSp w (all w) A n xs) (he : Ext w w') {k : Nat} (hk : k < n) :
    ∃ b off x, A = some ⟨b, off, none⟩ ∧ b < w'.heap.size ∧ xs[k]? = some x ∧
      w'.cell? ⟨b, off + k * 4, none⟩ = some (.int .i64 x.place) ∧ w'.cell? ⟨b, off + k * 4 + 1, none⟩ = some (.int .i64 x.sent) ∧ w'.cell? ⟨b, off + k * 4 + 2, none⟩ = some (.int .i64 x.ret) ∧ w'.cell? ⟨b, off + k * 4 + 3, none⟩ = some (.int .i64 x.told) := (h.ext he).sp hk

def sumStep (p : Int × Int) (x : Int) : Int × Int := if 0 ≤ x ∧ x ≤ 2147483648 then (p.1 + x, p.2 + 1) else p
def sumOf (l : List Int) : Int × Int := l.foldl sumStep (0, 0)
theorem sumOf_step {l : List Int} {k : Nat} {x : Int} (h : l[k]? = some x) : sumOf (l.take (k + 1)) = sumStep (sumOf (l.take k)) x := by
  unfold sumOf
  rw [take_succ_of h, List.foldl_append]
  rfl
def waitOf (x : Sp) : List Int := if 0 ≤ x.ret then [max (x.ret - x.sent) 0] else []
def waitsOf (l : List Sp) : List Int := l.flatMap waitOf
theorem waitsOf_step {l : List Sp} {k : Nat} {x : Sp} (h : l[k]? = some x) : waitsOf (l.take (k + 1)) = waitsOf (l.take k) ++ waitOf x := by
  unfold waitsOf
  rw [take_succ_of h, List.flatMap_append]
  simp
theorem waitsOf_len (l : List Sp) (k : Nat) : (waitsOf (l.take k)).length ≤ k := by
  induction k with
  | zero => simp [waitsOf]
  | succ k ih =>
    rcases Nat.lt_or_ge k l.length with h | h
    · have hk : l[k]? = some l[k] := List.getElem?_eq_getElem h
      rw [waitsOf_step hk, List.length_append]
      have : (waitOf l[k]).length ≤ 1 := by unfold waitOf; split <;> simp
      omega
    · have : l.take (k + 1) = l.take k := by rw [List.take_of_length_le h, List.take_of_length_le (by omega)]
      rw [this]; omega
/-- Sent and returned at steps that are not too great. -/
def Fair (x : Sp) : Prop := 0 ≤ x.sent ∧ x.sent ≤ 1099511627776 ∧ x.ret ≤ 1099511627776
def openB (at_ : Int) (y : Sp) : Bool := decide (y.sent ≤ at_) && (decide (y.ret < 0) || decide (at_ < y.ret))
def cntOf (l : List Sp) (at_ : Int) : Nat := l.countP (openB at_)
theorem cntOf_step {l : List Sp} {k : Nat} {y : Sp} (at_ : Int) (h : l[k]? = some y) : cntOf (l.take (k + 1)) at_ = cntOf (l.take k) at_ + if openB at_ y then 1 else 0 := by
  unfold cntOf
  rw [take_succ_of h, List.countP_append]
  simp [List.countP_cons, List.countP_nil]
theorem cntOf_le (l : List Sp) (at_ : Int) (k : Nat) : cntOf (l.take k) at_ ≤ l.length := Nat.le_trans List.countP_le_length (by simp; omega)
def mostTo (l : List Sp) (k : Nat) : Nat := (l.take k).foldl (fun m x => max m (cntOf l x.sent)) 0
theorem mostTo_step {l : List Sp} {k : Nat} {x : Sp} (h : l[k]? = some x) : mostTo l (k + 1) = max (mostTo l k) (cntOf l x.sent) := by
  unfold mostTo
  rw [take_succ_of h, List.foldl_append]
  rfl

set_option maxRecDepth 100000
section
theorem info_int : ElemInfo Try.prog 3 1 8 := elemInfo (z := .int .i64 0) (by kernel_rfl) rfl
theorem sum_any (v : Value) (xs : List Int) (w : World) (h : IsSlice (repInt .i64) w (all w) v xs) (hl : xs.length ≤ 200) :
    Calls Try.prog 12 #[v] w fun e w' => e = .returned (.tuple #[.int .i64 (sumOf xs).1, .int .i64 (sumOf xs).2]) ∧ w = w' := by
  obtain ⟨A, n, c, rfl, hnc, hcm, hrow⟩ := h
  have hn := hrow.1
  have hmax : n ≤ 200 := by omega
  have HN := hid hn
  clear hn
  go_enter Try.func12, Try.ntmps12
  go_wp2
  go_loop [4, 5, 10] (fun s m i => ∃ (k : Nat) (S M : Int), k ≤ n ∧ i = .int .i64 k ∧ s = .int .i64 S ∧ m = .int .i64 M ∧ 0 ≤ S ∧ S ≤ 2147483648 * k ∧ 0 ≤ M ∧ M ≤ k ∧ Hid (sumOf (xs.take k) = (S, M))) (fun _ _ i => n - (intOf i).toNat)
  case atStart => exact ⟨0, 0, 0, Nat.zero_le _, rfl, rfl, rfl, by omega, by omega, by omega, by omega, hid rfl⟩
  case round =>
    obtain ⟨k, S, M, hk, rfl, rfl, rfl, hS0, hS1, hM0, hM1, HS⟩ := hrel
    by_cases hlt : k < n
    · obtain ⟨b, off, x, rfl, hb, hx, hc, _⟩ := hrow.int hlt
      have HST := hid (sumOf_step hx)
      clear hx
      by_cases h0 : 0 ≤ x
      · by_cases h1 : x ≤ 2147483648
        · go_wp2
          go_round
          case rel => exact ⟨k + 1, S + x, M + 1, by omega, by go_num, by go_num, by go_num, by omega, by omega, by omega, by omega, hid (by rw [HST.out, HS.out]; unfold sumStep; rw [if_pos ⟨h0, h1⟩])⟩
          case measure => simp [intOf]; omega
        · go_wp2
          go_round
          case rel => exact ⟨k + 1, S, M, by omega, by go_num, rfl, rfl, by omega, by omega, by omega, by omega, hid (by rw [HST.out, HS.out]; unfold sumStep; rw [if_neg (by omega)])⟩
          case measure => simp [intOf]; omega
      · go_wp2
        go_round
        case rel => exact ⟨k + 1, S, M, by omega, by go_num, rfl, rfl, by omega, by omega, by omega, by omega, hid (by rw [HST.out, HS.out]; unfold sumStep; rw [if_neg (by omega)])⟩
        case measure => simp [intOf]; omega
    · obtain rfl : k = n := by omega
      have hT : sumOf xs = (S, M) := by rw [← HS.out, List.take_of_length_le (by rw [HN.out]; exact Nat.le_refl _)]
      have HT := hid hT
      clear hT
      go_wp2
      go_ret2
      rw [HT.out]
      exact ⟨rfl, rfl⟩
theorem sumR_any (v : Value) (xs : List Int) (w : World) (h : IsSlice (repInt .i64) w (all w) v xs) (hl : xs.length ≤ 200) :
    Calls Try.prog 13 #[v] w fun e w' => e = .returned (.tuple #[.int .i64 (sumOf xs).1, .int .i64 (sumOf xs).2]) ∧ w = w' := by
  obtain ⟨A, n, c, rfl, hnc, hcm, hrow⟩ := h
  have hn := hrow.1
  have hmax : n ≤ 200 := by omega
  have HN := hid hn
  clear hn
  go_enter Try.func13, Try.ntmps13
  go_wp2
  go_loop [4, 5, 6] (fun s m i => ∃ (k : Nat) (S M : Int), k ≤ n ∧ i = .int .i64 k ∧ s = .int .i64 S ∧ m = .int .i64 M ∧ 0 ≤ S ∧ S ≤ 2147483648 * k ∧ 0 ≤ M ∧ M ≤ k ∧ Hid (sumOf (xs.take k) = (S, M))) (fun _ _ i => n - (intOf i).toNat)
  case atStart => exact ⟨0, 0, 0, Nat.zero_le _, rfl, rfl, rfl, by omega, by omega, by omega, by omega, hid rfl⟩
  case round =>
    obtain ⟨k, S, M, hk, rfl, rfl, rfl, hS0, hS1, hM0, hM1, HS⟩ := hrel
    by_cases hlt : k < n
    · obtain ⟨b, off, x, rfl, hb, hx, hc, _⟩ := hrow.int hlt
      have HST := hid (sumOf_step hx)
      clear hx
      by_cases h0 : 0 ≤ x
      · by_cases h1 : x ≤ 2147483648
        · go_wp2
          go_round
          case rel => exact ⟨k + 1, S + x, M + 1, by omega, by go_num, by go_num, by go_num, by omega, by omega, by omega, by omega, hid (by rw [HST.out, HS.out]; unfold sumStep; rw [if_pos ⟨h0, h1⟩])⟩
          case measure => simp [intOf]; omega
        · go_wp2
          go_round
          case rel => exact ⟨k + 1, S, M, by omega, by go_num, rfl, rfl, by omega, by omega, by omega, by omega, hid (by rw [HST.out, HS.out]; unfold sumStep; rw [if_neg (by omega)])⟩
          case measure => simp [intOf]; omega
      · go_wp2
        go_round
        case rel => exact ⟨k + 1, S, M, by omega, by go_num, rfl, rfl, by omega, by omega, by omega, by omega, hid (by rw [HST.out, HS.out]; unfold sumStep; rw [if_neg (by omega)])⟩
        case measure => simp [intOf]; omega
    · obtain rfl : k = n := by omega
      have hT : sumOf xs = (S, M) := by rw [← HS.out, List.take_of_length_le (by rw [HN.out]; exact Nat.le_refl _)]
      have HT := hid hT
      clear hT
      go_wp2
      go_ret2
      rw [HT.out]
      exact ⟨rfl, rfl⟩

set_option maxHeartbeats 800000 in
theorem waits_any (v : Value) (xs : List Sp) (w : World) (h : IsSlice repSp w (all w) v xs) (hl : xs.length ≤ 60) (hf : ∀ x ∈ xs, Fair x) :
    Calls Try.prog 14 #[v] w fun e w' => ∃ u, e = .returned u ∧ IsSlice (repInt .i64) w' (fresh w w') u (waitsOf xs) ∧ Ext w w' := by
  obtain ⟨A, n, c, rfl, hnc, hcm, hrow⟩ := h
  have hn := hrow.1
  have hmax : n ≤ 60 := by omega
  have HN := hid hn
  have HF := hid hf
  clear hn hf
  go_enter Try.func14, Try.ntmps14
  go_wp2
  go_loopw [3, 8] (fun u i wr => ∃ k : Nat, k ≤ n ∧ i = .int .i64 k ∧ Own (repInt .i64) 3 w.heap.size wr u (waitsOf (xs.take k)) ∧ Ext w wr) (fun _ i _ => n - (intOf i).toNat)
  case atStart => exact ⟨0, Nat.zero_le _, rfl, own_nil _ _ _ _, Below.refl _ _⟩
  case round =>
    obtain ⟨k, hk, rfl, hown, hext⟩ := hrel
    have HL := hid (waitsOf_len xs k)
    by_cases hlt : k < n
    · obtain ⟨b, off, x, rfl, hb, hx, c0, c1, c2, c3⟩ := hrow.spE hext hlt
      have HST := hid (waitsOf_step hx)
      obtain ⟨f1, f2, f3⟩ := HF.out x (List.mem_of_getElem? hx)
      clear hx
      by_cases hr : 0 ≤ x.ret
      · have hw : waitOf x = [max (x.ret - x.sent) 0] := by unfold waitOf; rw [if_pos hr]
        by_cases hgt : x.sent < x.ret
        · have hw2 : waitOf x = [x.ret - x.sent] := by rw [hw, show max (x.ret - x.sent) 0 = x.ret - x.sent from by omega]
          have HW := hid hw2
          clear hw hw2
          go_wp2_with (at_builtin; refine wpl_app1 (r := repInt .i64) (x := x.ret - x.sent) _ _ rfl rfl Try.underlying22 info_int (by decide) (hown.ext (ext_alloc _ _)) rfl rfl (by simp) ⟨rfl, WalkArith.wf_i64 (by omega)⟩ (by have := HL.out; omega) (by have := HL.out; simp only [maxLen]; omega) (by have := hext.size; simp; omega) ?_; intro v' w1 hown1 hg1)
          go_roundw
          case rel => exact ⟨k + 1, by omega, by go_num, by rw [HST.out, HW.out]; exact hown1, Below.grown (hext.trans (ext_alloc _ _)) hg1 (by have := hext.size; simp; omega) (fun j hj => (hown.lt j hj).1)⟩
          case measure => simp [intOf]; omega
        · have hw2 : waitOf x = [if x.ret - x.sent < 0 then 0 else x.ret - x.sent] := by rw [hw]; congr 1; split <;> omega
          have HW := hid hw2
          have hwf : (Lit.int .i64 (if x.ret - x.sent < 0 then 0 else x.ret - x.sent)).wf = true := WalkArith.wf_i64 (by split <;> omega)
          have HWF := hid hwf
          clear hw hw2 hwf
          go_wp2_with (at_builtin; refine wpl_app1 (r := repInt .i64) (x := if x.ret - x.sent < 0 then 0 else x.ret - x.sent) _ _ rfl rfl Try.underlying22 info_int (by decide) (hown.ext (ext_alloc _ _)) rfl rfl (by simp) ⟨rfl, HWF.out⟩ (by have := HL.out; omega) (by have := HL.out; simp only [maxLen]; omega) (by have := hext.size; simp; omega) ?_; intro v' w1 hown1 hg1)
          go_roundw
          case rel => exact ⟨k + 1, by omega, by go_num, by rw [HST.out, HW.out]; exact hown1, Below.grown (hext.trans (ext_alloc _ _)) hg1 (by have := hext.size; simp; omega) (fun j hj => (hown.lt j hj).1)⟩
          case measure => simp [intOf]; omega
      · have hw : waitOf x = [] := by unfold waitOf; rw [if_neg hr]
        have HW := hid hw
        clear hw
        go_wp2
        go_roundw
        case rel => exact ⟨k + 1, by omega, by go_num, by rw [HST.out, HW.out, List.append_nil]; exact hown.ext (ext_alloc _ _), hext.trans (ext_alloc _ _)⟩
        case measure => simp [intOf]; omega
    · go_wp2
      go_ret
      have hkn : k = xs.length := by have := HN.out; omega
      exact ⟨_, rfl, by subst hkn; rw [List.take_length] at hown; exact hown.fresh, hext⟩
set_option maxHeartbeats 800000 in
theorem waitsR_any (v : Value) (xs : List Sp) (w : World) (h : IsSlice repSp w (all w) v xs) (hl : xs.length ≤ 60) (hf : ∀ x ∈ xs, Fair x) :
    Calls Try.prog 15 #[v] w fun e w' => ∃ u, e = .returned u ∧ IsSlice (repInt .i64) w' (fresh w w') u (waitsOf xs) ∧ Ext w w' := by
  obtain ⟨A, n, c, rfl, hnc, hcm, hrow⟩ := h
  have hn := hrow.1
  have hmax : n ≤ 60 := by omega
  have HN := hid hn
  have HF := hid hf
  clear hn hf
  go_enter Try.func15, Try.ntmps15
  go_wp2
  go_loopw [3, 4] (fun u i wr => ∃ k : Nat, k ≤ n ∧ i = .int .i64 k ∧ Own (repInt .i64) 3 w.heap.size wr u (waitsOf (xs.take k)) ∧ Ext w wr) (fun _ i _ => n - (intOf i).toNat)
  case atStart => exact ⟨0, Nat.zero_le _, rfl, own_nil _ _ _ _, Below.refl _ _⟩
  case round =>
    obtain ⟨k, hk, rfl, hown, hext⟩ := hrel
    have HL := hid (waitsOf_len xs k)
    by_cases hlt : k < n
    · obtain ⟨b, off, x, rfl, hb, hx, c0, c1, c2, c3⟩ := hrow.spE hext hlt
      have HST := hid (waitsOf_step hx)
      obtain ⟨f1, f2, f3⟩ := HF.out x (List.mem_of_getElem? hx)
      clear hx
      by_cases hr : x.ret < 0
      · have hw : waitOf x = [] := by unfold waitOf; rw [if_neg (by omega)]
        have HW := hid hw
        clear hw
        go_wp2
        go_roundw
        case rel => exact ⟨k + 1, by omega, by go_num, by rw [HST.out, HW.out, List.append_nil]; exact hown, hext⟩
        case measure => simp [intOf]; omega
      · have hw : waitOf x = [max (x.ret - x.sent) 0] := by unfold waitOf; rw [if_pos (by omega)]
        have hown' := fun k => hown.ext (ext_drewN wr k)
        have HOWN := hid hown'
        by_cases hgt : x.sent < x.ret
        · have hgb : decide (x.sent < x.ret) = true := decide_eq_true hgt
          have hw2 : waitOf x = [x.ret - x.sent] := by rw [hw, show max (x.ret - x.sent) 0 = x.ret - x.sent from by omega]
          have hsub : IntKind.i64.wrap (x.ret - x.sent) = x.ret - x.sent := by rw [IntKind.wrap_i64]; omega
          have HW := hid hw2
          clear hw hw2 hown'
          go_wp2
          go_quiet (fail)
          go_wp2
          go_quiet (fail)
          go_wp2_with (at_builtin; refine wpl_app1 (r := repInt .i64) (x := x.ret - x.sent) _ _ rfl rfl Try.underlying22 info_int (by decide) (HOWN.out _) rfl rfl (by simp) ⟨rfl, WalkArith.wf_i64 (by omega)⟩ (by have := HL.out; omega) (by have := HL.out; simp only [maxLen]; omega) hext.size ?_; intro v' w1 hown1 hg1)
          go_roundw
          case rel => exact ⟨k + 1, by omega, by go_num, by rw [HST.out, HW.out]; exact hown1, Below.grown (below_drewN hext _) hg1 hext.size (fun j hj => (hown.lt j hj).1)⟩
          case measure => simp [intOf]; omega
        · have hgb : decide (x.sent < x.ret) = false := decide_eq_false hgt
          have hw2 : waitOf x = [0] := by rw [hw, show max (x.ret - x.sent) 0 = 0 from by omega]
          have HW := hid hw2
          clear hw hw2 hown'
          go_wp2
          go_quiet (fail)
          go_wp2_with (at_builtin; refine wpl_app1 (r := repInt .i64) (x := 0) _ _ rfl rfl Try.underlying22 info_int (by decide) (HOWN.out _) rfl rfl (by simp) ⟨rfl, WalkArith.wf_i64 (by omega)⟩ (by have := HL.out; omega) (by have := HL.out; simp only [maxLen]; omega) hext.size ?_; intro v' w1 hown1 hg1)
          go_roundw
          case rel => exact ⟨k + 1, by omega, by go_num, by rw [HST.out, HW.out]; exact hown1, Below.grown (below_drewN hext _) hg1 hext.size (fun j hj => (hown.lt j hj).1)⟩
          case measure => simp [intOf]; omega
    · go_wp2
      go_ret
      have hkn : k = xs.length := by have := HN.out; omega
      exact ⟨_, rfl, by subst hkn; rw [List.take_length] at hown; exact hown.fresh, hext⟩
theorem open_any (x : Sp) (at_ : Int) (w : World) :
    Calls Try.prog 23 #[.agg #[.int .i64 x.place, .int .i64 x.sent, .int .i64 x.ret, .int .i64 x.told], .int .i64 at_] w fun e w' => e = .returned (.bool (openB at_ x)) ∧ Ext w w' := by
  unfold openB
  by_cases h1 : x.sent ≤ at_
  · have b1 : decide (x.sent ≤ at_) = true := decide_eq_true h1
    by_cases h2 : x.ret < 0
    · have b2 : decide (x.ret < 0) = true := decide_eq_true h2
      go_enter Try.func23, Try.ntmps23
      go_wp2
      go_ret
      exact ⟨ret_bool (by simp [h1, h2]), ext_alloc _ _⟩
    · by_cases h3 : at_ < x.ret
      · have b3 : decide (at_ < x.ret) = true := decide_eq_true h3
        go_enter Try.func23, Try.ntmps23
        go_wp2
        go_ret
        exact ⟨ret_bool (by simp), ext_alloc _ _⟩
      · go_enter Try.func23, Try.ntmps23
        go_wp2
        go_ret
        exact ⟨ret_bool (by simp [h2, h3]), ext_alloc _ _⟩
  · have b1 : decide (x.sent ≤ at_) = false := decide_eq_false h1
    have HB1 := hid b1
    go_enter Try.func23, Try.ntmps23
    go_wp2
    go_ret
    exact ⟨ret_bool rfl, ext_alloc _ _⟩
end
end Go.Proofs.Ytmllkniloalgoaa
