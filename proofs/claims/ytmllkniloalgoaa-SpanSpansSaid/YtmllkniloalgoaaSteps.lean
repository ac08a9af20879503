/- The walks of span's steps and outcomes. -/
import Derived.Deep.RegionHeld3
import Derived.Deep.RegionLaw
import Derived.Deep.DeepCutAuto
import Derived.Test.YtmllkniloalgoaaOfR
import Derived.Test.YtmllkniloalgoaaMap
import Derived.Test.YtmllkniloalgoaaObj
namespace Go.Proofs.Ytmllkniloalgoaa
open Go.RowKit

def stepE (x : Ev) : Int := min (max x.step 0) 2147483648
theorem stepE_in (x : Ev) : 0 ≤ stepE x ∧ stepE x ≤ 2147483648 := by unfold stepE; omega
def stepsOf (l : List Ev) (kind : Int) : List Int := (l.filter fun x => decide (x.kind = kind)).map stepE
theorem stepsOf_step {l : List Ev} {kind : Int} {k : Nat} {x : Ev} (h : l[k]? = some x) : stepsOf (l.take (k + 1)) kind = stepsOf (l.take k) kind ++ if x.kind = kind then [stepE x] else [] := by
  unfold stepsOf
  rw [take_succ_of h, List.filter_append, List.map_append]
  congr 1
  by_cases hk : x.kind = kind
  · simp [hk]
  · simp [hk]
theorem stepsOf_len (l : List Ev) (kind : Int) (k : Nat) : (stepsOf (l.take k) kind).length ≤ l.length := by
  unfold stepsOf
  rw [List.length_map]
  exact Nat.le_trans (List.length_filter_le _ _) (by simp; omega)
def stepAt (l : List Ev) (i : Int) : Int := ((l[i.toNat]?).map stepE).getD 0
theorem stepAt_nat {l : List Ev} {i : Nat} {x : Ev} (h : l[i]? = some x) : stepAt l i = stepE x := by simp [stepAt, h]
theorem stepsOf_nums (l : List Ev) (kind : Int) : stepsOf l kind = (nums l kind).map (stepAt l) := by
  have key : ∀ (r : List Ev) (k : Nat) (g : Int → Int), (∀ (j : Nat) (x : Ev), r[j]? = some x → g ((k + j : Nat) : Int) = stepE x) → (numsFrom kind k r).map g = stepsOf r kind := by
    intro r
    induction r with
    | nil => intro k g _; rfl
    | cons y r ih =>
      intro k g hg
      have h0 : g (k : Int) = stepE y := by simpa using hg 0 y (by simp)
      have hr := ih (k + 1) g (fun j x hx => by
        have := hg (j + 1) x (by simpa using hx)
        rwa [show k + (j + 1) = k + 1 + j from by omega] at this)
      simp only [numsFrom]
      by_cases hk : y.kind = kind
      · rw [if_pos hk, List.map_cons, h0, hr]
        simp [stepsOf, hk]
      · rw [if_neg hk, hr]
        simp [stepsOf, hk]
  exact (key l 0 (stepAt l) (fun j x hx => by
    rw [Nat.zero_add]
    exact stepAt_nat hx)).symm
/-- When the outcome of a place was told first. -/
def isOut (x : Ev) (p : Int) : Bool := decide ((x.kind = 3 ∨ x.kind = 4) ∧ x.place = p)
def toldF (l : List Ev) (p : Int) : Option Int := (l.find? fun x => isOut x p).map stepE
theorem toldF_step {l : List Ev} {k : Nat} {x : Ev} (h : l[k]? = some x) (p : Int) : toldF (l.take (k + 1)) p = (toldF (l.take k) p).or (if isOut x p then some (stepE x) else none) := by
  unfold toldF
  rw [take_succ_of h, List.find?_append]
  cases hf : (l.take k).find? (fun x => isOut x p) with
  | some y => simp
  | none =>
    simp only [Option.none_or, Option.map_none]
    by_cases hi : isOut x p = true
    · simp [hi]
    · simp [hi]

set_option maxRecDepth 100000
section
theorem step_any (x : Ev) (u : Value) (w : World) :
    Calls Try.prog 34 #[.agg #[.int .i64 x.step, .int .i64 x.kind, .int .i64 x.place, u]] w fun e w' => e = .returned (.int .i64 (stepE x)) ∧ Ext w w' := by
  by_cases h0 : x.step < 0
  · have hs : stepE x = 0 := by unfold stepE; omega
    rw [hs]
    go_enter Try.func34, Try.ntmps34
    go_wp2
    go_ret
    exact ⟨ret_int (by first | rfl | omega), ext_alloc _ _⟩
  · by_cases h1 : 2147483648 < x.step
    · have hs : stepE x = 2147483648 := by unfold stepE; omega
      rw [hs]
      go_enter Try.func34, Try.ntmps34
      go_wp2
      go_ret
      exact ⟨ret_int (by first | rfl | omega), ext_alloc _ _⟩
    · have hs : stepE x = x.step := by unfold stepE; omega
      rw [hs]
      go_enter Try.func34, Try.ntmps34
      go_wp2
      go_ret
      exact ⟨ret_int (by first | rfl | omega), ext_alloc _ _⟩
theorem stepR_any (x : Ev) (u : Value) (w : World) :
    Calls Try.prog 31 #[.agg #[.int .i64 x.step, .int .i64 x.kind, .int .i64 x.place, u]] w fun e w' => e = .returned (.int .i64 (stepE x)) ∧ Ext w w' := by
  by_cases h0 : x.step < 0
  · have hs : stepE x = 0 := by unfold stepE; omega
    rw [hs]
    go_enter Try.func31, Try.ntmps31
    go_wp2
    go_ret
    exact ⟨rfl, ext_alloc _ _⟩
  · by_cases h1 : 2147483648 < x.step
    · have hs : stepE x = 2147483648 := by unfold stepE; omega
      rw [hs]
      go_enter Try.func31, Try.ntmps31
      go_wp2
      go_ret
      exact ⟨rfl, ext_alloc _ _⟩
    · have hs : stepE x = x.step := by unfold stepE; omega
      rw [hs]
      go_enter Try.func31, Try.ntmps31
      go_wp2
      go_ret
      exact ⟨rfl, ext_alloc _ _⟩
set_option maxHeartbeats 800000 in
theorem steps_any (v : Value) (xs : List Ev) (kind : Int) (w : World) (h : IsSlice repEv w (all w) v xs) (hl : xs.length ≤ 1000) :
    Calls Try.prog 25 #[v, .int .i64 kind] w fun e w' => ∃ u, e = .returned u ∧ IsSlice (repInt .i64) w' (fresh w w') u (stepsOf xs kind) ∧ Ext w w' := by
  obtain ⟨A, n, c, rfl, hnc, hcm, hrow⟩ := h
  have hn := hrow.1
  have hnb : n ≤ 1000 := by omega
  have HN := hid hn
  clear hn
  go_enter Try.func25, Try.ntmps25
  go_wp2
  go_loopw [5, 10] (fun u i wr => ∃ k : Nat, k ≤ n ∧ i = .int .i64 k ∧ Own (repInt .i64) 3 w.heap.size wr u (stepsOf (xs.take k) kind) ∧ Ext w wr) (fun _ i _ => n - (intOf i).toNat)
  case atStart => exact ⟨0, Nat.zero_le _, rfl, own_nil _ _ _ _, Below.refl _ _⟩
  case round =>
    obtain ⟨k, hk, rfl, hown, hext⟩ := hrel
    have hL := hid (stepsOf_len xs kind k)
    by_cases hlt : k < n
    · obtain ⟨b, off, x, A', m, c', rfl, hb, hx, hm1, hm2, hd, c0, c1, c2, c3⟩ := (hrow.ext hext).ev hlt
      have HS := hid (stepsOf_step (kind := kind) hx)
      have hst := fun w1 => step_any x (.slice A' m c') w1
      have hin := stepE_in x
      have HIN := hid hin
      clear hx hd hin
      by_cases hkd : x.kind = kind
      · have hke : (x.kind == kind) = true := by simpa using hkd
        rw [if_pos hkd] at HS
        generalize stepE x = se at *
        generalize x.kind = kd at *
        have HST := hid hst
        clear hst hkd
        go_wp2_with fail
        refine (HST.out _).mono ?_
        rintro r w2 ⟨rfl, hx2⟩
        have hx02 := Ext.of_alloc hx2
        have hown2 := hown.ext hx02
        have hext2 := Ext.trans hext hx02
        go_wp2_with (at_builtin; refine wpl_app1 (r := repInt .i64) (base := w.heap.size) (x := se) _ _ rfl rfl Try.underlying22 info_int (by decide) hown2 rfl rfl rfl ⟨rfl, WalkArith.wf_i64 (by have := HIN.out; omega)⟩ (by have := hL.out; have := HN.out; omega) (by have := hL.out; have := HN.out; simp only [maxLen]; omega) hext2.size ?_; intro v' w3 hown3 hg3)
        go_roundw
        case rel => exact ⟨k + 1, by omega, by go_num, by rw [HS.out]; exact hown3, Below.grown hext2 hg3 hext2.size (fun j hj => (hown2.lt j hj).1)⟩
        case measure => simp [intOf]; omega
      · have hke : (x.kind == kind) = false := by simpa using hkd
        rw [if_neg hkd, List.append_nil] at HS
        clear hst hkd
        go_wp2
        go_roundw
        case rel => exact ⟨k + 1, by omega, by go_num, by rw [HS.out]; exact hown.ext (ext_alloc _ _), hext.trans (ext_alloc _ _)⟩
        case measure => simp [intOf]; omega
    · go_wp2
      go_ret
      have hkn : k = xs.length := by have := HN.out; omega
      exact ⟨_, rfl, by subst hkn; rw [List.take_length] at hown; exact hown.fresh, hext⟩
end
end Go.Proofs.Ytmllkniloalgoaa
