/- The timers' law: its example, its comparison. -/
import Derived.Test.YtjchobncmogcpaaTimer2
import Derived.WalkSpells
import Derived.WalkArith
namespace Go.Proofs.Ytjchobncmogcpaa
open Go.RowKit

theorem wf_smallT {x : Int} (h0 : 0 ≤ x) (h : x ≤ 100000) : (Lit.int .i64 x).wf = true := WalkArith.wf_i64 ⟨by omega, by omega⟩
theorem list_apartT {α : Type} {xs ys : List α} {j : Nat} {x y : α} (hx : xs[j]? = some x) (hy : ys[j]? = some y) (h : x ≠ y) : xs ≠ ys := fun e => by
  subst e
  rw [hx] at hy
  injection hy with hy
  exact h hy
def repAct : Rep (Int × Int) := repPair (repInt .i64) (repInt .i64)
theorem RowAt.act {w : World} {S : Nat → Prop} {A n} {xs : List (Int × Int)} (h : RowAt repAct w S A n xs) {k : Nat} (hk : k < n) :
    ∃ b off x, A = some ⟨b, off, none⟩ ∧ S b ∧ xs[k]? = some x ∧ (Lit.int .i64 x.2).wf = true ∧ w.cell? ⟨b, off + k * 2, none⟩ = some (.int .i64 x.1) ∧ w.cell? ⟨b, off + k * 2 + 1, none⟩ = some (.int .i64 x.2) := by
  obtain ⟨b, off, ds, x, hA, hb, hx, ⟨c, d, rfl, ⟨rfl, _⟩, ⟨rfl, hw⟩⟩, hc⟩ := h.get hk
  exact ⟨b, off, x, hA, hb, hx, hw, hc 0 (by simp), hc 1 (by simp)⟩
set_option maxRecDepth 100000
section
theorem numT_any (x : Int) (w : World) : Calls Try.prog 43 #[.int .i64 x] w fun e w' => e = .returned (.int .i64 x) ∧ w = w' := by
  go_enter Try.func43, Try.ntmps43
  go_wp2
  go_ret
  exact ⟨rfl, rfl⟩
theorem sameInts_any (v u : Value) (xs ys : List Int) (w : World) (h1 : IsSlice (repInt .i64) w (all w) v xs) (h2 : IsSlice (repInt .i64) w (all w) u ys) :
    Calls Try.prog 44 #[v, u] w fun e w' => e = .returned (.bool (decide (xs = ys))) ∧ Ext w w' := by
  obtain ⟨A, n, c, rfl, hnc, hcm, hr1⟩ := h1
  obtain ⟨B, m, d, rfl, hmd, hdm, hr2⟩ := h2
  have hn := hr1.1
  have hm := hr2.1
  have hmax : n ≤ 9223372036854775807 := by unfold maxLen at hcm; omega
  by_cases hl : n = m
  · subst hl
    obtain ⟨R, hR⟩ : ∃ R, R = decide (xs = ys) := ⟨_, rfl⟩
    rw [← hR]
    have HR := hid hR
    have HN := hid hn
    have HM := hid hm
    clear hn hm hR
    have hnn : ((n : Int) != (n : Int)) = false := by simp
    go_enter Try.func44, Try.ntmps44
    go_wp2
    go_loopw [5] (fun i wr => ∃ k : Nat, k ≤ n ∧ i = .int .i64 k ∧ Wall (xs.take k = ys.take k) ∧ ∃ d, wr = w.drewN d) (fun i _ => n - (intOf i).toNat)
    case atStart => exact ⟨0, Nat.zero_le _, rfl, hid rfl, 0, rfl⟩
    case round =>
      obtain ⟨k, hk, rfl, hE, d, rfl⟩ := hrel
      by_cases hlt : k < n
      · obtain ⟨b1, o1, x, rfl, _, hx, hc1, _⟩ := hr1.int hlt
        obtain ⟨b2, o2, y, rfl, _, hy, hc2, _⟩ := hr2.int hlt
        have HX := hid hx
        have HY := hid hy
        clear hx hy
        by_cases hxy : x = y
        · subst hxy
          have hB : (x != x) = false := by simp
          go_wp2
          go_quiet (fail)
          go_wp2
          go_roundw
          case rel =>
            refine ⟨k + 1, by omega, by go_num, hid ?_, _, by first | exact World.drewN_drewN _ _ _ | rfl⟩
            rw [take_succ_of HX.out, take_succ_of HY.out, hE.out]
          case measure => simp [intOf]; omega
        · have hB : (x != y) = true := by simpa using hxy
          have hR1 : R = false := by rw [HR.out]; exact decide_eq_false (list_apartT HX.out HY.out hxy)
          have HR1 := hid hR1
          clear hR1
          go_wp2
          go_quiet (fail)
          go_wp2
          go_ret
          exact ⟨ret_bool HR1.out.symm, Ext.trans (ext_drewN _ _) (ext_drewN _ _)⟩
      · obtain rfl : k = n := by omega
        have hR1 : R = true := by
          rw [HR.out]
          refine decide_eq_true ?_
          have := hE.out
          rwa [List.take_of_length_le (by rw [HN.out]; exact Nat.le_refl _), List.take_of_length_le (by rw [HM.out]; exact Nat.le_refl _)] at this
        have HR1 := hid hR1
        clear hR1
        go_wp2
        go_ret
        exact ⟨ret_bool HR1.out.symm, ext_drewN _ _⟩
  · have hne : ((n : Int) != (m : Int)) = true := by simp; omega
    have hR : decide (xs = ys) = false := decide_eq_false (fun e => hl (by rw [← hn, ← hm, e]))
    rw [hR]
    clear hn hm hR hl
    go_enter Try.func44, Try.ntmps44
    go_wp2
    go_ret
    exact ⟨rfl, Below.refl _ _⟩
def liveT : Nat → List Tm
  | 0 => [⟨7, 1, 1⟩]
  | k + 1 => tickT 4 (liveT k)
def liveA : Nat → List Int
  | 0 => []
  | k + 1 => liveA k ++ if (dueT (liveT k)).length = 1 then [(k : Int) + 1] else []
theorem liveT_ok : ∀ k, TmOk 4 (liveT k)
  | 0 => ⟨by simp [liveT, Asc], fun t ht => by simp [liveT] at ht; subst ht; exact ⟨by decide, by decide, by decide, by decide⟩⟩
  | k + 1 => tickT_ok (by decide) (liveT_ok k)
theorem liveT_len : ∀ k, (liveT k).length = 1
  | 0 => rfl
  | k + 1 => by show (tickT 4 (liveT k)).length = 1; unfold tickT; rw [List.length_map]; exact liveT_len k
theorem liveA_len : ∀ k, (liveA k).length ≤ k
  | 0 => Nat.le_refl _
  | k + 1 => by
    have := liveA_len k
    show (liveA k ++ _).length ≤ k + 1
    rw [List.length_append]
    split <;> simp <;> omega
theorem liveA_is : liveA 11 = [1, 3, 7, 11] := by decide +kernel
set_option maxHeartbeats 1000000 in
theorem tmLive_any (w : World) : Calls Try.prog 40 #[] w fun e w' => e = .returned (.bool true) ∧ Ext w w' := by
  have HSI := hid (fun (w1 : World) (v u : Value) (h1 : IsSlice (repInt .i64) w1 (all w1) v (liveA 11)) (h2 : IsSlice (repInt .i64) w1 (all w1) u [1, 3, 7, 11]) => sameInts_any v u (liveA 11) [1, 3, 7, 11] w1 h1 h2)
  rw [decide_eq_true liveA_is] at HSI
  go_enter Try.func40, Try.ntmps40
  go_wp2_with (first
    | (go_at_call 41; refine (tmNew_yes w 4 (by decide) (by decide)).mono ?_; rintro e w1 ⟨gt, b, rfl, hgt, hbb, ht1, hx1⟩)
    | (go_at_call 47; refine (tmSet_any w1 gt b 4 [] ht1 (by simp [Asc]) 7).mono ?_; rintro e w2 ⟨rfl, ht2, ho2⟩))
  have hx2 : Ext w w2 := ho2.ext_new hx1 hbb
  have hlt := ht2.lt
  have ht3 : TmAt w2 gt b 4 (liveT 0) := ht2
  have HT := hid ht3
  clear ht1 ht2 ht3 ho2
  go_loopw [3, 4] (fun v i wr => ∃ k : Nat, k ≤ 11 ∧ i = .int .i64 ((k : Int) + 1) ∧ TmAt wr gt b 4 (liveT k) ∧ Own (repInt .i64) 3 w2.heap.size wr v (liveA k) ∧ Ext w wr ∧ w2.heap.size ≤ wr.heap.size) (fun _ i _ => 12 - (intOf i).toNat)
  case atStart => exact ⟨0, Nat.zero_le _, rfl, HT.out, own_nil _ _ _ _, hx2, Nat.le_refl _⟩
  case round =>
    obtain ⟨k, hk, rfl, ht, hown, hxr, hsz⟩ := hrel
    by_cases hlt2 : k < 11
    · have HTK := hid (tmTick_any wr gt b 4 (liveT k) ht (liveT_ok k) (by rw [liveT_len]; decide) (by decide))
      have hAl := liveA_len k
      have hA1 : liveA (k + 1) = liveA k ++ if (dueT (liveT k)).length = 1 then [(k : Int) + 1] else [] := rfl
      have hT1 : liveT (k + 1) = tickT 4 (liveT k) := rfl
      rw [← hT1] at HTK
      obtain ⟨dl, hdl⟩ : ∃ dl, dl = (dueT (liveT k)).length := ⟨_, rfl⟩
      rw [← hdl] at hA1
      have HA1 := hid hA1
      have HDL := hid hdl
      have HOW := hid hown
      have hbl : ∀ q, u3.ownBlock = some q → w2.heap.size ≤ q := fun q hq => (hown.lt q hq).1
      have HBL := hid hbl
      have hltk : decide ((k : Int) + 1 < 12) = true := decide_eq_true (by omega)
      clear hdl hA1 hT1 ht hown hbl
      by_cases hd1 : dl = 1
      · have hd := HA1.out
        rw [if_pos hd1] at hd
        have HD := hid hd
        have hB : ((dl : Int) == 1) = true := by simp [hd1]
        clear hd hd1
        go_wp2_with (first
          | (go_at_call 45; refine HTK.out.mono ?_; rintro e w3 ⟨u, rfl, hu, ht3, ho3⟩; obtain ⟨Au, cu, rfl⟩ := hu.shape; rw [← HDL.out]; have hown3 := HOW.out.out (X := fun q => q = b) (Out.of_only ho3 rfl) (fun q hq => by omega); have hsz3 := Nat.le_trans hsz ho3.size)
          | (at_builtin; refine wpl_app1 (r := repInt .i64) (base := w2.heap.size) (x := (k : Int) + 1) (cs := #[.int .i64 ((k : Int) + 1)]) _ _ rfl rfl Try.underlying26 info_intM (by decide) hown3 rfl rfl rfl ⟨rfl, wf_smallT (by omega) (by omega)⟩ (by omega) (by simp only [maxLen]; omega) hsz3 ?_; intro v4 w4 hown4 hg4))
        go_roundw
        case rel =>
          refine ⟨k + 1, by omega, by go_num, ht3.kept hg4 (fun e => by have := hown3.lt _ e.symm; omega) (fun e => by have := hown3.lt _ e.symm; omega), by rw [HD.out]; exact hown4, Below.grown (ho3.ext_new hxr hbb) hg4 (by have := hx2.size; omega) (fun q hq => by have := hown3.lt q hq; have := hx2.size; omega), Nat.le_trans hsz3 hg4.size⟩
        case measure => simp [intOf]; omega
      · have hd := HA1.out
        rw [if_neg hd1, List.append_nil] at hd
        have HD := hid hd
        have hB : ((dl : Int) == 1) = false := by simp; omega
        clear hd
        go_wp2_with (first
          | (go_at_call 45; refine HTK.out.mono ?_; rintro e w3 ⟨u, rfl, hu, ht3, ho3⟩; obtain ⟨Au, cu, rfl⟩ := hu.shape; rw [← HDL.out]; have hown3 := HOW.out.out (X := fun q => q = b) (Out.of_only ho3 rfl) (fun q hq => by omega); have hsz3 := Nat.le_trans hsz ho3.size))
        go_roundw
        case rel =>
          exact ⟨k + 1, by omega, by go_num, ht3, by rw [HD.out]; exact hown3, ho3.ext_new hxr hbb, hsz3⟩
        case measure => simp [intOf]; omega
    · obtain rfl : k = 11 := by omega
      clear hlt2
      go_wp2_with (first
        | (go_at_call 43; refine (numT_any 0 _).mono ?_; rintro e w3 ⟨rfl, rfl⟩)
        | (go_at_call 44; refine (HSI.out _ _ _ (hown.slice.ext (ext_alloc _ _)) (isSlice_lits (r := repInt .i64) (xs := [1, 3, 7, 11]) (us := [.int .i64 1, .int .i64 3, .int .i64 7, .int .i64 11]) rfl ⟨⟨rfl, by decide⟩, ⟨rfl, by decide⟩, ⟨rfl, by decide⟩, ⟨rfl, by decide⟩, trivial⟩ (by simp [maxLen]) rfl rfl)).mono ?_; rintro e w4 ⟨rfl, hx4⟩))
      go_ret
      exact ⟨rfl, Ext.trans (Ext.trans hxr (ext_alloc _ _)) hx4⟩
end
end Go.Proofs.Ytjchobncmogcpaa
