/- The walk of ChopJoins. -/
import Derived.Test.YtheopadakjojkaaChopR
namespace Go.Proofs.Ytheopadakjojkaa
open Go.RowKit

def IsB (e : Ending) : Prop := ∃ b, e = .returned (.bool b)

set_option maxRecDepth 100000
section
theorem chopHuge_any (v : Value) (xs : List (List UInt8)) (w : World) (h : IsSlice (repSlice repByte) w (all w) v xs) :
    Calls Try.prog 48 #[v] w fun e w' => IsB e ∧ w = w' := by
  obtain ⟨A, n, c, rfl, hnc, hcm, hrow⟩ := h
  have hn := hrow.1
  have hmax : n ≤ 9223372036854775807 := by unfold maxLen at hcm; omega
  have HN := hid hn
  clear hn
  go_enter Try.func48, Try.ntmps48
  go_wp2
  go_loop [3] (fun i => ∃ k : Nat, k ≤ n ∧ i = .int .i64 k) (fun i => n - (intOf i).toNat)
  case atStart => exact ⟨0, Nat.zero_le _, rfl⟩
  case round =>
    obtain ⟨k, hk, rfl⟩ := hrel
    by_cases hlt : k < n
    · by_cases h100 : k < 100
      · obtain ⟨b, off, A1, m1, c1, x, rfl, hb, hx, hl1, hl2, hr1, hcx⟩ := hrow.slice hlt
        have hm1 : m1 ≤ 9223372036854775807 := by unfold maxLen at hl2; omega
        clear hx hr1
        by_cases h200 : 200 < m1
        · go_wp2
          go_ret
          exact ⟨⟨_, rfl⟩, rfl⟩
        · go_wp2
          go_round
          case rel => exact ⟨k + 1, by omega, by go_num⟩
          case measure => simp [intOf]; omega
      · go_wp2
        go_ret
        exact ⟨⟨_, rfl⟩, rfl⟩
    · go_wp2
      go_ret
      exact ⟨⟨_, rfl⟩, rfl⟩
theorem newJ_any (w : World) : Calls Try.prog 49 #[] w fun e w' => e = .returned (.pointer (some ⟨w.heap.size, 0, none⟩)) ∧ w' = w.alloc (.cells #[.bool true, .int .i64 0, .slice none 0 0] 52) := by
  go_enter Try.func49, Try.ntmps49
  go_wp2
  go_ret
  exact ⟨rfl, rfl⟩
set_option maxHeartbeats 800000 in
theorem chopJoins_any (v : Value) (xs : List (List UInt8)) (w : World) (h : IsSlice (repSlice repByte) w (all w) v xs) :
    Calls Try.prog 8 #[v] w fun e w' => e = .returned (.bool true) ∧ Ext w w' := by
  have hh := chopHuge_any v xs w h
  have HH := hid hh
  clear hh
  obtain ⟨A, n, c, rfl, hnc, hcm, hrow⟩ := h
  have hn := hrow.1
  have hmax : n ≤ 9223372036854775807 := by unfold maxLen at hcm; omega
  have HN := hid hn
  clear hn
  go_enter Try.func8, Try.ntmps8
  go_wp2_with fail
  refine HH.out.mono ?_
  rintro e w1 ⟨⟨bb, rfl⟩, rfl⟩
  cases bb with
  | true =>
    go_wp2_with (go_at_call 38; refine (chopLive_any _).mono ?_; rintro e w' ⟨rfl, hext⟩)
    go_ret
    exact ⟨rfl, hext⟩
  | false =>
    go_wp2_with (go_at_call 49; refine (newJ_any _).mono ?_; rintro e w1 ⟨rfl, rfl⟩)
    have hx1 : Ext w ((w.alloc (.cells #[.bool true, .int .i64 0, .slice none 0 0] 52)).alloc (.cells #[.int .i64 0, .slice none 0 0] 68)) := Ext.trans (ext_alloc _ _) (ext_alloc _ _)
    have hj0 : JoinerAt (fun b => b = w.heap.size ∨ b = w.heap.size + 1) ((w.alloc (.cells #[.bool true, .int .i64 0, .slice none 0 0] 52)).alloc (.cells #[.int .i64 0, .slice none 0 0] 68)) w.heap.size 0 [] := JoinerAt.ext ⟨none, 0, Blk.new _ _ _, isSlice_nil _ _ _, Or.inl rfl, by simp, by omega⟩ (ext_alloc _ _)
    have hr0 : RefAt (fun b => b = w.heap.size ∨ b = w.heap.size + 1) ((w.alloc (.cells #[.bool true, .int .i64 0, .slice none 0 0] 52)).alloc (.cells #[.int .i64 0, .slice none 0 0] 68)) (w.heap.size + 1) 0 [] := ⟨none, 0, by have := Blk.new (w.alloc (.cells #[.bool true, .int .i64 0, .slice none 0 0] 52)) 68 #[.int .i64 0, .slice none 0 0]; simpa using this, isSlice_nil _ _ _, Or.inr rfl, by simp, by omega⟩
    go_loopw [5] (fun i wr => ∃ (k z : Nat) (m : List UInt8), k ≤ n ∧ i = .int .i64 k ∧ JoinerAt (fun b => b = w.heap.size ∨ b = w.heap.size + 1) wr w.heap.size z m ∧ RefAt (fun b => b = w.heap.size ∨ b = w.heap.size + 1) wr (w.heap.size + 1) z m ∧ Ext w wr) (fun i _ => n - (intOf i).toNat)
    case atStart => exact ⟨0, 0, [], Nat.zero_le _, rfl, hj0, hr0, hx1⟩
    case round =>
      obtain ⟨k, z, m, hk, rfl, hj, hr, hext⟩ := hrel
      by_cases hlt : k < n
      · obtain ⟨b, off, A1, m1, c1, x, rfl, hb, hx, hl1, hl2, hr1, hcx0⟩ := hrow.slice hlt
        have hs1 := hr1.isSlice hl1 hl2
        have hsx : IsSlice repByte wr (outOf (fun b => b = w.heap.size ∨ b = w.heap.size + 1) wr) (.slice A1 m1 c1) x := hs1.keep fun b hb => ⟨⟨Nat.lt_of_lt_of_le hb hext.size, fun hx => by have hb' : b < w.heap.size := hb; rcases hx with hx | hx <;> omega⟩, fun _ => hext.cell hb _⟩
        have hcx1 := (hext.cell hb (off + k)).trans hcx0
        have hXr : ∀ b, (b = w.heap.size ∨ b = w.heap.size + 1) → b < wr.heap.size := fun b hb => by
          rcases hb with hb | hb
          · rw [hb]; exact hj.lt
          · rw [hb]; exact hr.lt
        clear hr1 hx
        go_wp2_with fail
        refine (feed_any wr _ _ _ _ _ hj _ hsx hXr).mono ?_
        rintro e w3 ⟨u1, rfl, hu1, hj3, ho3⟩
        have hr3 := hr.other ho3 (Or.inl rfl) (by omega)
        have hsx3 := hsx.outOnly ho3 (Or.inl rfl)
        have hext3 := ho3.ext_new hext (Nat.le_refl _)
        have hcx3 := (hext3.cell hb (off + k)).trans hcx0
        have hX3 : ∀ b, (b = w.heap.size ∨ b = w.heap.size + 1) → b < w3.heap.size := fun b hb => Nat.lt_of_lt_of_le (hXr b hb) ho3.size
        clear hcx1
        go_wp2_with fail
        refine (feedR_any w3 _ _ _ _ _ hr3 _ hsx3 hX3).mono ?_
        rintro e w4 ⟨u2, rfl, hu2, hr4, ho4⟩
        have hj4 := hj3.other ho4 (Or.inr rfl) (by omega)
        have hu14 := (hu1.outOnly ho4 (Or.inr rfl)).outAll
        have hu24 := hu2.outAll
        have hext4 := ho4.ext_new hext3 (by omega)
        generalize feedS z m x = F at *
        have hr44 := hr4
        obtain ⟨A4, c4, hb4, _, _, _, hz4⟩ := hr44
        have e40 : w4.cell? ⟨w.heap.size + 1, 0, none⟩ = some (.int .i64 (F.at_ : Nat)) := hb4.cell 0
        have sq : ∀ k, Calls Try.prog 51 #[u1, u2] (w4.drewN k) fun e w' => e = .returned (.bool true) ∧ ∃ m, w' = (w4.drewN k).drewN m := fun k => by
          have := sameB_any _ _ _ _ (w4.drewN k) (hu14.ext (ext_drewN _ k)) (hu24.ext (ext_drewN _ k))
          rwa [decide_eq_true rfl] at this
        have wq : ∀ k, Calls Try.prog 37 #[.pointer (some ⟨w.heap.size, 0, none⟩)] (w4.drewN k) fun e w' => e = .returned (.int .i64 (F.at_ : Nat)) ∧ w4.drewN k = w' := fun k => waits_any _ _ _ _ _ (hj4.ext (ext_drewN _ k))
        have SQ := hid sq
        have WQ := hid wq
        have hj5 := fun k => hj4.ext (ext_drewN w4 k)
        have hr5 := fun k => hr4.ext (ext_drewN w4 k)
        have HJ := hid hj5
        have HR := hid hr5
        clear sq wq hj hr hj3 hr3 hj4 hr4 hj5 hr5 hu1 hu2 hu14 hu24 hsx hsx3 hs1 hb4 ho3 ho4
        obtain ⟨Fo, Fk, Fe, Ft, Fm⟩ := F
        dsimp only at *
        go_wp2_with fail
        go_quiet ((first | (go_at_call 36; exact q_same (chopNum_any _ _)) | (go_at_call 51; exact Calls.quiet_of (SQ.out _)) | (go_at_call 37; exact q_same (WQ.out _))))
        go_wp2
        go_roundw
        case rel => exact ⟨k + 1, Ft, Fm, by omega, by go_num, HJ.out _, HR.out _, below_drewN hext4 _⟩
        case measure => simp [intOf]; omega
      · go_wp2_with (go_at_call 38; refine (chopLive_any _).mono ?_; rintro e w' ⟨rfl, hxl⟩)
        go_ret
        exact ⟨rfl, Ext.trans hext hxl⟩
end
end Go.Proofs.Ytheopadakjojkaa
