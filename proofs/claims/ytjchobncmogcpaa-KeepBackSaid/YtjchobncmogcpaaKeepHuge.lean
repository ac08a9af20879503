/- The small functions of the law of runs. -/
import Derived.Test.YtjchobncmogcpaaKeepGet
import Derived.Test.YtjchobncmogcpaaKeepPR
namespace Go.Proofs.Ytjchobncmogcpaa
open Go.RowKit

def sumC : List Ch → Nat
  | [] => 0
  | x :: l => x.data.length + x.edits.length + 1 + sumC l
theorem sumC_append : ∀ a b : List Ch, sumC (a ++ b) = sumC a + sumC b
  | [], b => by simp [sumC]
  | x :: a, b => by simp only [List.cons_append, sumC, sumC_append a b]; omega
def hugeN (r : KRun) : Nat := r.draws.length + sumC (r.chs.take 600)
def hugeK (r : KRun) : Bool := decide (1500 < hugeN r)
theorem chB_len (c : Ch) : (chB c).length = 40 + c.data.length + 24 * c.edits.length := by
  simp only [chB, headC, List.length_append, nums8_len, edsB_len, List.length_cons, List.length_nil]
  omega
theorem chsB_len : ∀ l : List Ch, (chsB l).length ≤ 40 * sumC l
  | [] => by simp [chsB, sumC]
  | x :: l => by
    have h := chsB_len l
    have e : chsB (x :: l) = chB x ++ chsB l := rfl
    rw [e, List.length_append, chB_len, sumC]
    omega
theorem body_small {r : KRun} (h : hugeK r = false) (hc : r.chs.length ≤ 500) : (bodyB r).length ≤ 1000000 := by
  have h1 : hugeN r ≤ 1500 := by unfold hugeK at h; simpa using h
  unfold hugeN at h1
  rw [List.take_of_length_le (by omega)] at h1
  have h2 := chsB_len r.chs
  simp only [bodyB, headB, magicB, List.length_append, nums8_len, List.length_cons, List.length_nil]
  omega
set_option maxRecDepth 100000
section
theorem num42_any (x : Int) (w : World) : Calls Try.prog 34 #[.int .i64 x] w fun e w' => e = .returned (.int .i64 x) ∧ w = w' := by
  go_enter Try.func34, Try.ntmps34
  go_wp2
  go_ret
  exact ⟨rfl, rfl⟩
set_option maxHeartbeats 1000000 in
theorem of42_any (r : KRun) (A A' : Option Addr) (n c n' c' : Nat) (w : World) : Calls Try.prog 32 #[.agg (kVals r (.slice A n c) (.slice A' n' c'))] w fun e w' => e = .returned (.agg (kVals r (.slice A n c) (.slice A' n' c'))) ∧ Ext w w' := by
  obtain ⟨w1, hw1⟩ : ∃ w1, w.alloc (.cells (kVals r (.slice A n c) (.slice A' n' c')) 69) = w1 := ⟨_, rfl⟩
  have hx1 : Ext w w1 := hw1 ▸ ext_alloc _ _
  have hb1 : Blk w1 w.heap.size 69 (kVals r (.slice A n c) (.slice A' n' c')) := by rw [← hw1]; exact Blk.new _ _ _
  obtain ⟨w2, hw2⟩ : ∃ w2, w1.alloc (.cells kZero 73) = w2 := ⟨_, rfl⟩
  have hx2 : Ext w1 w2 := hw2 ▸ ext_alloc _ _
  have hb2 : Blk w2 w1.heap.size 73 kZero := by rw [← hw2]; exact Blk.new _ _ _
  obtain ⟨p0, p1, p2, p3, p4, p5, p6, p7, p8⟩ := kCells (hb1.ext hx2)
  have hne : w.heap.size < w1.heap.size := hb1.lt
  obtain ⟨KV, hKV⟩ : ∃ KV, KV = kVals r (.slice A n c) (.slice A' n' c') := ⟨_, rfl⟩
  have HKV := hid hKV
  rw [← hKV]
  have hone : KV.all (·.oneCell') = true := by rw [hKV]; exact kVals_one _ _ _ _ _ _ _
  have hsz : kZero.size = KV.size := by rw [hKV]; rfl
  have hin : (Try.prog.info? 73).map (·.size) = some KV.size := by rw [hKV]; kernel_rfl
  rw [show (Value.agg KV) = .agg #[.int .i64 r.eng, .int .i64 r.w, .int .i64 r.m, .int .i64 r.l, .int .i64 r.b, .int .i64 r.room, .int .u64 r.beg, .slice A n c, .slice A' n' c'] from by rw [hKV]; rfl]
  have HR := hid (show Value.agg KV = .agg #[.int .i64 r.eng, .int .i64 r.w, .int .i64 r.m, .int .i64 r.l, .int .i64 r.b, .int .i64 r.room, .int .u64 r.beg, .slice A n c, .slice A' n' c'] from by rw [hKV]; rfl)
  have HK2 := hid (show KV = #[.int .i64 r.eng, .int .i64 r.w, .int .i64 r.m, .int .i64 r.l, .int .i64 r.b, .int .i64 r.room, .int .u64 r.beg, .slice A n c, .slice A' n' c'] from by rw [hKV]; rfl)
  clear hKV
  unfold kVals at hw1
  unfold kZero kVals run0 at hw2
  dsimp only at hw2
  go_enter Try.func32, Try.ntmps32
  go_wp2_with (first
    | (refine wpl_row (g := w1.heap.size) (cs := KV) _ _ rfl rfl rfl (by rw [HK2.out]; rfl) hb2 hin hsz hone ?_; intro w5 hb5 ho5))
  refine bodyPost_ret (results_cell_row Try.results32 _ _ w1.heap.size _ KV (0, 0) _ rfl hb5 Try.underlying73 rfl hin) rfl ?_
  exact ⟨by rw [HR.out], Only.ext_new ho5 (Ext.trans hx1 hx2) (by omega)⟩
theorem w64 {z : Int} (h1 : 0 ≤ z) (h2 : z ≤ 9223372036854775807) : wrap64 z = z := by unfold wrap64; omega
theorem w64_3 {a b c : Int} (ha : 0 ≤ a ∧ a ≤ 1000000) (hb : 0 ≤ b ∧ b ≤ 1000000) (hc : 0 ≤ c ∧ c ≤ 1000000) : wrap64 (wrap64 (wrap64 (a + b) + c) + 1) = a + b + c + 1 := by
  rw [w64 (z := a + b) (by omega) (by omega), w64 (z := a + b + c) (by omega) (by omega), w64 (by omega) (by omega)]
set_option maxHeartbeats 2000000 in
theorem huge42_any (w : World) (r : KRun) (u1 u2 : Value) (h1 : IsSlice (repInt .u64) w (all w) u1 r.draws) (h2 : IsSlice repCh w (all w) u2 r.chs) :
    Calls Try.prog 29 #[.agg (kVals r u1 u2)] w fun e w' => ∃ b : Bool, e = .returned (.bool b) ∧ (rightB r = true → b = hugeK r) ∧ Ext w w' := by
  obtain ⟨A1, d1, rfl⟩ := h1.shape
  obtain ⟨A2, n, d2, rfl, hnc, hcm, hrow⟩ := h2
  have hn := hrow.1
  have hmax : n ≤ 9223372036854775807 := by unfold maxLen at hcm; omega
  obtain ⟨w1, hw1⟩ : ∃ w1, w.alloc (.cells (kVals r (.slice A1 r.draws.length d1) (.slice A2 n d2)) 69) = w1 := ⟨_, rfl⟩
  have hx1 : Ext w w1 := hw1 ▸ ext_alloc _ _
  have hb1 : Blk w1 w.heap.size 69 (kVals r (.slice A1 r.draws.length d1) (.slice A2 n d2)) := by rw [← hw1]; exact Blk.new _ _ _
  obtain ⟨p0, p1, p2, p3, p4, p5, p6, p7, p8⟩ := kCells hb1
  have HR := hid (fun hR : rightB r = true => (show r.draws.length ≤ 200 ∧ n ≤ 500 ∧ r.chs.all chOk = true by
    unfold rightB at hR
    rw [hn] at hR
    simpa [Bool.and_eq_true, and_assoc] using hR))
  have HH := hid (show hugeN r = r.draws.length + sumC (r.chs.take 600) from rfl)
  have HN := hid hn
  clear hn h1 hb1
  unfold kVals at hw1 ⊢
  generalize r.draws.length = dn at *
  go_enter Try.func29, Try.ntmps29
  go_wp2
  go_loopw [3, 4] (fun s i wr => ∃ (k : Nat) (z : Int), k ≤ n ∧ k ≤ 600 ∧ i = .int .i64 k ∧ s = .int .i64 z ∧ Wall (rightB r = true → z = (dn : Int) + (sumC (r.chs.take k) : Nat) ∧ sumC (r.chs.take k) ≤ 511 * k) ∧ ∃ d, wr = w1.drewN d) (fun _ i _ => n - (intOf i).toNat)
  case atStart => exact ⟨0, dn, Nat.zero_le _, Nat.zero_le _, rfl, rfl, hid fun _ => by simp [sumC], 0, rfl⟩
  case round =>
    obtain ⟨k, z, hk, hk6, rfl, rfl, HZ, d, rfl⟩ := hrel
    by_cases hlt : k < n ∧ k < 600
    · obtain ⟨hlt, hlt6⟩ := hlt
      obtain ⟨b, off, x, u1, u2, rfl, hbl, hx, hs1, hs2, x0, x1, x2, x3, x4, ⟨_, m1, _, rfl⟩, ⟨_, m2, _, rfl⟩⟩ := hrow.chX hx1 hlt
      have hm1 : x.data.length = m1 := by obtain ⟨_, _, _, e, _, _, h⟩ := hs1; injection e with _ e _; rw [e]; exact h.1
      have hm2 : x.edits.length = m2 := by obtain ⟨_, _, _, e, _, _, h⟩ := hs2; injection e with _ e _; rw [e]; exact h.1
      have HT := hid (show sumC (r.chs.take (k + 1)) = sumC (r.chs.take k) + (m1 + m2 + 1) by rw [take_succ_of hx, sumC_append, sumC, sumC, hm1, hm2])
      have HOK := hid (fun hR : rightB r = true => (show m1 ≤ 255 ∧ m2 ≤ 255 by
        have := List.all_eq_true.1 (HR.out hR).2.2 x (List.mem_of_getElem? hx)
        unfold chOk at this
        rw [hm1, hm2] at this
        simpa using this))
      clear hx hs1 hs2 hm1 hm2
      go_wp2
      go_quiet (fail)
      go_wp2
      go_roundw
      case rel =>
        refine ⟨k + 1, _, by omega, by omega, by go_num, rfl, hid fun hR => ?_, _, by first | exact World.drewN_drewN _ _ _ | rfl⟩
        have h1 := HZ.out hR
        have h2 := HOK.out hR
        have h3 := HR.out hR
        rw [HT.out, h1.1]
        refine ⟨?_, by omega⟩
        have e := w64_3 (a := (dn : Int) + ((sumC (List.take k r.chs) : Nat) : Int)) (b := m1) (c := m2) (by omega) (by omega) (by omega)
        first
          | (rw [e]; omega)
          | (trace_state; fail)
      case measure => simp [intOf]; omega
    · have HE := hid (fun hR : rightB r = true => (show z = (hugeN r : Nat) by
        have h1 := HZ.out hR
        have h3 := HR.out hR
        have h4 : k = n := by omega
        rw [h1.1, HH.out, List.take_of_length_le (by rw [HN.out]; omega), List.take_of_length_le (by rw [HN.out]; omega)]
        omega))
      have fin : ∀ (b : Bool) (W : World), b = decide (1500 < z) → (rightB r = true → b = hugeK r) := fun b W hb hR => by
        rw [hb, HE.out hR]
        unfold hugeK
        exact decide_eq_decide.2 (by omega)
      have HF := hid fin
      clear fin
      by_cases hkn : k < n
      · have h6 : ¬ k < 600 := fun h => hlt ⟨hkn, h⟩
        go_wp2
        go_ret
        exact ⟨_, rfl, HF.out _ w1 rfl, Ext.trans hx1 (ext_drewN _ _)⟩
      · go_wp2
        go_ret
        exact ⟨_, rfl, HF.out _ w1 rfl, Ext.trans hx1 (ext_drewN _ _)⟩
end
end Go.Proofs.Ytjchobncmogcpaa
