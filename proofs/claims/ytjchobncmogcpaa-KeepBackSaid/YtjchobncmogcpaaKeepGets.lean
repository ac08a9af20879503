/- KeepGets: both sides read bytes alike. -/
import Derived.Test.YtjchobncmogcpaaKeepGot
import Derived.Test.YtjchobncmogcpaaKeepSR
import Derived.Test.YtjchobncmogcpaaKeepPuts
namespace Go.Proofs.Ytjchobncmogcpaa
open Go.RowKit
set_option maxRecDepth 100000
section
set_option maxHeartbeats 1000000 in
theorem told42_any (r : KRun) (A A' : Option Addr) (n c n' c' : Nat) (w : World) : Calls Try.prog 38 #[.agg (kVals r (.slice A n c) (.slice A' n' c'))] w fun e w' => e = .returned (.agg (kVals r (.slice A n c) (.slice A' n' c'))) ∧ Ext w w' := by
  obtain ⟨w1, hw1⟩ : ∃ w1, w.alloc (.cells (kVals r (.slice A n c) (.slice A' n' c')) 73) = w1 := ⟨_, rfl⟩
  have hx1 : Ext w w1 := hw1 ▸ ext_alloc _ _
  have hb1 : Blk w1 w.heap.size 73 (kVals r (.slice A n c) (.slice A' n' c')) := by rw [← hw1]; exact Blk.new _ _ _
  obtain ⟨w2, hw2⟩ : ∃ w2, w1.alloc (.cells kZero 69) = w2 := ⟨_, rfl⟩
  have hx2 : Ext w1 w2 := hw2 ▸ ext_alloc _ _
  have hb2 : Blk w2 w1.heap.size 69 kZero := by rw [← hw2]; exact Blk.new _ _ _
  obtain ⟨p0, p1, p2, p3, p4, p5, p6, p7, p8⟩ := kCells (hb1.ext hx2)
  have hne : w.heap.size < w1.heap.size := hb1.lt
  obtain ⟨KV, hKV⟩ : ∃ KV, KV = kVals r (.slice A n c) (.slice A' n' c') := ⟨_, rfl⟩
  have HKV := hid hKV
  rw [← hKV]
  have hone : KV.all (·.oneCell') = true := by rw [hKV]; exact kVals_one _ _ _ _ _ _ _
  have hsz : kZero.size = KV.size := by rw [hKV]; rfl
  have hin : (Try.prog.info? 69).map (·.size) = some KV.size := by rw [hKV]; kernel_rfl
  rw [show (Value.agg KV) = .agg #[.int .i64 r.eng, .int .i64 r.w, .int .i64 r.m, .int .i64 r.l, .int .i64 r.b, .int .i64 r.room, .int .u64 r.beg, .slice A n c, .slice A' n' c'] from by rw [hKV]; rfl]
  have HR := hid (show Value.agg KV = .agg #[.int .i64 r.eng, .int .i64 r.w, .int .i64 r.m, .int .i64 r.l, .int .i64 r.b, .int .i64 r.room, .int .u64 r.beg, .slice A n c, .slice A' n' c'] from by rw [hKV]; rfl)
  have HK2 := hid (show KV = #[.int .i64 r.eng, .int .i64 r.w, .int .i64 r.m, .int .i64 r.l, .int .i64 r.b, .int .i64 r.room, .int .u64 r.beg, .slice A n c, .slice A' n' c'] from by rw [hKV]; rfl)
  clear hKV
  unfold kVals at hw1
  unfold kZero kVals run0 at hw2
  dsimp only at hw2
  go_enter Try.func38, Try.ntmps38
  go_wp2_with (first
    | (refine wpl_row (g := w1.heap.size) (cs := KV) _ _ rfl rfl rfl (by rw [HK2.out]; rfl) hb2 hin hsz hone ?_; intro w5 hb5 ho5))
  refine bodyPost_ret (results_cell_row Try.results38 _ _ w1.heap.size _ KV (0, 0) _ rfl hb5 Try.underlying69 rfl hin) rfl ?_
  exact ⟨by rw [HR.out], Only.ext_new ho5 (Ext.trans hx1 hx2) (by omega)⟩
/-- What either Get hands back: a run that reads as r, and an error's number. -/
def Got (r : KRun) (n : Int) (W : World) (e : Ending) (W' : World) : Prop :=
  ∃ A1 n1 c1 A2 n2 c2, e = .returned (.tuple #[.agg (kVals r (.slice A1 n1 c1) (.slice A2 n2 c2)), .int .i64 n]) ∧ IsSlice (repInt .u64) W' (all W') (.slice A1 n1 c1) r.draws ∧ IsSlice repCh W' (all W') (.slice A2 n2 c2) r.chs ∧ Ext W W'
noncomputable def gotR (s : Option (List UInt8)) : KRun × Int :=
  open Classical in if (∃ b, s = some b ∧ (runS b).2 = some []) then ((runS (s.getD [])).1, 0) else (run0, 40)
theorem got_of {s : Option (List UInt8)} {W W' : World} {e : Ending} (h : GetsR s W e W') (hx : Ext W W') : Got (gotR s).1 (gotR s).2 W e W' := by
  rcases h with ⟨b0, rfl, h0, cs, rfl, hcs⟩ | ⟨hno, rfl⟩
  · have hg : gotR (some b0) = ((runS b0).1, 0) := if_pos ⟨b0, rfl, h0⟩
    rw [hg]
    obtain ⟨u1, u2, h1, _, h3, h4⟩ := hcs
    have hcs' : cs = kVals (runS b0).1 u1 u2 := by rw [← Array.toList_inj]; exact h1
    subst hcs'
    obtain ⟨A1, c1, rfl⟩ := h3.shape
    obtain ⟨A2, c2, rfl⟩ := h4.shape
    exact ⟨_, _, _, _, _, _, rfl, h3.any, h4.any, hx⟩
  · have hg : gotR s = (run0, 40) := if_neg fun ⟨b, hb, h2⟩ => by rw [hno b hb] at h2; cases h2
    rw [hg]
    exact ⟨none, 0, 0, none, 0, 0, rfl, isSlice_nil _ _ _, isSlice_nil _ _ _, hx⟩
theorem kGot_any (v : Value) (xs : List UInt8) (w : World) (h : IsSlice repByte w (all w) v xs) (hl : xs.length ≤ 1000000) :
    Calls Try.prog 35 #[v] w fun e w' => Got (gotR (crcCheck xs)).1 (gotR (crcCheck xs)).2 w e w' := by
  cases hr : crcCheck xs with
  | none => exact (kgetNo_any v xs w h hl hr).mono fun e w' ⟨he, hx⟩ => got_of (.inr ⟨fun b0 hb => (by cases hb), he⟩) hx
  | some body => exact (kget_any v xs body w h hl hr).mono fun e w' ⟨hg, hx⟩ => got_of hg hx
theorem rGot_any (v : Value) (xs : List UInt8) (w : World) (h : IsSlice repByte w (all w) v xs) (hl : xs.length ≤ 1000000) :
    Calls Try.prog 36 #[v] w fun e w' => Got (gotR (crcCheck xs)).1 (gotR (crcCheck xs)).2 w e w' := by
  refine (rget_any (crcCheck xs) v xs w h fun W hW => ?_).mono fun e w' ⟨hg, hx⟩ => got_of hg hx
  by_cases h4 : 4 ≤ xs.length
  · refine (crcCheckR_any v xs W (h.ext hW) h4 hl).mono ?_
    rintro e w' ⟨⟨hn, he⟩ | ⟨body, u, hs, he, hu⟩, hx⟩
    · rw [hn]
      exact ⟨_, [], he, .inl ⟨rfl, rfl⟩, by simp, isSlice_nil _ _ _, hx⟩
    · rw [hs]
      refine ⟨u, body, he, .inr rfl, ?_, hu, hx⟩
      unfold crcCheck at hs
      split at hs
      · cases hs
      · split at hs
        · injection hs with hs
          rw [← hs, List.length_take]; omega
        · cases hs
  · have hn : crcCheck xs = none := if_pos (by omega)
    rw [hn]
    refine (crcCheckRShort_any v xs W (h.ext hW) (by omega)).mono ?_
    rintro e w' ⟨he, rfl⟩
    exact ⟨_, [], he, .inl ⟨rfl, rfl⟩, by simp, isSlice_nil _ _ _, Below.refl _ _⟩
end
end Go.Proofs.Ytjchobncmogcpaa
