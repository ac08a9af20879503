/- The walk of the reference's Step, go on: what is neither sent nor returned. -/
import Derived.Test.YtjchobncmogcpaaIdealR2
namespace Go.Proofs.Ytjchobncmogcpaa
open Go.RowKit

set_option maxRecDepth 100000
section
theorem stepRStuck_any (w : World) (gr base : Nat) (s : Iq) (h : RqAt w gr base s) (hstk : s.stuck = true) (st kind pl : Int) (dv : Value) :
    Calls Try.prog 59 #[.pointer (some ⟨gr, 0, none⟩), .agg #[.int .i64 st, .int .i64 kind, .int .i64 pl, dv]] w fun e w' => e = .returned (.bool false) ∧ RqAt w' gr base s ∧ LowR gr w w' := by
  have hx1 := ext_alloc w (.cells #[.int .i64 st, .int .i64 kind, .int .i64 pl, dv] 119)
  have h1 := h.ext hx1
  have hlow1 := lowR_ext hx1 (Nat.lt_of_lt_of_le h.q h.sz)
  obtain ⟨hqb, hbz, v, u, hb, hown, hu⟩ := id h1
  have hcl := rqCells hb
  rw [hstk] at hcl
  obtain ⟨c0, c1, c2, c3, c4⟩ := hcl
  go_enter Try.func59, Try.ntmps59
  go_wp2
  go_ret
  exact ⟨rfl, h1, hlow1⟩
set_option maxHeartbeats 1000000 in
theorem stepRRest_any (w : World) (gr base : Nat) (s : Iq) (h : RqAt w gr base s) (hstk : s.stuck = false) (st kind pl : Int) (dv : Value) (hk0 : kind ≠ 0) (hk2 : kind ≠ 2) (hk : ¬ (kind = 5 ∧ s.lossy = true)) :
    Calls Try.prog 59 #[.pointer (some ⟨gr, 0, none⟩), .agg #[.int .i64 st, .int .i64 kind, .int .i64 pl, dv]] w fun e w' => e = .returned (.bool true) ∧ RqAt w' gr base s ∧ LowR gr w w' := by
  have hx1 := ext_alloc w (.cells #[.int .i64 st, .int .i64 kind, .int .i64 pl, dv] 119)
  have hbe := Blk.new w 119 #[.int .i64 st, .int .i64 kind, .int .i64 pl, dv]
  have b1 := hbe.cell 1
  have h1 := h.ext hx1
  have hlow1 := lowR_ext hx1 (Nat.lt_of_lt_of_le h.q h.sz)
  obtain ⟨hqb, hbz, v, u, hb, hown, hu⟩ := id h1
  have hcl := rqCells hb
  rw [hstk] at hcl
  obtain ⟨c0, c1, c2, c3, c4⟩ := hcl
  have hk0B : (kind == 0) = false := by simpa using hk0
  have hk2B : (kind == 2) = false := by simpa using hk2
  clear hbe
  by_cases hk5 : kind = 5
  · have hls : s.lossy = false := by
      cases hl : s.lossy with
      | false => rfl
      | true => exact absurd ⟨hk5, hl⟩ hk
    rw [hls] at c0
    subst hk5
    clear hk hk0 hk2
    go_enter Try.func59, Try.ntmps59
    go_wp2
    go_ret
    exact ⟨rfl, h1, hlow1⟩
  · have hk5B : (kind == 5) = false := by simpa using hk5
    clear hk hk0 hk2 hk5
    go_enter Try.func59, Try.ntmps59
    go_wp2
    go_ret
    exact ⟨rfl, h1, hlow1⟩
set_option maxHeartbeats 1000000 in
theorem stepRLost_any (w : World) (gr base : Nat) (s : Iq) (h : RqAt w gr base s) (hstk : s.stuck = false) (hls : s.lossy = true) (st pl : Int) (dv : Value) :
    Calls Try.prog 59 #[.pointer (some ⟨gr, 0, none⟩), .agg #[.int .i64 st, .int .i64 5, .int .i64 pl, dv]] w fun e w' => e = .returned (.bool true) ∧ RqAt w' gr base { s with lost := s.sent.length } ∧ LowR gr w w' := by
  have hx1 := ext_alloc w (.cells #[.int .i64 st, .int .i64 5, .int .i64 pl, dv] 119)
  have hbe := Blk.new w 119 #[.int .i64 st, .int .i64 5, .int .i64 pl, dv]
  have b1 := hbe.cell 1
  have h1 := h.ext hx1
  have hlow1 := lowR_ext hx1 (Nat.lt_of_lt_of_le h.q h.sz)
  obtain ⟨hqb, hbz, v, u, hb, hown, hu⟩ := id h1
  obtain ⟨Av, cv, rfl, _⟩ := hown.form
  have hcl := rqCells hb
  rw [hstk, hls] at hcl
  obtain ⟨c0, c1, c2, c3, c4⟩ := hcl
  have k3 := hb.frozen 3
  have HB := hid hb
  clear hbe hb
  go_enter Try.func59, Try.ntmps59
  go_wp2
  go_ret
  have hos : Only gr (w.alloc (.cells #[.int .i64 st, .int .i64 5, .int .i64 pl, dv] 119)) ((w.alloc (.cells #[.int .i64 st, .int .i64 5, .int .i64 pl, dv] 119)).setCell ⟨gr, 3, none⟩ (.int .i64 (s.sent.length : Int))) := (Only.refl _ _).set_ _ _
  exact ⟨rfl, ⟨hqb, Nat.le_trans hbz hos.size, _, _, HB.out.set_ 3 _, hown.out (X := fun b => b = gr) (Out.of_only hos rfl) (fun b hb => by omega), atIn_set hu 3 _⟩, Below.trans hlow1 (lowR_only hos HB.out.lt)⟩
end
end Go.Proofs.Ytjchobncmogcpaa
