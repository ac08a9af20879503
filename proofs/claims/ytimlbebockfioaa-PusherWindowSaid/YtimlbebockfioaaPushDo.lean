/- The law's do: one act. -/
import Derived.Test.YtimlbebockfioaaPushL
namespace Go.Proofs.Ytimlbebockfioaa
open Go.RowKit

set_option maxRecDepth 100000
section
variable {X : Nat → Prop} {w : World} {gp gt b : Nat} {c : Cfg} {W R : Nat} {s : Ps}
/-- A slice of so many. -/
def LenIs (u : Value) (n : Nat) : Prop := ∃ A cc, u = .slice A n cc
set_option maxHeartbeats 400000 in
theorem psl_do (h : PsL X w gp gt b c W R s) (hc : CfgP c W R) (hl : s.acc.length + 1 ≤ 1000000) (x : Ac) (hwf : (Lit.int .u64 x.s.bits).wf = true) (A1 A2 : Option Addr) (c1 c2 : Nat) (hm : IsSlice repByte w (all w) (.slice A1 x.m.length c1) x.m) :
    Calls Try.prog 12 #[.pointer (some ⟨gp, 0, none⟩), .agg #[.int .i64 x.kind, .int .i64 x.n, .slice A1 x.m.length c1, .bool x.s.ack, .int .i64 x.s.seq, .int .u64 x.s.bits, .slice A2 x.s.data.length c2]] w fun e w' => ∃ u n, e = .returned (.tuple #[u, .int .i64 n]) ∧ LenIs u (actP c W R s x).2 ∧ PsL X w' gp gt b c W R (actP c W R s x).1 ∧ Out (fun k => ¬ X k) w w' := by
  obtain ⟨kind, n, m, ⟨ack, seq, bt, data⟩⟩ := x
  simp only at hm hwf
  obtain ⟨ml, hml⟩ : ∃ ml, ml = m.length := ⟨_, rfl⟩
  obtain ⟨dl, hdl⟩ : ∃ dl, dl = data.length := ⟨_, rfl⟩
  simp only [← hml, ← hdl]
  rw [← hml] at hm
  have hx1 := ext_alloc w (.cells #[.int .i64 kind, .int .i64 n, .slice A1 ml c1, .bool ack, .int .i64 seq, .int .u64 bt, .slice A2 dl c2] 43)
  have h1 := h.later hx1
  have HX1 := hid (Out.of_ext (X := fun k => ¬ X k) hx1)
  have hm1 := hm.ext hx1
  have HML := hid hml
  clear hdl hml
  by_cases hk0 : kind = 0
  · subst hk0
    obtain ⟨F, hp, hF⟩ := h1.at_
    by_cases hlong : 64 < ml
    · have hact : actP c W R s ⟨0, n, m, ⟨ack, seq, bt, data⟩⟩ = (s, 0) := by unfold actP; rw [if_pos rfl, if_pos (.inl (by show 64 < m.length; have := HML.out; omega))]
      rw [hact]
      have HS := hid (psSendLong_any F _ gp gt b c s hp A1 ml c1 hlong)
      have H1 := hid h1
      clear hact h1 h hm hm1 hx1
      go_enter Try.func12, Try.ntmps12
      go_wp2_with (first
        | (go_at_call 14; refine HS.out.mono ?_; rintro e w2 ⟨rfl, rfl⟩)
        | (go_at_call 9; refine (anum_any _ _).mono ?_; rintro e w3 ⟨rfl, rfl⟩))
      go_ret2
      exact ⟨_, _, rfl, ⟨_, _, rfl⟩, H1.out, HX1.out⟩
    · by_cases hfull : s.base + R ≤ s.acc.length
      · have hact : actP c W R s ⟨0, n, m, ⟨ack, seq, bt, data⟩⟩ = (s, 0) := by unfold actP; rw [if_pos rfl, if_pos (.inr hfull)]
        rw [hact]
        have HS := hid (psSendFull_any F _ gp gt b c s hp A1 ml c1 (by omega) (by have := hc.r; omega))
        have H1 := hid h1
        clear hact h1 h hm hm1 hx1
        go_enter Try.func12, Try.ntmps12
        go_wp2_with (first
          | (go_at_call 14; refine HS.out.mono ?_; rintro e w2 ⟨rfl, d, rfl⟩)
          | (go_at_call 9; refine (anum_any _ _).mono ?_; rintro e w3 ⟨rfl, rfl⟩))
        go_ret2
        exact ⟨_, _, rfl, ⟨_, _, rfl⟩, H1.out.later (ext_drewN _ _), HX1.out.then (ext_drewN _ _)⟩
      · have hact : actP c W R s ⟨0, n, m, ⟨ack, seq, bt, data⟩⟩ = (sendS W s m, onC W ⟨s.acc ++ [m], s.base, s.next, s.T⟩) := by unfold actP; rw [if_pos rfl, if_neg (by show ¬ (64 < m.length ∨ s.base + R ≤ s.acc.length); have := HML.out; omega)]
        rw [hact]
        have HS := hid (psl_send h1 hc hl (.slice A1 ml c1) m hm1 (by have := HML.out; omega) (by omega))
        clear hact h1 h hm hm1 hx1
        go_enter Try.func12, Try.ntmps12
        go_wp2_with (first
          | (go_at_call 14; refine HS.out.mono ?_; rintro e w2 ⟨u, rfl, hp2⟩)
          | (go_at_call 9; refine (anum_any _ _).mono ?_; rintro e w3 ⟨rfl, rfl⟩))
        go_ret2
        obtain ⟨Au, cu, rfl⟩ := PslRes.shape hp2
        replace hp2 := PslRes.drop hp2
        exact ⟨_, _, rfl, ⟨Au, cu, by simp [onL]⟩, hp2.1, HX1.out.trans hp2.2⟩
  · have q0 : (kind == 0) = false := by simpa using hk0
    by_cases hk1 : kind = 1
    · subst hk1
      have hact : actP c W R s ⟨1, n, m, ⟨ack, seq, bt, data⟩⟩ = (⟨s.acc, s.base, s.next, tickT c.b s.T⟩, (dueN s.T).length) := by unfold actP; rw [if_neg (by simp), if_pos rfl]
      rw [hact]
      have HS := hid (psl_tick h1 hc (by omega))
      clear hact h1 h hm hm1 hx1 hk0 q0
      go_enter Try.func12, Try.ntmps12
      go_wp2_with (first
        | (go_at_call 17; refine HS.out.mono ?_; rintro e w2 ⟨u, rfl, hp2⟩))
      go_ret2
      obtain ⟨Au, cu, rfl⟩ := PslRes.shape hp2
      replace hp2 := PslRes.drop hp2
      exact ⟨_, _, rfl, ⟨Au, cu, by simp⟩, hp2.1, HX1.out.trans hp2.2⟩
    · have q1 : (kind == 1) = false := by simpa using hk1
      by_cases hk2 : kind = 2
      · subst hk2
        have hact : actP c W R s ⟨2, n, m, ⟨ack, seq, bt, data⟩⟩ = (match takeP W c.m s ack seq bt.toNat with
          | none => (s, 0)
          | some s1 => (onS W s1, onC W s1)) := by unfold actP; rw [if_neg (by simp), if_neg (by simp), if_pos rfl]; rfl
        rw [hact]
        have HS := hid (psl_take h1 hc (by omega) ack seq bt A2 dl c2 hwf)
        generalize takeP W c.m s ack seq bt.toNat = tp at *
        clear hact h1 h hm hm1 hx1 hk0 q0 hk1 q1
        cases tp with
        | none =>
          go_enter Try.func12, Try.ntmps12
          go_wp2_with (first
            | (go_at_call 18; refine HS.out.mono ?_; rintro e w2 ⟨rfl, hp2⟩))
          go_ret2
          exact ⟨_, _, rfl, ⟨_, _, rfl⟩, hp2.1, HX1.out.trans hp2.2⟩
        | some s1 =>
          go_enter Try.func12, Try.ntmps12
          go_wp2_with (first
            | (go_at_call 18; refine HS.out.mono ?_; rintro e w2 ⟨u, rfl, hp2⟩))
          go_ret2
          obtain ⟨Au, cu, rfl⟩ := PslRes.shape hp2
          replace hp2 := PslRes.drop hp2
          exact ⟨_, _, rfl, ⟨Au, cu, by simp [onL]⟩, hp2.1, HX1.out.trans hp2.2⟩
      · have q2 : (kind == 2) = false := by simpa using hk2
        have hact : actP c W R s ⟨kind, n, m, ⟨ack, seq, bt, data⟩⟩ = (s, 0) := by unfold actP; rw [if_neg hk0, if_neg hk1, if_neg hk2]
        rw [hact]
        have H1 := hid h1
        clear hact h1 h hm hm1 hx1 hk0 hk1 hk2
        go_enter Try.func12, Try.ntmps12
        go_wp2_with fail
        go_ret2
        exact ⟨_, _, rfl, ⟨_, _, rfl⟩, H1.out, HX1.out⟩
end
end Go.Proofs.Ytimlbebockfioaa
