/- The reference's wide and count; keep's choice. -/
import Derived.Test.YtjchobncmogcpaaKeepRd
import Derived.Test.YtjchobncmogcpaaRowOps
import Derived.Deep.DeepCutAuto
namespace Go.Proofs.Ytjchobncmogcpaa
open Go.RowKit
set_option maxRecDepth 100000
section
theorem rwide_any (X : Nat → Prop) (w : World) (g : Nat) (s : St) (h : RdR X w g s) :
    Calls Try.prog 101 #[.pointer (some ⟨g, 0, none⟩)] w fun e w' => e = .returned (.int .u64 ((wideS s).1 : Nat)) ∧ RdR X w' g (wideS s).2 ∧ Only g w w' := by
  have HT := hid (rtake_any X w g 8 s h)
  have hp : numP (tkS 8 s).1 = (wideS s).1 := by unfold numP; rw [if_neg (by have := tkS_1len 8 s; omega)]; rfl
  have hw : (wideS s).2 = (tkS 8 s).2 := rfl
  rw [hw]
  have HP := hid hp
  clear hp h hw
  generalize (tkS 8 s).1 = q at *
  generalize (tkS 8 s).2 = s' at *
  generalize (wideS s).1 = N at *
  have HN := hid (fun (W : World) (v : Value) (hv : IsSlice repByte W (all W) v q) => numberR_any v q W hv)
  go_enter Try.func101, Try.ntmps101
  go_wp2_with (first
    | (go_at_call 100; refine HT.out.mono ?_; rintro e w2 ⟨u, rfl, hu, hr, ho⟩)
    | (go_at_call 141; refine (HN.out _ _ hu.any).mono ?_; rintro e w3 ⟨rfl, nd, rfl⟩; rw [HP.out]))
  go_ret
  exact ⟨rfl, hr.ext (ext_drewN _ _), ho.then (ext_drewN _ _)⟩
set_option maxHeartbeats 1000000 in
theorem rcount_any (X : Nat → Prop) (w : World) (g m : Nat) (s : St) (h : RdR X w g s) (hm : m ≤ 1000) :
    Calls Try.prog 102 #[.pointer (some ⟨g, 0, none⟩), .int .i64 (m : Int)] w fun e w' => e = .returned (.int .i64 ((cntS m s).1 : Nat)) ∧ RdR X w' g (cntS m s).2 ∧ Only g w w' := by
  have HT := hid (rwide_any X w g s h)
  have t2 : (m : Int) % 18446744073709551616 = m := by omega
  by_cases hlt : m < (wideS s).1
  · have e1 : cntS m s = (0, none) := if_pos hlt
    rw [e1]
    clear e1
    generalize (wideS s).1 = N at *
    generalize (wideS s).2 = s' at *
    have t1 : decide ((m : Int) < (N : Int)) = true := by simp; omega
    go_enter Try.func102, Try.ntmps102
    go_wp2_with (first
      | (go_at_call 101; refine HT.out.mono ?_; rintro e w2 ⟨rfl, hr, ho⟩; obtain ⟨v, ok, c, hb, hsl, hl, hgX, hX, hst⟩ := hr; have f1 := hb.frozen 1; have c1 := hb.cell 1))
    go_ret
    exact ⟨rfl, ⟨v, false, c, hb.set_ 1 _, hsl.outOnly ((Only.refl g w2).set_ 1 _) hgX, hl, hgX, fun k hk => Nat.lt_of_lt_of_le (hX k hk) (by simp [World.setCell]), .inl ⟨rfl, rfl⟩⟩, ho.trans ((Only.refl _ _).set_ _ _)⟩
  · have e1 : cntS m s = wideS s := if_neg hlt
    rw [e1]
    clear e1
    generalize (wideS s).1 = N at *
    generalize (wideS s).2 = s' at *
    have t1 : decide ((m : Int) < (N : Int)) = false := by simp; omega
    go_enter Try.func102, Try.ntmps102
    go_wp2_with (first
      | (go_at_call 101; refine HT.out.mono ?_; rintro e w2 ⟨rfl, hr, ho⟩))
    go_ret
    exact ⟨ret_int (by first | rfl | (unfold wrap64; omega)), hr, ho⟩
end
end Go.Proofs.Ytjchobncmogcpaa
