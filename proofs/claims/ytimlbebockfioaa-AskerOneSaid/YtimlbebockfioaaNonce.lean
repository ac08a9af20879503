/- A source of numbers. -/
import Derived.Test.YtimlbebockfioaaFoot
import Derived.Deep.DeepCutAuto
import Derived.WalkArith
import Derived.Test.YtimlbebockfioaaRows
namespace Go.Proofs.Ytimlbebockfioaa
open Go.RowKit

/-- The n'th number. -/
def nextV (D : List Int) (n : Nat) : Int := if h : n < D.length then D[n] else 9223372036854775808 + ((n - D.length : Nat) : Int)
/-- FD: where the numbers lie that were handed in; FU: those that were drawn. -/
structure SrcAt (FD FU : Nat → Prop) (w : World) (gs : Nat) (D U : List Int) : Prop where
  nd : ¬ FD gs
  nu : ¬ FU gs
  du : ∀ q, FD q → ¬ FU q
  lt : ∀ q, FD q ∨ FU q → q < w.heap.size
  is : ∃ dv uv, Blk w gs 115 #[.bool true, dv, uv] ∧ IsSlice (repInt .u64) w FD dv D ∧ RowF FU (repInt .u64) 22 w uv U
section
variable {FD FU Y : Nat → Prop} {w w' : World} {gs : Nat} {D U : List Int}
theorem SrcAt.ltp (h : SrcAt FD FU w gs D U) : gs < w.heap.size := by obtain ⟨dv, uv, h1, _⟩ := h.is; exact h1.lt
theorem SrcAt.away (h : SrcAt FD FU w gs D U) (ho : Out Y w w') (hY : ∀ q, Y q → q ≠ gs ∧ ¬ FD q ∧ ¬ FU q) : SrcAt FD FU w' gs D U := by
  obtain ⟨dv, uv, h1, h2, h3⟩ := h.is
  exact ⟨h.nd, h.nu, h.du, fun q hq => Nat.lt_of_lt_of_le (h.lt q hq) ho.size, dv, uv, h1.out ho fun hy => (hY gs hy).1 rfl, h2.keep fun q hq => ⟨hq, fun o => ho.cell (h.lt q (.inl hq)) (fun hy => (hY q hy).2.1 hq) o⟩, h3.frame ho.size fun k hk hF => ho.block k hk fun hy => (hY k hy).2.2 hF⟩
theorem SrcAt.ext (h : SrcAt FD FU w gs D U) (he : Ext w w') : SrcAt FD FU w' gs D U := h.away (Y := fun _ => False) (Out.of_ext he) fun _ h => h.elim
end
theorem info_u64N : ElemInfo Try.prog 22 1 8 := elemInfo (z := .int .u64 0) (by kernel_rfl) rfl
set_option maxRecDepth 100000
section
theorem srcIs_any (w : World) (gs : Nat) (dv uv : Value) (h : Blk w gs 115 #[.bool true, dv, uv]) :
    Calls Try.prog 88 #[.pointer (some ⟨gs, 0, none⟩)] w fun e w' => e = .returned (.bool true) ∧ w = w' := by
  have c0 := h.cell 0
  clear h
  go_enter Try.func88, Try.ntmps88
  go_wp2
  go_ret
  exact ⟨rfl, rfl⟩
set_option maxHeartbeats 1000000 in
theorem srcNext_any (FD FU : Nat → Prop) (w : World) (gs : Nat) (D U : List Int) (h : SrcAt FD FU w gs D U) (hD : D.length ≤ 1000) (hU : U.length ≤ 1000) (hw : ∀ d ∈ D, (Lit.int .u64 d).wf = true) :
    Calls Try.prog 79 #[.pointer (some ⟨gs, 0, none⟩)] w fun e w' => e = .returned (.int .u64 (nextV D U.length)) ∧ ∃ FU' : Nat → Prop, SrcAt FD FU' w' gs D (U ++ [nextV D U.length]) ∧ (∀ q, FU' q → FU q ∨ Proofs.Ytimlbebockfioaa.fresh w w' q) ∧ Out (fun q => q = gs ∨ FU q) w w' := by
  obtain ⟨dv, uv, hb, hd, hu⟩ := h.is
  have HI := hid (srcIs_any w gs dv uv hb)
  have HH := hid h
  have HB := hid hb
  have HU0 := hid hu
  have HW := hid hw
  obtain ⟨Ad, nd, cd, rfl, hnd, hcd, hrd⟩ := hd
  obtain ⟨Au, cu, rfl, _⟩ := hu.len
  have hnD := hrd.1
  have c1 : w.cell? ⟨gs, 1, none⟩ = some (.slice Ad nd cd) := hb.cell 1
  have c2 : w.cell? ⟨gs, 2, none⟩ = some (.slice Au U.length cu) := hb.cell 2
  have k2 := hb.frozen 2
  obtain ⟨n, hn⟩ : ∃ n, n = U.length := ⟨_, rfl⟩
  rw [← hn] at c2 hU HU0 HB ⊢
  have HN := hid hn
  obtain ⟨NV, hNV⟩ : ∃ NV, NV = nextV D n := ⟨_, rfl⟩
  rw [← hNV]
  have hgl := hb.lt
  have hfin : ∀ v5 w5, RowF (grow FU w w5) (repInt .u64) 22 w5 v5 (U ++ [NV]) → Out (fun q => (Value.slice Au n cu).ownBlock = some q ∧ FU q) w w5 → SrcAt FD (grow FU w (w5.setCell ⟨gs, 2, none⟩ v5)) (w5.setCell ⟨gs, 2, none⟩ v5) gs D (U ++ [NV]) ∧ Out (fun q => q = gs ∨ FU q) w (w5.setCell ⟨gs, 2, none⟩ v5) := fun v5 w5 h5 o5 => by
    have ho : Only gs w5 (w5.setCell ⟨gs, 2, none⟩ v5) := (Only.refl _ _).set_ _ _
    have hb5 := HB.out.out o5 (fun hy => HH.out.nu hy.2)
    have hout : Out (fun q => q = gs ∨ FU q) w (w5.setCell ⟨gs, 2, none⟩ v5) := (o5.mono fun q hq => .inr hq.2).trans (Out.of_only ho (.inl rfl))
    have hsz := o5.size
    refine ⟨⟨HH.out.nd, fun hq => ?_, fun q hq hq' => ?_, fun q hq => ?_, _, v5, hb5.set_ 2 v5, ?_, ?_⟩, hout⟩
    · rcases hq with hq | hq
      · exact HH.out.nu hq
      · omega
    · rcases hq' with hq' | hq'
      · exact HH.out.du q hq hq'
      · have := HH.out.lt q (.inl hq); omega
    · rcases hq with hq | hq | hq
      · exact Nat.lt_of_lt_of_le (HH.out.lt q (.inl hq)) hout.size
      · exact Nat.lt_of_lt_of_le (HH.out.lt q (.inr hq)) hout.size
      · exact hq.2
    · obtain ⟨dv', uv', hb', hd', _⟩ := HH.out.is
      have he : Obj.cells #[.bool true, dv', uv'] 115 (0, 0) = Obj.cells #[.bool true, .slice Ad nd cd, .slice Au n cu] 115 (0, 0) := by
        have := hb'.symm.trans HB.out
        injection this
      injection he with he _ _
      have hve : dv' = .slice Ad nd cd := by
        have := congrArg (fun a : Array Value => a[1]?) he
        simpa using this
      rw [hve] at hd'
      exact hd'.keep fun q hq => ⟨hq, fun o => hout.cell (HH.out.lt q (.inl hq)) (fun hy => hy.elim (fun e => HH.out.nd (e ▸ hq)) fun e => HH.out.du q hq e) o⟩
    · refine RowF.mono (h5.frame ho.size fun k hk hF => ho.block k hk fun e => ?_) fun q hq hF => hF.elim .inl fun e => .inr ⟨e.1, hq⟩
      injection e with e
      subst e
      exact hF.elim HH.out.nu fun e => by omega
  have HFIN := hid hfin
  have hroom : (n + 1) * 8 ≤ 140737488355328 ∧ n + 1 ≤ maxLen := by unfold maxLen; omega
  have HR := hid hroom
  unfold maxLen at hcd
  clear h hb hu hfin hroom hn hw
  by_cases hlt : n < D.length
  · obtain ⟨bk, off, y, rfl, hbk, hy, hcy, hwy⟩ := hrd.int (show n < nd by omega)
    have hyv : NV = y := by
      rw [hNV]
      unfold nextV
      rw [dif_pos hlt]
      rw [List.getElem?_eq_getElem hlt] at hy
      injection hy
    subst hyv
    have d1 : decide (n < nd) = true := decide_eq_true (by omega)
    have d2 : decide ((n : Int) < (nd : Int)) = true := decide_eq_true (by omega)
    have HWY := hid hwy
    have hlN : n < nd := by omega
    have hlI : (n : Int) < (nd : Int) := by omega
    clear hrd hnD hNV hy hwy hlt
    go_enter Try.func79, Try.ntmps79
    go_wp2_with (first
      | (go_at_call 88; refine HI.out.mono ?_; rintro e w2 ⟨rfl, rfl⟩)
      | (at_builtin; refine wpl_rowF (S := FU) (r := repInt .u64) (x := NV) (cs := #[.int .u64 NV]) _ _ rfl rfl Try.underlying57 info_u64N (by decide) HU0.out rfl rfl rfl ⟨rfl, HWY.out⟩ (by rw [← HN.out]; exact HR.out.1) (by rw [← HN.out]; exact HR.out.2) ?_; intro v5 w5 hrow5 hg5 hsh5; rw [← HN.out] at hsh5; obtain ⟨A5, c5, rfl⟩ := hsh5; have hb5 := HB.out.out hg5 (fun hy => HH.out.nu hy.2); have f2 := hb5.cell 2; have y2 := hb5.frozen 2))
    go_ret
    have hF := HFIN.out _ _ hrow5 hg5
    exact ⟨rfl, _, hF.1, fun q hq => hq.elim .inl fun e => .inr e, hF.2⟩
  · have hyv : NV = 9223372036854775808 + ((n : Int) - (nd : Int)) := by
      rw [hNV]
      unfold nextV
      rw [dif_neg hlt]
      omega
    have d1 : decide (n < nd) = false := decide_eq_false (by omega)
    have d2 : decide ((n : Int) < (nd : Int)) = false := decide_eq_false (by omega)
    have hwn : IntKind.u64.wrap (9223372036854775808 + ((n : Int) - (nd : Int))) = NV := by rw [hyv]; exact IntWalk.u64_in _ (by omega)
    have hwy : (Lit.int .u64 NV).wf = true := WalkArith.wf_u64 ⟨by omega, by omega⟩
    have hb1 : 0 ≤ (n : Int) - (nd : Int) ∧ (n : Int) - (nd : Int) ≤ 1000 := by omega
    have HWY := hid hwy
    clear hrd hnD hNV hwy hlt hyv
    go_enter Try.func79, Try.ntmps79
    go_wp2_with (first
      | (go_at_call 88; refine HI.out.mono ?_; rintro e w2 ⟨rfl, rfl⟩)
      | (at_builtin; refine wpl_rowF (S := FU) (r := repInt .u64) (x := NV) (cs := #[.int .u64 NV]) _ _ rfl rfl Try.underlying57 info_u64N (by decide) HU0.out rfl rfl rfl ⟨rfl, HWY.out⟩ (by rw [← HN.out]; exact HR.out.1) (by rw [← HN.out]; exact HR.out.2) ?_; intro v5 w5 hrow5 hg5 hsh5; rw [← HN.out] at hsh5; obtain ⟨A5, c5, rfl⟩ := hsh5; have hb5 := HB.out.out hg5 (fun hy => HH.out.nu hy.2); have f2 := hb5.cell 2; have y2 := hb5.frozen 2))
    go_ret
    have hF := HFIN.out _ _ hrow5 hg5
    exact ⟨rfl, _, hF.1, fun q hq => hq.elim .inl fun e => .inr e, hF.2⟩
end
end Go.Proofs.Ytimlbebockfioaa
