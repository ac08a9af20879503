/- The asker: begin. -/
import Derived.Test.YtimlbebockfioaaAsk
namespace Go.Proofs.Ytimlbebockfioaa
open Go.RowKit

/-- What a call comes to: what it gives is nobody's. -/
def AkRes (col : Nat → Nat) (w : World) (ga gq gt b gs : Nat) (most room : Int) (s : Ak) (u : Value) (xs : List Tk) (w' : World) : Prop :=
  ∃ col' : Nat → Nat, AkAt col' w' ga gq gt b gs most room s ∧ (∀ k, col' k = col k ∨ Proofs.Ytimlbebockfioaa.fresh w w' k) ∧ IsSlice repTk w' (fun k => Proofs.Ytimlbebockfioaa.fresh w w' k ∧ col' k = 0) u xs ∧ Out (fun k => col k ≠ 0) w w'
set_option maxRecDepth 100000
section
variable {col : Nat → Nat} {w : World} {ga gq gt b gs : Nat} {most room : Int} {s : Ak}
set_option maxHeartbeats 1000000 in
theorem akBegin_any (h : AkAt col w ga gq gt b gs most room s) (hT : Asc s.T) (hD : s.D.length ≤ 1000) (hU : s.U.length ≤ 1000) (hw : ∀ d ∈ s.D, (Lit.int .u64 d).wf = true) :
    Calls Try.prog 54 #[.pointer (some ⟨ga, 0, none⟩)] w fun e w' => ∃ u, e = .returned u ∧ AkRes col w ga gq gt b gs most room (beginK s) u (asksK (beginK s)) w' := by
  have HNX := hid (srcNext_any _ _ w gs s.D s.U h.src hD hU hw)
  have HA := hid h
  obtain ⟨tv, hb, _⟩ := h.is
  have HB := hid hb
  obtain ⟨_, c1, c2, _, _, c5, c6, c7, c8⟩ := akCellsAt hb
  obtain ⟨NV, hNV⟩ : ∃ NV, NV = nextV s.D s.U.length := ⟨_, rfl⟩
  have hbk : beginK s = ⟨s.q, tset s.T ⟨0, 1, 1⟩, s.D, s.U ++ [NV], s.acc, NV, 0, false, s.told⟩ := by rw [hNV]; rfl
  rw [← hNV] at HNX
  rw [hbk]
  have hag : ga ≠ gs := fun e => by have h1 := h.ca; rw [e, h.cs] at h1; omega
  have HAS := hid fun (w1 : World) (s1 : Ak) (c1 : Nat → Nat) (h1 : AkAt c1 w1 ga gq gt b gs most room s1) => akAsks_any h1
  have HST := hid fun w1 (ht : TmAt w1 gt b most s.T) => tmSet_any w1 gt b most s.T ht hT 0
  clear h hb hNV hbk hT hD hU hw
  go_enter Try.func54, Try.ntmps54
  go_upto_region 2 with (go_at_call 79; refine HNX.out.mono ?_; rintro e w3 ⟨rfl, FU', hs3, hF3, ho3⟩; have hb3 := HB.out.out ho3 (fun hy => hy.elim hag fun e => by have h1 := HA.out.ca; omega); have y5 := hb3.frozen 5; have y6 := hb3.frozen 6; have y7 := hb3.frozen 7; have i5 := hb3.cell 5; have i6 := hb3.cell 6; have i7 := hb3.cell 7)
  have hA3 := HA.out.source hs3 hF3 ho3
  have ho4 : Only ga w3 (((w3.setCell ⟨ga, 5, none⟩ (.int .u64 NV)).setCell ⟨ga, 6, none⟩ (.int .u64 0)).setCell ⟨ga, 7, none⟩ (.bool false)) := (((Only.refl _ _).set_ _ _).set_ _ _).set_ _ _
  have hb4 : Blk (((w3.setCell ⟨ga, 5, none⟩ (.int .u64 NV)).setCell ⟨ga, 6, none⟩ (.int .u64 0)).setCell ⟨ga, 7, none⟩ (.bool false)) ga 112 (akCells gq gt gs s.acc s.told.length NV 0 false tv) := ((hb3.set_ 5 (.int .u64 NV)).set_ 6 (.int .u64 0)).set_ 7 (.bool false)
  have hA4 := hA3.own ho4 (hb3.cell 8) hb4
  generalize ((w3.setCell ⟨ga, 5, none⟩ (.int .u64 NV)).setCell ⟨ga, 6, none⟩ (.int .u64 0)).setCell ⟨ga, 7, none⟩ (.bool false) = w4 at *
  have d1 := (akCellsAt hb4).2.1
  have HA4 := hid hA4
  have HST4 := hid (HST.out _ hA4.tm)
  clear hA3 hA4 hb3 hb4 y5 y6 y7 i5 i6 i7 c1 c2 c5 c6 c7 c8 hs3 hF3
  go_wp2_with (first
    | (go_at_call 69; refine HST4.out.mono ?_; rintro e w5 ⟨rfl, ht5, ho5⟩; have hA5 := HA4.out.timer ho5 ht5)
    | (go_at_call 55; refine (HAS.out _ _ _ hA5).mono ?_; rintro e w6 ⟨u, rfl, hu, hx6⟩))
  go_ret
  have hz3 := ho3.size
  have hz4 := ho4.size
  have hz5 := ho5.size
  have hz6 := hx6.size
  refine ⟨u, rfl, _, hA5.ext hx6, fun k => ?_, hu.keep fun k hk => ⟨⟨⟨by have := hk.1; omega, hk.2⟩, ?_⟩, fun _ => rfl⟩, ?_⟩
  · by_cases hn : w.heap.size ≤ k ∧ k < w3.heap.size
    · exact .inr ⟨hn.1, by omega⟩
    · unfold recol; rw [if_neg hn]; exact .inl rfl
  · have hk1 := hk.1
    unfold recol
    rw [if_neg (by omega)]
    exact Classical.byContradiction fun hc => by have := HA.out.lt k hc; omega
  · have o3 : Out (fun k => col k ≠ 0) w w3 := ho3.mono fun k hk => hk.elim (fun e => by rw [e, HA.out.cs]; omega) fun e => by omega
    exact ((o3.trans (Out.of_only ho4 (by rw [HA.out.ca]; omega))).trans (Out.of_only ho5 (by rw [HA.out.cb]; omega))).then hx6
end
end Go.Proofs.Ytimlbebockfioaa
