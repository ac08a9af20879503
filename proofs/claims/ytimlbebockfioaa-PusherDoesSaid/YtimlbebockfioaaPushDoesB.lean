/- The law PusherDoes: settings that may not be; lists that are too long; as its frame asks for it. -/
import Derived.Test.YtimlbebockfioaaPushDoes
import Derived.Test.YtimlbebockfioaaPushActF
namespace Go.Proofs.Ytimlbebockfioaa
open Go.RowKit

set_option maxRecDepth 100000
section
set_option maxHeartbeats 2000000 in
theorem pushDoes_huge (c : Cfg) (v : Value) (acts : List Ac) (W : World) (o1 : IsSlice repAc W (all W) v acts) (hhg : hugeA acts = true) :
    Calls Try.prog 6 #[.agg (cfgVals c).toArray, v] W fun e w' => e = .returned (.bool true) ∧ Ext W w' := by
  have HLV := hid pushLive_any
  have hx := ext_alloc W (.cells (cfgVals c).toArray 24)
  have HHG := hid (hugeA_any v acts _ (o1.ext hx))
  rw [hhg] at HHG
  obtain ⟨A, n, cc, rfl, _, _, _⟩ := o1
  clear hhg
  unfold cfgVals at *
  go_enter Try.func6, Try.ntmps6
  go_wp2_with (first
    | (go_at_call 8; refine HHG.out.mono ?_; rintro e w2 ⟨rfl, rfl⟩)
    | (go_at_call 10; refine (HLV.out _).mono ?_; rintro e w8 ⟨rfl, hx8⟩))
  go_ret
  exact ⟨rfl, Ext.trans hx hx8⟩
set_option maxHeartbeats 2000000 in
theorem pushDoes_bad (c : Cfg) (ev : Int) (hN : ∀ W, Calls Try.prog 7 #[.agg (cfgVals c).toArray] W fun e w' => e = .returned (.tuple #[.pointer none, .int .i64 ev]) ∧ Ext W w')
    (hR : ∀ W, Calls Try.prog 16 #[.agg (cfgVals c).toArray] W fun e w' => e = .returned (.tuple #[.pointer none, .int .i64 ev]) ∧ Ext W w') (v : Value) (acts : List Ac) (W : World) (o1 : IsSlice repAc W (all W) v acts) (hhg : hugeA acts = false) :
    Calls Try.prog 6 #[.agg (cfgVals c).toArray, v] W fun e w' => e = .returned (.bool true) ∧ Ext W w' := by
  have HLV := hid pushLive_any
  have hb := Blk.new W 24 (cfgVals c).toArray
  have hx := ext_alloc W (.cells (cfgVals c).toArray 24)
  have HHG := hid (hugeA_any v acts _ (o1.ext hx))
  rw [hhg] at HHG
  obtain ⟨A, n, cc, rfl, _, hcm, _⟩ := o1
  have HNP := hid hN
  have HNR := hid hR
  have hee : (ev != ev) = false := by simp
  unfold maxLen at hcm
  clear hhg hN hR
  unfold cfgVals at *
  have b0 := hb.cell 0
  have b1 := hb.cell 1
  have b2 := hb.cell 2
  have b3 := hb.cell 3
  have b4 := hb.cell 4
  have b5 := hb.cell 5
  have b6 := hb.cell 6
  go_enter Try.func6, Try.ntmps6
  go_wp2_with (first
    | (go_at_call 8; refine HHG.out.mono ?_; rintro e w2 ⟨rfl, rfl⟩)
    | (go_at_call 7; refine (HNP.out _).mono ?_; rintro e w3 ⟨rfl, hx3⟩; have hbb3 := hb.ext hx3; have b0 := hbb3.cell 0; have b1 := hbb3.cell 1; have b2 := hbb3.cell 2; have b3 := hbb3.cell 3; have b4 := hbb3.cell 4; have b5 := hbb3.cell 5; have b6 := hbb3.cell 6)
    | (go_at_call 16; refine (HNR.out _).mono ?_; rintro e w4 ⟨rfl, hx4⟩)
    | (go_at_call 9; refine (anum_any _ _).mono ?_; rintro e w5 ⟨rfl, rfl⟩))
  go_loopw [9] (fun i wr => i = .int .i64 0 ∧ wr = w4) (fun _ _ => 0)
  case atStart => exact ⟨rfl, rfl⟩
  case round =>
    obtain ⟨rfl, rfl⟩ := hrel
    by_cases h0 : n = 0
    · subst h0
      go_wp2_with (go_at_call 10; refine (HLV.out _).mono ?_; rintro e w8 ⟨rfl, hx8⟩)
      go_ret
      exact ⟨rfl, Ext.trans (Ext.trans (Ext.trans hx hx3) hx4) hx8⟩
    · have hn0 : 0 < n := by omega
      clear h0
      go_wp2_with (go_at_call 10; refine (HLV.out _).mono ?_; rintro e w8 ⟨rfl, hx8⟩)
      go_ret
      exact ⟨rfl, Ext.trans (Ext.trans (Ext.trans hx hx3) hx4) hx8⟩
theorem pusherDoes_main (c : Cfg) (hw : (Lit.int .i64 c.w).wf = true) (v : Value) (acts : List Ac) (W : World) (o1 : IsSlice repAc W (all W) v acts) :
    Calls Try.prog 6 #[.agg (cfgVals c).toArray, v] W fun e w' => e = .returned (.bool true) ∧ Ext W w' := by
  cases h4 : hugeA acts with
  | true => exact pushDoes_huge c v acts W o1 h4
  | false =>
    by_cases h1 : checkV c.w c.m c.l = 0
    · by_cases h2 : c.b < 1 ∨ 64 < c.b
      · exact pushDoes_bad c 1 (fun W => newPsB_any W c hw h1 h2) (fun W => newRpB_any W c hw h1 h2) v acts W o1 h4
      · by_cases h3 : c.room < 1 ∨ 16 < c.room
        · exact pushDoes_bad c 1 (fun W => newPsRoom_any W c hw h1 (by omega) (by omega) h3) (fun W => newRpRoom_any W c hw h1 (by omega) (by omega) h3) v acts W o1 h4
        · have hok := cfg_okP h1 (by omega) (by omega)
          have := hok.w1
          exact pushDoes_main c c.w.toNat c.room.toNat ⟨hok, by omega, by omega, by omega, by omega⟩ hw h1 v acts W o1 h4
    · exact pushDoes_bad c _ (fun W => newPsBad_any W c hw h1) (fun W => newRpBad_any W c hw h1) v acts W o1 h4
theorem pusherDoes_any (cs : Array Value) (c : Cfg) (S : Nat → Prop) (v : Value) (acts : List Ac) (W : World) (h : repCfg.holds W S (Value.agg cs).cells.toList c) (o1 : IsSlice repAc W (all W) v acts) :
    Calls Try.prog 6 #[.agg cs, v] W fun e w' => e = .returned (.bool true) ∧ Ext W w' := by
  obtain ⟨hcs, hw, _, _, _⟩ := h
  obtain ⟨l⟩ := cs
  have hl : l = cfgVals c := by simpa [Value.cells] using hcs
  subst hl
  exact pusherDoes_main c hw v acts W o1
end
end Go.Proofs.Ytimlbebockfioaa
