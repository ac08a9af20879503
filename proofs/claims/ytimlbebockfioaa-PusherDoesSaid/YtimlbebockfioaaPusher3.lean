/- The pusher: sent. -/
import Derived.Test.YtimlbebockfioaaPusher2
namespace Go.Proofs.Ytimlbebockfioaa
open Go.RowKit

theorem elem_sl : ElemInfo Try.prog 41 4 48 := elemInfo (z := .agg #[.bool false, .int .i64 0, .int .u64 0, .slice none 0 0]) (by kernel_rfl) rfl
def natsI (l : List Nat) : List Int := List.map Int.ofNat l
set_option maxRecDepth 100000
section
set_option maxHeartbeats 2000000 in
theorem psSent_any (F : Nat → Prop) (w : World) (gp gt b : Nat) (c : Cfg) (s : Ps) (h : PsAt F w gp gt b c s) (hc : c.m ≤ 65536) (ps : List Nat) (hps : ∀ p ∈ ps, s.base ≤ p ∧ p < s.acc.length) (hl : s.acc.length ≤ 1000000) (h64 : ∀ x ∈ s.acc, x.length ≤ 64) (hpn : ps.length ≤ 100000) (v : Value) (hv : IsSlice (repInt .i64) w (all w) v (natsI ps)) :
    Calls Try.prog 43 #[.pointer (some ⟨gp, 0, none⟩), v] w fun e w' => ∃ u, e = .returned u ∧ IsSlice repSl w' (fresh w w') u (ps.map (slideOf c.m s)) ∧ Ext w w' := by
  obtain ⟨A, n, cc, rfl, hnc, hcm, hrow⟩ := hv
  have hn := hrow.1
  have hn' : ps.length = n := by unfold natsI at hn; rw [List.length_map] at hn; exact hn
  have hx1 := ext_alloc w (.cells #[.pointer (some ⟨gp, 0, none⟩)] 26)
  have hb1 := Blk.new w 26 #[.pointer (some ⟨gp, 0, none⟩)]
  have HH := hid h
  have HN := hid hn'
  have HPS := hid hps
  have H64 := hid h64
  have hn1 : n ≤ 100000 := by omega
  unfold maxLen at hcm
  clear h hn hn' hps h64 hpn
  go_enter Try.func43, Try.ntmps43
  go_wp2
  go_loopw [6, 12] (fun ov i wr => ∃ k : Nat, k ≤ n ∧ i = .int .i64 k ∧ Own repSl 41 (w.heap.size + 1) wr ov ((ps.take k).map (slideOf c.m s)) ∧ Ext (w.alloc (.cells #[.pointer (some ⟨gp, 0, none⟩)] 26)) wr) (fun _ i _ => n - (intOf i).toNat)
  case atStart => exact ⟨0, Nat.zero_le _, rfl, own_nil _ _ _ _, Below.refl _ _⟩
  case round =>
    obtain ⟨k, hk, rfl, hown, hxr⟩ := hrel
    have hxw := Ext.trans hx1 hxr
    have hszr : w.heap.size + 1 ≤ wr.heap.size := by have := hxr.size; simp at this; omega
    by_cases hlt : k < n
    · obtain ⟨bk, off, y, rfl, hbW, hy, hcy, _⟩ := hrow.int hlt
      have hkp : k < ps.length := by have := HN.out; omega
      have hpk : ps[k]? = some ps[k] := List.getElem?_eq_getElem hkp
      obtain ⟨p, hp⟩ : ∃ p, p = ps[k] := ⟨_, rfl⟩
      rw [← hp] at hpk
      have hyp : y = (p : Int) := by
        unfold natsI at hy
        rw [List.getElem?_map, hpk] at hy
        simpa using hy.symm
      subst hyp
      obtain ⟨p1, p2⟩ := HPS.out p (List.mem_of_getElem? hpk)
      have hxp : s.acc[p]? = some s.acc[p] := List.getElem?_eq_getElem p2
      obtain ⟨x, hx⟩ : ∃ x, x = s.acc[p] := ⟨_, rfl⟩
      rw [← hx] at hxp
      have hx64 := H64.out x (List.mem_of_getElem? hxp)
      have hsl : slideOf c.m s p = ⟨false, modV p c.m, 0, x⟩ := by
        unfold slideOf
        rw [List.getD_eq_getElem?_getD, hxp]
        rfl
      have htk := take_succ_of hpk
      have hmap : (ps.take (k + 1)).map (slideOf c.m s) = (ps.take k).map (slideOf c.m s) ++ [⟨false, modV p c.m, 0, x⟩] := by
        rw [htk, List.map_append, List.map_cons, List.map_nil, hsl]
      have HMAP := hid hmap
      have HSL := hid (psSlide_any F wr gp gt b c s (HH.out.ext hxw) hc p p1 x hxp hl hx64 w.heap.size ((hxr.cell (by simp) 0).trans (hb1.cell 0)))
      have hcy' := (hxw.cell hbW _).trans hcy
      have hlen : ((ps.take k).map (slideOf c.m s)).length = k := by rw [List.length_map, List.length_take]; omega
      have HLEN := hid hlen
      obtain ⟨sq, hsq⟩ : ∃ sq, sq = modV p c.m := ⟨_, rfl⟩
      rw [← hsq] at HSL HMAP
      obtain ⟨L, hL⟩ : ∃ L, L = (ps.take k).map (slideOf c.m s) := ⟨_, rfl⟩
      rw [← hL] at hown HLEN HMAP
      clear hsl htk hmap hpk hp hx hxp hlen hsq hL hy hcy p1 p2
      go_wp2_with (first
        | (go_at_call 70; refine HSL.out.mono ?_; rintro e w3 ⟨u, rfl, hu, hx3⟩; have hu4 := hu.newer (fun q hq => hown.lt q hq) hszr; have hown3 := hown.ext hx3; obtain ⟨Au, cu, rfl⟩ := hu.shape; clear hu)
        | (at_builtin; refine wpl_app1 (r := repSl) (base := w.heap.size + 1) (x := ⟨false, sq, 0, x⟩) (cs := #[.bool false, .int .i64 sq, .int .u64 0, .slice Au x.length cu]) _ _ rfl rfl Try.underlying36 elem_sl (by decide) hown3 rfl rfl rfl ⟨_, rfl, hu4⟩ (by rw [HLEN.out]; omega) (by rw [HLEN.out]; simp only [maxLen]; omega) (Nat.le_trans hszr hx3.size) ?_; intro v5 w5 hown5 hg5))
      go_roundw
      case rel => exact ⟨k + 1, by omega, by go_num, by rw [HMAP.out]; exact hown5, Below.grown (Ext.trans hxr hx3) hg5 (by simp; have := hx3.size; omega) (fun q hq => by have := (hown3.lt q hq).1; simp; omega)⟩
      case measure => simp [intOf]; omega
    · obtain rfl : k = n := by omega
      have htl : ps.take k = ps := List.take_of_length_le (by have := HN.out; omega)
      rw [htl] at hown
      go_wp2
      go_ret
      exact ⟨_, rfl, hown.own.keep (fun q hq => ⟨⟨by have := hq.1; omega, hq.2⟩, fun _ => rfl⟩), hxw⟩
end
end Go.Proofs.Ytimlbebockfioaa
