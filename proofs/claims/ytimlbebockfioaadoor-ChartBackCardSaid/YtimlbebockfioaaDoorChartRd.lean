/- The walk of Read: lines, read as events, or the first that is none. -/
import Derived.Test.YtimlbebockfioaaDoorChartO
namespace Go.Proofs.YtimlbebockfioaaDoor
open Go.RowKit

def AllOk (xs : List ByteArray) (evs : List Ev) : Prop := xs.map (fun b => parseG b.data.toList) = evs.map some
theorem AllOk.snoc {xs : List ByteArray} {evs : List Ev} (h : AllOk xs evs) {x : ByteArray} {e : Ev} (hx : parseG x.data.toList = some e) : AllOk (xs ++ [x]) (evs ++ [e]) := by
  unfold AllOk at h ⊢
  rw [List.map_append, List.map_append, h]
  simp [hx]
theorem AllOk.len {xs : List ByteArray} {evs : List Ev} (h : AllOk xs evs) : evs.length = xs.length := by
  have := congrArg List.length h
  simpa using this.symm
theorem AllOk.unique {xs : List ByteArray} {evs evs' : List Ev} (h : AllOk xs evs) (h' : AllOk xs evs') : evs = evs' := by
  have h2 := h.symm.trans h'
  exact List.map_inj_right (fun _ _ e => Option.some.inj e) |>.1 h2
def ReadOut (xs : List ByteArray) (evs : List Ev) (n : Nat) (e : Int) : Prop := (e = 0 ∧ n = xs.length ∧ AllOk xs evs) ∨ (e = 320 ∧ evs = [] ∧ ∃ es x, AllOk (xs.take n) es ∧ xs[n]? = some x ∧ parseG x.data.toList = none)
def ReadRes (xs : List ByteArray) (w : World) : Ending → World → Prop := fun e w' => ∃ (u : Value) (n : Nat) (f : Int) (evs : List Ev), e = .returned (.tuple #[u, .int .i64 (n : Int), .int .i64 f]) ∧ ReadOut xs evs n f ∧ IsSlice repEv w' (fresh w w') u evs ∧ Ext w w'
theorem info_ev : ElemInfo Tryd.prog 24 4 48 := elemInfo (z := .agg #[.int .i64 0, .int .i64 0, .int .i64 0, .slice none 0 0]) (by kernel_rfl) rfl
set_option maxRecDepth 100000
section
set_option maxHeartbeats 2000000 in
theorem read_any (v : Value) (xs : List ByteArray) (w : World) (HL : Laid w) (h : IsSlice repString w (all w) v xs) (hl : xs.length ≤ 1000) (hlen : ∀ (j : Nat) x es, xs[j]? = some x → AllOk (xs.take j) es → x.size ≤ 1000) :
    Calls Tryd.prog 14 #[v] w (ReadRes xs w) := by
  obtain ⟨A, n, c, rfl, hnc, hcm, hrow⟩ := h
  have hn := hrow.1
  have HN := hid hn
  have hn1 : n ≤ 1000 := by omega
  have HLL := hid HL
  have HLEN := hid hlen
  clear hn hl HL hlen
  go_enter Tryd.func14, Tryd.ntmps14
  go_wp2
  go_loopw [5, 12] (fun u i wr => ∃ (j : Nat) (evs : List Ev), j ≤ n ∧ i = .int .i64 (j : Int) ∧ evs.length = j ∧ Wall (AllOk (xs.take j) evs ∧ Own repEv 24 w.heap.size wr u evs ∧ Ext w wr)) (fun _ i _ => n - (intOf i).toNat)
  case atStart => exact ⟨0, [], Nat.zero_le _, rfl, rfl, hid ⟨rfl, own_nil _ _ _ _, Below.refl _ _⟩⟩
  case round =>
    obtain ⟨j, evs, hj, rfl, hel, HP⟩ := hrel
    by_cases hjl : j < n
    · obtain ⟨b, off, us, x, rfl, hb, hx, hus, hc⟩ := hrow.get1 rfl hjl
      have hus' : us = .string x := by
        have : [us] = [Value.string x] := hus
        injection this
      subst hus'
      have q0 := (HP.out.2.2.cell hb _).trans hc
      have HPA : Wall (Calls Tryd.prog 8 #[.string x] wr (ParseRes x.data.toList wr)) := hid (by
        have := parse_any x.data.toList wr (HLL.out.ext HP.out.2.2) (HLEN.out j x evs hx HP.out.1)
        rwa [list_bstr] at this)
      have HXJ := hid hx
      have HTK := hid (take_succ_of hx)
      clear hx hus hc
      go_upto_region 6 with (go_at_call 8; refine HPA.out.mono ?_; rintro e w1 ⟨ev, u1, f, rfl, ho, hs, hx1⟩; obtain ⟨Au, cu, rfl⟩ := hs.shape)
      rcases ho with ⟨rfl, ho⟩ | ⟨rfl, ho, rfl⟩
      · have hsz := HP.out.2.2.size
        have hown1 := (HP.out.2.1.ext hx1).ext (ext_alloc w1 (.cells #[.int .i64 ev.step, .int .i64 ev.kind, .int .i64 ev.place, .slice Au ev.data.length cu] 24))
        have hs2 := (hs.later (ext_alloc w1 (.cells #[.int .i64 ev.step, .int .i64 ev.kind, .int .i64 ev.place, .slice Au ev.data.length cu] 24))).newer (fun q hq => HP.out.2.1.lt q hq) hsz
        have hx2 := Ext.trans HP.out.2.2 (Ext.trans hx1 (ext_alloc w1 (.cells #[.int .i64 ev.step, .int .i64 ev.kind, .int .i64 ev.place, .slice Au ev.data.length cu] 24)))
        have hbE := Blk.new w1 24 #[.int .i64 ev.step, .int .i64 ev.kind, .int .i64 ev.place, .slice Au ev.data.length cu]
        have HOK := hid (HTK.out ▸ AllOk.snoc HP.out.1 ho)
        obtain ⟨gE, hgE⟩ : ∃ gE, gE = w1.heap.size := ⟨_, rfl⟩
        rw [← hgE] at hbE ⊢
        have hhold : repEv.holds (w1.alloc (.cells #[.int .i64 ev.step, .int .i64 ev.kind, .int .i64 ev.place, .slice Au ev.data.length cu] 24)) (el w.heap.size (w1.alloc (.cells #[.int .i64 ev.step, .int .i64 ev.kind, .int .i64 ev.place, .slice Au ev.data.length cu] 24)) u5) [.int .i64 ev.step, .int .i64 ev.kind, .int .i64 ev.place, .slice Au ev.data.length cu] ev := ⟨_, rfl, hs2⟩
        generalize w1.alloc (.cells #[.int .i64 ev.step, .int .i64 ev.kind, .int .i64 ev.place, .slice Au ev.data.length cu] 24) = w2 at *
        have q1 := hbE.cell 0
        have q2 := hbE.cell 1
        have q3 := hbE.cell 2
        have q4 := hbE.cell 3
        have HH := hid (⟨hown1, hhold, hx2⟩ : Own repEv 24 w.heap.size w2 u5 evs ∧ repEv.holds w2 (el w.heap.size w2 u5) [.int .i64 ev.step, .int .i64 ev.kind, .int .i64 ev.place, .slice Au ev.data.length cu] ev ∧ Ext w w2)
        clear hs hs2 hown1 hx2 hhold hbE hgE ho HP HPA hx1 hsz q0
        go_wp2_with (at_builtin; refine wpl_app1 (r := repEv) (base := w.heap.size) (x := ev) (cs := #[.int .i64 ev.step, .int .i64 ev.kind, .int .i64 ev.place, .slice Au ev.data.length cu]) _ _ rfl rfl Tryd.underlying34 info_ev (by decide) HH.out.1 rfl rfl rfl HH.out.2.1 (by omega) (by simp only [maxLen]; omega) HH.out.2.2.size ?_; intro v' w9 hown9 hg9)
        go_roundw
        case rel => exact ⟨j + 1, evs ++ [ev], by omega, by go_num, by rw [List.length_append, hel]; rfl, hid ⟨HOK.out, hown9, Below.grown HH.out.2.2 hg9 HH.out.2.2.size (fun k hk => (HH.out.1.lt k hk).1)⟩⟩
        case measure => simp [intOf]; omega
      · have HO := hid (⟨evs, x, HP.out.1, HXJ.out, ho⟩ : ∃ es x, AllOk (xs.take j) es ∧ xs[j]? = some x ∧ parseG x.data.toList = none)
        have HXX := hid (Ext.trans HP.out.2.2 (Ext.trans hx1 (ext_alloc w1 (.cells #[.int .i64 0, .int .i64 0, .int .i64 0, .slice Au 0 cu] 24))))
        simp only [List.length_nil]
        generalize w1.alloc (.cells #[.int .i64 0, .int .i64 0, .int .i64 0, .slice Au 0 cu] 24) = w2 at *
        clear hs hx1 ho HP
        go_wp2
        refine bodyPost_ret (v := .tuple #[.slice none 0 0, .int .i64 (j : Int), .int .i64 320]) (by simp [results, Tryd.results14, go_sem]) rfl ?_
        exact ⟨_, j, 320, [], rfl, .inr ⟨rfl, rfl, HO.out⟩, isSlice_nil _ _ _, HXX.out⟩
    · obtain rfl : j = n := by omega
      have hfin := HP.out.1
      rw [List.take_of_length_le (by rw [HN.out]; exact Nat.le_refl _)] at hfin
      have HF := hid hfin
      clear hfin
      go_wp2
      refine bodyPost_ret (v := .tuple #[u5, .int .i64 (j : Int), .int .i64 0]) (by simp [results, Tryd.results14, go_sem]) rfl ?_
      exact ⟨_, j, 0, evs, rfl, .inl ⟨rfl, HN.out.symm, HF.out⟩, HP.out.2.1.fresh, HP.out.2.2⟩
end
end Go.Proofs.YtimlbebockfioaaDoor
