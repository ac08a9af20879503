/- The statement SpanWaits: the walk of the law. -/
import Derived.Test.YtmllkniloalgoaaMost
namespace Go.Proofs.Ytmllkniloalgoaa
open Go.RowKit

section
variable {P : Program} {α : Type} {r : Rep α} {w : World} {ops : Array Oper} {o : Oper} {a : Act} {K : Act → World → Prop} {Q : Exit → Act → World → Prop} {E : Prop}
/-- 'append(out, x)' behind the new block, as a step of a region. -/
theorem step_app1 {base g : Nat} {t e : TypeId} {bytes : Nat} {v : Value} {xs : List α} {x : α} {cs : Array Value} (s y : Operand) (hgd : o.guard = none)
    (ho : o.op = .call { callee := .builtin .append, args := #[s, y], argTypes := #[t, t] }) (ht : P.underlying t = some (.slice e)) (hi : ElemInfo P e r.size bytes) (hsz : 0 < r.size)
    (hown : Own r e base w v xs) (hs : a.eval s = v) (hx : a.eval y = .slice (some ⟨g, 0, none⟩) 1 1) (hg : g = w.heap.size) (hu : r.holds w (el base w v) cs.toList x)
    (hbytes : (xs.length + 1) * bytes ≤ 140737488355328) (h63 : xs.length + 1 ≤ maxLen) (hbase : base ≤ w.heap.size)
    (h : ∀ v' w', Own r e base w' v' (xs ++ [x]) → w.grownBy w' v.ownBlock → K (a.put o.dst v') w') : if Region.wanted o (yielded ops a.tmps) = true then o.wp P a (w.alloc (.cells cs e)) K Q else E := by
  have hw : Region.wanted o (yielded ops a.tmps) = true := by simp [Region.wanted, hgd]
  rw [if_pos hw]
  subst hg
  refine wp_app s y ho ht hi hsz (hown.ext (ext_alloc w _)) (isSlice_one hu fun k hk => (hown.lt k hk).2) hs hx hbytes h63 (by simp; omega) fun v' w' h1 h2 _ => h v' w' h1 ?_
  refine ⟨h2.os, h2.tape, h2.output, Nat.le_trans (by simp) h2.size, fun k hk hne => (h2.block k (by simp; omega) hne).trans (Below.heap_alloc w _ k hk)⟩
end
def FairTo (l : List Sp) (k : Nat) : Prop := ∀ (j : Nat) (x : Sp), j < k → l[j]? = some x → Fair x
theorem fairTo_step {l : List Sp} {k : Nat} {x : Sp} (hx : l[k]? = some x) (h : FairTo l k) (hf : Fair x) : FairTo l (k + 1) := by
  intro j y hj hy
  rcases Nat.lt_or_ge j k with h1 | h1
  · exact h j y h1 hy
  · obtain rfl : j = k := by omega
    rw [hx] at hy
    injection hy with e
    subst e
    exact hf

set_option maxRecDepth 100000
section
theorem info_span : ElemInfo Try.prog 35 4 32 := elemInfo (z := .agg #[.int .i64 0, .int .i64 0, .int .i64 0, .int .i64 0]) (by kernel_rfl) rfl
set_option maxHeartbeats 1600000 in
theorem spanWaits_any (v u : Value) (xs : List Sp) (ns : List Int) (w : World) (h : IsSlice repSp w (all w) v xs) (h' : IsSlice (repInt .i64) w (all w) u ns) :
    Calls Try.prog 4 #[v, u] w fun e w' => e = .returned (.bool true) ∧ Ext w w' := by
  have hv := h
  have hu := h'
  obtain ⟨A, n, c, rfl, hnc, hcm, hrow⟩ := h
  obtain ⟨A', m, c', rfl, hmc, hcm', hrow'⟩ := h'
  have hn := hrow.1
  have hm := hrow'.1
  have hmax : n ≤ 9223372036854775807 := by unfold maxLen at hcm; omega
  by_cases hA : 60 < (n : Int)
  · clear hn hm
    go_enter Try.func4, Try.ntmps4
    go_wp2_with (go_at_call 6; refine (spanLive_any _).mono ?_; rintro e w1 ⟨rfl, hx1⟩)
    go_ret
    exact ⟨rfl, hx1⟩
  by_cases hB : 200 < (m : Int)
  · clear hn hm
    go_enter Try.func4, Try.ntmps4
    go_wp2_with (go_at_call 6; refine (spanLive_any _).mono ?_; rintro e w1 ⟨rfl, hx1⟩)
    go_ret
    exact ⟨rfl, hx1⟩
  have hn60 : n ≤ 60 := by omega
  have HN := hid hn
  have HM := hid hm
  clear hn hm
  go_enter Try.func4, Try.ntmps4
  go_wp2
  go_loopw [5, 6] (fun t i wr => ∃ k : Nat, k ≤ n ∧ i = .int .i64 k ∧ Own repSp 35 w.heap.size wr t (xs.take k) ∧ FairTo xs k ∧ Ext w wr) (fun _ i _ => n - (intOf i).toNat)
  case atStart => exact ⟨0, Nat.zero_le _, rfl, own_nil _ _ _ _, fun _ _ h => absurd h (by omega), Below.refl _ _⟩
  case round =>
    obtain ⟨k, hk, rfl, hown, hfair, hext⟩ := hrel
    have HFAIR := hid hfair
    clear hfair
    by_cases hlt : k < n
    · obtain ⟨b, off, x, rfl, hb, hx, d0, d1, d2, d3⟩ := hrow.sp hlt
      have hbw : b < w.heap.size := hb
      have c0 := (hext.cell hbw _).trans d0
      have c1 := (hext.cell hbw _).trans d1
      have c2 := (hext.cell hbw _).trans d2
      have c3 := (hext.cell hbw _).trans d3
      have HX := hid hx
      clear hx d0 d1 d2 d3
      by_cases h1 : x.sent < 0
      · go_wp2_with (go_at_call 6; refine (spanLive_any _).mono ?_; rintro e w1 ⟨rfl, hx1⟩)
        go_ret
        exact ⟨rfl, Ext.trans hext hx1⟩
      by_cases h2 : 1099511627776 < x.sent
      · go_wp2_with (go_at_call 6; refine (spanLive_any _).mono ?_; rintro e w1 ⟨rfl, hx1⟩)
        go_ret
        exact ⟨rfl, Ext.trans hext hx1⟩
      by_cases h3 : 1099511627776 < x.ret
      · go_wp2_with (go_at_call 6; refine (spanLive_any _).mono ?_; rintro e w1 ⟨rfl, hx1⟩)
        go_ret
        exact ⟨rfl, Ext.trans hext hx1⟩
      have HF : Hid (Fair x) := ⟨by omega, by omega, by omega⟩
      have hrel : ∀ w1, Below w.heap.size wr w1 → w1.cell? ⟨b, off + k * 4, none⟩ = some (.int .i64 x.place) ∧ w1.cell? ⟨b, off + k * 4 + 1, none⟩ = some (.int .i64 x.sent) ∧ w1.cell? ⟨b, off + k * 4 + 2, none⟩ = some (.int .i64 x.ret) ∧ w1.cell? ⟨b, off + k * 4 + 3, none⟩ = some (.int .i64 x.told) :=
        fun w1 hw => ⟨(hw.cell (p := ⟨b, _, none⟩) hbw).trans c0, (hw.cell (p := ⟨b, _, none⟩) hbw).trans c1, (hw.cell (p := ⟨b, _, none⟩) hbw).trans c2, (hw.cell (p := ⟨b, _, none⟩) hbw).trans c3⟩
      have HR := hid hrel
      have hsz := hext.size
      have xd : Below w.heap.size wr wr.drew := Below.drew (Below.refl _ _)
      have xal : ∀ o, Below w.heap.size wr (wr.drew.alloc o) := fun o => Below.alloc xd hsz o
      have xal2 : ∀ o, Below w.heap.size wr (wr.alloc o).drew := fun o => Below.drew (Below.alloc (Below.refl _ _) hsz o)
      have hown' : Own repSp 35 w.heap.size wr.drew _ (xs.take k) := hown.ext (Below.drew (Below.refl _ _))
      have hln : (xs.take k).length ≤ 60 := by rw [List.length_take]; omega
      have HLN := hid hln
      clear hrel h1 h2 h3
      have h1 : decide (x.sent < 0) = false := decide_eq_false (by have := HF.out.1; omega)
      have h2 : decide (1099511627776 < x.sent) = false := decide_eq_false (by have := HF.out.2.1; omega)
      have h3 : decide (1099511627776 < x.ret) = false := decide_eq_false (by have := HF.out.2.2; omega)
      clear hln
      go_wp2_with fail
      go_region_held3 (fun w' => w'.cell? ⟨b, off + k * 4, none⟩ = some (.int .i64 x.place) ∧ w'.cell? ⟨b, off + k * 4 + 1, none⟩ = some (.int .i64 x.sent) ∧ w'.cell? ⟨b, off + k * 4 + 2, none⟩ = some (.int .i64 x.ret) ∧ w'.cell? ⟨b, off + k * 4 + 3, none⟩ = some (.int .i64 x.told))
        (first | with_reducible exact HR.out _ xd | with_reducible exact HR.out _ (xal _) | with_reducible exact HR.out _ (xal2 _) | with_reducible exact HR.out _ x1)
        (first
          | (refine step_app1 (r := repSp) (base := w.heap.size) (x := x) (cs := #[.int .i64 x.place, .int .i64 x.sent, .int .i64 x.ret, .int .i64 x.told]) _ _ rfl rfl Try.underlying32 info_span (by decide) hown' rfl rfl rfl rfl (by have := HLN.out; omega) (by have := HLN.out; simp only [maxLen]; omega) hsz ?_; intro v1 w1 hown1 hg1; have x1 := Below.grown xd hg1 hsz (fun k hk => (hown'.lt k hk).1)))
      go_wp2
      go_roundw
      case rel => exact ⟨k + 1, by omega, by go_num, by rw [take_succ_of HX.out]; exact hown1, fairTo_step HX.out HFAIR.out HF.out, Below.trans hext x1⟩
      case measure => simp [intOf]; omega
    · have hkn : k = xs.length := by have := HN.out; omega
      have hall : xs.take k = xs := by rw [hkn, List.take_length]
      rw [hall] at hown
      have hf : ∀ x ∈ xs, Fair x := fun x hx => by
        obtain ⟨j, hj, he⟩ := List.getElem_of_mem hx
        exact HFAIR.out j x (by omega) (by rw [List.getElem?_eq_getElem hj, he])
      have HF := hid hf
      obtain ⟨B, cb, rfl, _⟩ := hown.form
      have hs1 := sum_any _ ns wr (hu.ext hext) (by have := HM.out; omega)
      have hs2 := sumR_any _ ns wr (hu.ext hext) (by have := HM.out; omega)
      generalize (sumOf ns).1 = sA at *
      generalize (sumOf ns).2 = sB at *
      have HS1 := hid hs1
      have HS2 := hid hs2
      have hxl : xs.length ≤ 60 := by have := HN.out; omega
      have hxw := hown.slice
      clear hkn hall hf hs1 hs2
      go_wp2_with fail
      refine HS1.out.mono ?_
      rintro r w1 ⟨rfl, rfl⟩
      go_wp2_with fail
      refine HS2.out.mono ?_
      rintro r w1 ⟨rfl, rfl⟩
      go_wp2_with fail
      refine (waits_any _ xs _ hxw hxl HF.out).mono ?_
      rintro r w1 ⟨u1, rfl, hu1, hx1⟩
      go_wp2_with fail
      refine (waitsR_any _ xs _ (hv.ext (Ext.trans hext hx1)) hxl HF.out).mono ?_
      rintro r w2 ⟨u2, rfl, hu2, hx2⟩
      go_wp2_with fail
      refine (sameInts_any _ _ _ _ _ (hu1.any.ext hx2) hu2.any).mono ?_
      rw [decide_eq_true rfl]
      rintro r w3 ⟨rfl, k3, rfl⟩
      have hx13 : Ext wr (w2.drewN k3) := Ext.trans hx1 (Ext.trans hx2 (ext_drewN _ _))
      generalize w2.drewN k3 = w3 at *
      go_wp2_with fail
      refine (most_any _ xs _ (hxw.ext hx13) hxl).mono ?_
      rintro r w4 ⟨rfl, hx4⟩
      have hx14 := Ext.trans hx13 hx4
      go_wp2_with fail
      refine (mostR_any _ xs _ (hv.ext (Ext.trans hext hx14)) hxl).mono ?_
      rintro r w5 ⟨rfl, hx5⟩
      generalize mostTo xs xs.length = mt at *
      go_wp2_with fail
      refine (spanLive_any _).mono ?_
      rintro r w6 ⟨rfl, hx6⟩
      go_wp2
      go_ret
      exact ⟨rfl, Ext.trans hext (Ext.trans hx14 (Ext.trans hx5 hx6))⟩
end
end Go.Proofs.Ytmllkniloalgoaa
