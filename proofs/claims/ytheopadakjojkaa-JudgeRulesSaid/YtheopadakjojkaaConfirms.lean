/- The walks of judge.each, Confirms, Unknowns. -/
import Derived.Deep.DeepCutAuto
import Derived.Test.YtheopadakjojkaaOrderR
import Derived.Test.YtheopadakjojkaaObj
namespace Go.Proofs.Ytheopadakjojkaa
open Go.RowKit

/-- The event i names a message that was sent, and A holds of i and that one's number. -/
def OkAt (l : List Ev) (A : Nat → Nat → Prop) (i : Nat) : Prop := ∀ x : Ev, l[i]? = some x → ∃ (p s : Nat), x.place = (p : Int) ∧ (nums l 0)[p]? = some (s : Int) ∧ A i s
def EachP (l : List Ev) (kind : Int) (A : Nat → Nat → Prop) : Prop := ∀ (i : Nat) (x : Ev), l[i]? = some x → x.kind = kind → OkAt l A i
def ConfA (l : List Ev) (i s : Nat) : Prop := ∃ (j : Nat) (x y : Ev), j < i ∧ l[j]? = some x ∧ x.kind = 2 ∧ l[s]? = some y ∧ x.data = y.data
def UnkA (l : List Ev) (i s : Nat) : Prop := s < i ∧ crB l s i 1 = true
def EachN (l : List Ev) (kind : Int) (A : Nat → Nat → Prop) (k : Nat) : Prop := ∀ (j i : Nat), j < k → (nums l kind)[j]? = some (i : Int) → OkAt l A i
theorem nums_at {l : List Ev} {kind x : Int} {j : Nat} (h : (nums l kind)[j]? = some x) : ∃ (i : Nat) (e : Ev), x = i ∧ l[i]? = some e ∧ e.kind = kind := nums_mem.1 (List.mem_of_getElem? h)
theorem eachN_all {l : List Ev} {kind : Int} {A : Nat → Nat → Prop} : EachP l kind A ↔ EachN l kind A (nums l kind).length := by
  constructor
  · intro h j i _ hi
    obtain ⟨i', e, h1, h2, h3⟩ := nums_at hi
    obtain rfl : i = i' := by omega
    exact h i e h2 h3
  · intro h i x hx hk
    have hm : ((i : Int)) ∈ nums l kind := nums_mem.2 ⟨i, x, rfl, hx, hk⟩
    obtain ⟨j, hj, he⟩ := List.getElem_of_mem hm
    exact h j i hj (by rw [List.getElem?_eq_getElem hj, he])
theorem eachN_step {l : List Ev} {kind : Int} {A : Nat → Nat → Prop} {k i : Nat} (hi : (nums l kind)[k]? = some (i : Int)) (h : EachN l kind A k) (ho : OkAt l A i) : EachN l kind A (k + 1) := by
  intro j i' hj hi'
  rcases Nat.lt_or_ge j k with h1 | h1
  · exact h j i' h1 hi'
  · obtain rfl : j = k := by omega
    rw [hi] at hi'
    injection hi' with e
    obtain rfl : i = i' := by omega
    exact ho
theorem each_no {l : List Ev} {kind : Int} {A : Nat → Nat → Prop} {k i : Nat} (hi : (nums l kind)[k]? = some (i : Int)) (ho : ¬ OkAt l A i) : ¬ EachP l kind A := fun h => by
  obtain ⟨i', e, h1, h2, h3⟩ := nums_at hi
  obtain rfl : i = i' := by omega
  exact ho (h i e h2 h3)
theorem okAt_neg {l : List Ev} {A : Nat → Nat → Prop} {i : Nat} {x : Ev} (hx : l[i]? = some x) (hp : x.place < 0) : ¬ OkAt l A i := fun h => by
  obtain ⟨p, s, h1, _⟩ := h x hx
  omega
theorem okAt_far {l : List Ev} {A : Nat → Nat → Prop} {i : Nat} {x : Ev} (hx : l[i]? = some x) (hp : ((nums l 0).length : Int) ≤ x.place) : ¬ OkAt l A i := fun h => by
  obtain ⟨p, s, h1, h2, _⟩ := h x hx
  have := lt_of_get h2
  omega
theorem okAt_iff {l : List Ev} {A : Nat → Nat → Prop} {i p s : Nat} {x : Ev} (hx : l[i]? = some x) (hp : x.place = (p : Int)) (hs : (nums l 0)[p]? = some (s : Int)) : OkAt l A i ↔ A i s := by
  constructor
  · intro h
    obtain ⟨p', s', h1, h2, h3⟩ := h x hx
    obtain rfl : p = p' := by omega
    rw [hs] at h2
    injection h2 with e
    obtain rfl : s = s' := by omega
    exact h3
  · intro h y hy
    rw [hx] at hy
    injection hy with e
    subst e
    exact ⟨p, s, hp, hs, h⟩

set_option maxRecDepth 100000
section
set_option maxHeartbeats 1600000 in
theorem eachConf_any (g : Nat) (A : Nat → Nat → Prop) (v : Value) (xs : List Ev) (kind : Int) (w : World) (h : IsSlice repEv w (all w) v xs) (hl : xs.length ≤ 100)
    (hask : ∀ (w1 : World) (i s : Nat), Ext w w1 → i < xs.length → s < xs.length → Calls Try.prog 101 #[.int .i64 i, .int .i64 s, .pointer (some ⟨g, 0, none⟩)] w1 (SomeB (A i s) w1)) :
    Calls Try.prog 100 #[v, .int .i64 kind, .func (.func 101) #[] #[.pointer (some ⟨g, 0, none⟩)]] w (SomeB (EachP xs kind A) w) := by
  have hv := h
  obtain ⟨A0, n, c, rfl, hnc, hcm, hrow⟩ := h
  have hn := hrow.1
  have hmax : n ≤ 100 := by omega
  have HN := hid hn
  have HASK := hid hask
  clear hask hn
  go_enter Try.func100, Try.ntmps100
  go_wp2_with fail
  refine (numbers_any _ _ _ _ hv (by omega)).mono ?_
  rintro e w1 ⟨s, rfl, hs, hx1⟩
  go_wp2_with fail
  refine (numbers_any _ _ _ _ (hv.ext hx1) (by omega)).mono ?_
  rintro e w2 ⟨q, rfl, hq, hx2⟩
  have hx12 := Ext.trans hx1 hx2
  obtain ⟨B, m, c', rfl, hmc, hcm', hrs⟩ := hs.any.ext hx2
  obtain ⟨D, k0, c'', rfl, hkc, hcm'', hrq⟩ := hq.any
  have hms := hrs.1
  have hk0 := hrq.1
  have hmax' : k0 ≤ 9223372036854775807 := by unfold maxLen at hcm''; omega
  have hmaxm : m ≤ 9223372036854775807 := by unfold maxLen at hcm'; omega
  have HM := hid hms
  have HK := hid hk0
  clear hms hk0 hs hq hv hl
  go_wp2
  go_loopw [17] (fun i wr => ∃ k : Nat, k ≤ k0 ∧ i = .int .i64 k ∧ EachN xs kind A k ∧ Ext w2 wr) (fun i _ => k0 - (intOf i).toNat)
  case atStart => exact ⟨0, Nat.zero_le _, rfl, fun _ _ h => absurd h (by omega), Below.refl _ _⟩
  case round =>
    obtain ⟨k, hk, rfl, hE, hext⟩ := hrel
    have HE := hid hE
    clear hE
    by_cases hlt : k < k0
    · obtain ⟨gb, go, i0, rfl, hi, hci, _⟩ := hrq.intE hext hlt
      obtain ⟨i, ev, rfl, hev, hkind⟩ := nums_at hi
      have hin : i < n := by have := lt_of_get hev; have := HN.out; omega
      obtain ⟨be, oe, x, A', mm, cc, rfl, hx, hd, hdl, e0, e1, e2, e3⟩ := hrow.evE (Ext.trans hx12 hext) hin
      have HI := hid hi
      have HX := hid hx
      have hwr := Ext.trans hx12 hext
      generalize hpl : x.place = pl at *
      have HPL := hid hpl
      clear hi hev hkind hx hd hdl hpl
      by_cases hneg : pl < 0
      · go_wp2
        go_ret
        exact ⟨false, rfl, ⟨(fun h => by cases h), fun h => absurd h (each_no HI.out (okAt_neg HX.out (by rw [HPL.out]; exact hneg)))⟩, hwr⟩
      · by_cases hfar : (m : Int) ≤ pl
        · go_wp2
          go_ret
          exact ⟨false, rfl, ⟨(fun h => by cases h), fun h => absurd h (each_no HI.out (okAt_far HX.out (by rw [HPL.out, HM.out]; exact hfar)))⟩, hwr⟩
        · obtain ⟨p, rfl⟩ : ∃ p : Nat, pl = (p : Int) := ⟨pl.toNat, by omega⟩
          have hpm : p < m := by omega
          obtain ⟨gs, os, s0, rfl, hs, hcs, _⟩ := hrs.intE hext hpm
          obtain ⟨s, es, rfl, hes, _⟩ := nums_at hs
          have hsn : s < n := by have := lt_of_get hes; have := HN.out; omega
          have HOK := hid (okAt_iff (A := A) HX.out HPL.out hs)
          have hcall := HASK.out wr i s hwr (by rw [HN.out]; exact hin) (by rw [HN.out]; exact hsn)
          have HCALL := hid hcall
          clear hs hes hcall
          go_wp2_with fail
          refine HCALL.out.mono ?_
          rintro r w3 ⟨b, rfl, hb, hx3⟩
          cases b
          · have hno : ¬ A i s := fun h => by have := hb.2 h; cases this
            have HNO := hid hno
            clear hno hb
            go_wp2
            go_ret
            exact ⟨false, rfl, ⟨(fun h => by cases h), fun h => absurd h (each_no HI.out (fun h => HNO.out (HOK.out.1 h)))⟩, Ext.trans hwr hx3⟩
          · have HB := hid (hb.1 rfl)
            clear hb
            go_wp2
            go_roundw
            case rel => exact ⟨k + 1, by omega, by go_num, eachN_step HI.out HE.out (HOK.out.2 HB.out), Ext.trans hext hx3⟩
            case measure => simp [intOf]; omega
    · go_wp2
      go_ret
      refine ⟨true, rfl, ⟨fun _ => eachN_all.2 ?_, fun _ => rfl⟩, Ext.trans hx12 hext⟩
      rw [HK.out, show k0 = k from by omega]
      exact HE.out
set_option maxHeartbeats 1600000 in
theorem eachUnk_any (g : Nat) (A : Nat → Nat → Prop) (v : Value) (xs : List Ev) (kind : Int) (w : World) (h : IsSlice repEv w (all w) v xs) (hl : xs.length ≤ 100)
    (hask : ∀ (w1 : World) (i s : Nat), Ext w w1 → i < xs.length → s < xs.length → Calls Try.prog 104 #[.int .i64 i, .int .i64 s, .pointer (some ⟨g, 0, none⟩)] w1 (SomeB (A i s) w1)) :
    Calls Try.prog 100 #[v, .int .i64 kind, .func (.func 104) #[] #[.pointer (some ⟨g, 0, none⟩)]] w (SomeB (EachP xs kind A) w) := by
  have hv := h
  obtain ⟨A0, n, c, rfl, hnc, hcm, hrow⟩ := h
  have hn := hrow.1
  have hmax : n ≤ 100 := by omega
  have HN := hid hn
  have HASK := hid hask
  clear hask hn
  go_enter Try.func100, Try.ntmps100
  go_wp2_with fail
  refine (numbers_any _ _ _ _ hv (by omega)).mono ?_
  rintro e w1 ⟨s, rfl, hs, hx1⟩
  go_wp2_with fail
  refine (numbers_any _ _ _ _ (hv.ext hx1) (by omega)).mono ?_
  rintro e w2 ⟨q, rfl, hq, hx2⟩
  have hx12 := Ext.trans hx1 hx2
  obtain ⟨B, m, c', rfl, hmc, hcm', hrs⟩ := hs.any.ext hx2
  obtain ⟨D, k0, c'', rfl, hkc, hcm'', hrq⟩ := hq.any
  have hms := hrs.1
  have hk0 := hrq.1
  have hmax' : k0 ≤ 9223372036854775807 := by unfold maxLen at hcm''; omega
  have hmaxm : m ≤ 9223372036854775807 := by unfold maxLen at hcm'; omega
  have HM := hid hms
  have HK := hid hk0
  clear hms hk0 hs hq hv hl
  go_wp2
  go_loopw [17] (fun i wr => ∃ k : Nat, k ≤ k0 ∧ i = .int .i64 k ∧ EachN xs kind A k ∧ Ext w2 wr) (fun i _ => k0 - (intOf i).toNat)
  case atStart => exact ⟨0, Nat.zero_le _, rfl, fun _ _ h => absurd h (by omega), Below.refl _ _⟩
  case round =>
    obtain ⟨k, hk, rfl, hE, hext⟩ := hrel
    have HE := hid hE
    clear hE
    by_cases hlt : k < k0
    · obtain ⟨gb, go, i0, rfl, hi, hci, _⟩ := hrq.intE hext hlt
      obtain ⟨i, ev, rfl, hev, hkind⟩ := nums_at hi
      have hin : i < n := by have := lt_of_get hev; have := HN.out; omega
      obtain ⟨be, oe, x, A', mm, cc, rfl, hx, hd, hdl, e0, e1, e2, e3⟩ := hrow.evE (Ext.trans hx12 hext) hin
      have HI := hid hi
      have HX := hid hx
      have hwr := Ext.trans hx12 hext
      generalize hpl : x.place = pl at *
      have HPL := hid hpl
      clear hi hev hkind hx hd hdl hpl
      by_cases hneg : pl < 0
      · go_wp2
        go_ret
        exact ⟨false, rfl, ⟨(fun h => by cases h), fun h => absurd h (each_no HI.out (okAt_neg HX.out (by rw [HPL.out]; exact hneg)))⟩, hwr⟩
      · by_cases hfar : (m : Int) ≤ pl
        · go_wp2
          go_ret
          exact ⟨false, rfl, ⟨(fun h => by cases h), fun h => absurd h (each_no HI.out (okAt_far HX.out (by rw [HPL.out, HM.out]; exact hfar)))⟩, hwr⟩
        · obtain ⟨p, rfl⟩ : ∃ p : Nat, pl = (p : Int) := ⟨pl.toNat, by omega⟩
          have hpm : p < m := by omega
          obtain ⟨gs, os, s0, rfl, hs, hcs, _⟩ := hrs.intE hext hpm
          obtain ⟨s, es, rfl, hes, _⟩ := nums_at hs
          have hsn : s < n := by have := lt_of_get hes; have := HN.out; omega
          have HOK := hid (okAt_iff (A := A) HX.out HPL.out hs)
          have hcall := HASK.out wr i s hwr (by rw [HN.out]; exact hin) (by rw [HN.out]; exact hsn)
          have HCALL := hid hcall
          clear hs hes hcall
          go_wp2_with fail
          refine HCALL.out.mono ?_
          rintro r w3 ⟨b, rfl, hb, hx3⟩
          cases b
          · have hno : ¬ A i s := fun h => by have := hb.2 h; cases this
            have HNO := hid hno
            clear hno hb
            go_wp2
            go_ret
            exact ⟨false, rfl, ⟨(fun h => by cases h), fun h => absurd h (each_no HI.out (fun h => HNO.out (HOK.out.1 h)))⟩, Ext.trans hwr hx3⟩
          · have HB := hid (hb.1 rfl)
            clear hb
            go_wp2
            go_roundw
            case rel => exact ⟨k + 1, by omega, by go_num, eachN_step HI.out HE.out (HOK.out.2 HB.out), Ext.trans hext hx3⟩
            case measure => simp [intOf]; omega
    · go_wp2
      go_ret
      refine ⟨true, rfl, ⟨fun _ => eachN_all.2 ?_, fun _ => rfl⟩, Ext.trans hx12 hext⟩
      rw [HK.out, show k0 = k from by omega]
      exact HE.out
theorem unkFn_any (g : Nat) (v : Value) (xs : List Ev) (i s : Nat) (w : World) (hc : w.cell? ⟨g, 0, none⟩ = some v) (h : IsSlice repEv w (all w) v xs) (hl : xs.length ≤ 100) (hi : i < xs.length) (hs : s < xs.length) :
    Calls Try.prog 104 #[.int .i64 i, .int .i64 s, .pointer (some ⟨g, 0, none⟩)] w (SomeB (UnkA xs i s) w) := by
  have hcr := crashed_any v xs s i 1 w h
  obtain ⟨A, n, c, rfl, hnc, hcm, hrow⟩ := h
  obtain ⟨bc, hbc⟩ : ∃ bc, crB xs s i 1 = bc := ⟨_, rfl⟩
  rw [hbc] at hcr
  have HC := hid hcr
  have HB := hid hbc
  clear hcr hbc
  by_cases hsi : s < i
  · have h1 : decide ((s : Int) < (i : Int)) = true := decide_eq_true (by omega)
    go_enter Try.func104, Try.ntmps104
    go_wp2_with fail
    refine HC.out.mono ?_
    rintro r w1 ⟨rfl, hx1⟩
    go_wp2
    go_ret
    refine ⟨bc, rfl, ?_, hx1⟩
    unfold UnkA
    rw [HB.out]
    exact ⟨fun h => ⟨hsi, h⟩, fun h => h.2⟩
  · have h1 : decide ((s : Int) < (i : Int)) = false := decide_eq_false (by omega)
    go_enter Try.func104, Try.ntmps104
    go_wp2
    go_ret
    exact ⟨false, rfl, ⟨(fun h => by cases h), fun h => absurd h.1 hsi⟩, Below.refl _ _⟩
def UnkP (l : List Ev) : Prop := EachP l 4 (UnkA l)
def ConfP (l : List Ev) : Prop := EachP l 3 (ConfA l)
theorem unknowns_any (v : Value) (xs : List Ev) (w : World) (h : IsSlice repEv w (all w) v xs) (hl : xs.length ≤ 100) :
    Calls Try.prog 69 #[v] w (SomeB (UnkP xs) w) := by
  have hx0 := ext_alloc w (.cells #[v] 57)
  have hv := h.ext hx0
  have he := eachUnk_any w.heap.size (UnkA xs) v xs 4 _ hv hl (fun w1 i s hx hi hs => unkFn_any w.heap.size v xs i s w1 ((hx.cell (by simp) 0).trans (box_cell _ _ _ 0)) (hv.ext hx) hl hi hs)
  have HE := hid he
  clear he hv hl
  obtain ⟨A, n, c, rfl, _⟩ := h
  go_enter Try.func69, Try.ntmps69
  go_wp2_with fail
  refine HE.out.mono ?_
  rintro r w1 ⟨b, rfl, hb, hx1⟩
  go_wp2
  go_ret
  exact ⟨b, rfl, hb, Ext.trans hx0 hx1⟩

/-- The events with that text that were returned. -/
def RetD (d : List UInt8) (x : Ev) : Prop := x.kind = 2 ∧ x.data = d
theorem conf3_any (gl gs : Nat) (u v : Value) (xs : List Ev) (s : Nat) (x y : Ev) (w : World) (hcl : w.cell? ⟨gl, 0, none⟩ = some v) (hcs : w.cell? ⟨gs, 0, none⟩ = some (.int .i64 s)) (h : IsSlice repEv w (all w) v xs) (hl : xs.length ≤ 100)
    (hu : IsSlice repByte w (all w) u x.data) (hy : xs[s]? = some y) :
    Calls Try.prog 103 #[.agg #[.int .i64 x.step, .int .i64 x.kind, .int .i64 x.place, u], .pointer (some ⟨gl, 0, none⟩), .pointer (some ⟨gs, 0, none⟩)] w (SomeB (RetD y.data x) w) := by
  have hx0 := ext_alloc w (.cells #[.int .i64 x.step, .int .i64 x.kind, .int .i64 x.place, u] 114)
  have hlg := lt_of_cell' hcl
  have hlg' := lt_of_cell' hcs
  have hcl1 := (hx0.cell hlg 0).trans hcl
  have hcs1 := (hx0.cell hlg' 0).trans hcs
  have hu1 := hu.ext hx0
  have hb0 := Blk.new w 114 #[.int .i64 x.step, .int .i64 x.kind, .int .i64 x.place, u]
  obtain ⟨A, n, c, rfl, hnc, hcm, hrow⟩ := h.ext hx0
  have hn := hrow.1
  have hsn : s < n := by have := lt_of_get hy; omega
  have hmax : n ≤ 100 := by omega
  obtain ⟨be, oe, y', A', m, c', rfl, hy', hd, hdl, e0, e1, e2, e3⟩ := hrow.evE (Below.refl _ _) hsn
  obtain rfl : y = y' := by rw [hy] at hy'; injection hy'
  have hsame := fun k => same_any u (.slice A' m c') x.data y.data _ (hu1.ext (ext_drewN _ k)) (hd.ext (ext_drewN _ k))
  obtain ⟨q, hq⟩ : ∃ q : Bool, decide (x.data = y.data) = q := ⟨_, rfl⟩
  rw [hq] at hsame
  have HS := hid hsame
  have HQ := hid hq
  obtain ⟨uA, uc, rfl⟩ := hu.shape
  clear hsame hq hu hu1 hd hdl hy hy' h hn e0 e1 e2 hcl hcs
  generalize hk : x.kind = kd at *
  have HK := hid hk
  clear hk
  go_enter Try.func103, Try.ntmps103
  go_upto_region 1 with fail
  generalize (w.alloc (.cells #[.int .i64 x.step, .int .i64 kd, .int .i64 x.place, .slice uA x.data.length uc] 114)) = w1 at *
  have z1 : w1.cell? ⟨w.heap.size, 1, none⟩ = some (.int .i64 kd) := hb0.cell 1
  have z3 : w1.cell? ⟨w.heap.size, 3, none⟩ = some (.slice uA x.data.length uc) := hb0.cell 3
  by_cases hk2 : kd = 2
  · subst hk2
    go_quiet ((first | (go_at_call 83; exact q_same (HS.out _))))
    go_wp2
    go_ret
    refine ⟨q, rfl, ?_, Ext.trans hx0 (ext_drewN _ _)⟩
    unfold RetD
    rw [HK.out, ← HQ.out, decide_eq_true_iff]
    exact ⟨fun h => ⟨rfl, h⟩, fun h => h.2⟩
  · have hk2b : (kd == 2) = false := by simpa using hk2
    go_quiet (fail)
    go_wp2
    go_ret
    refine ⟨false, rfl, ⟨(fun h => by cases h), fun h => ?_⟩, Ext.trans hx0 (ext_drewN _ _)⟩
    exact absurd (HK.out ▸ h.1) hk2
def SomeIx (P : Prop) (w : World) (e : Ending) (w' : World) : Prop := ∃ r : Int, e = .returned (.int .i64 r) ∧ (0 ≤ r ↔ P) ∧ Ext w w'
def Has (Q : Ev → Prop) (l : List Ev) : Prop := ∃ (j : Nat) (x : Ev), l[j]? = some x ∧ Q x
set_option maxHeartbeats 800000 in
theorem indexConf_any (p1 p2 : Nat) (Q : Ev → Prop) (v : Value) (xs : List Ev) (w : World) (h : IsSlice repEv w (all w) v xs)
    (hask : ∀ (w1 : World) (x : Ev) (u : Value), Ext w w1 → IsSlice repByte w1 (all w1) u x.data → Calls Try.prog 103 #[.agg #[.int .i64 x.step, .int .i64 x.kind, .int .i64 x.place, u], .pointer (some ⟨p1, 0, none⟩), .pointer (some ⟨p2, 0, none⟩)] w1 (SomeB (Q x) w1)) :
    Calls Try.prog 113 #[v, .func (.func 103) #[] #[.pointer (some ⟨p1, 0, none⟩), .pointer (some ⟨p2, 0, none⟩)]] w (SomeIx (Has Q xs) w) := by
  obtain ⟨A, n, c, rfl, hnc, hcm, hrow⟩ := h
  have hn := hrow.1
  have hmax : n ≤ 9223372036854775807 := by unfold maxLen at hcm; omega
  have HN := hid hn
  have HASK := hid hask
  clear hn hask
  go_enter Try.func113, Try.ntmps113
  go_wp2
  go_loopw [8] (fun i wr => ∃ k : Nat, k ≤ n ∧ i = .int .i64 k ∧ (∀ (j : Nat) (x : Ev), j < k → xs[j]? = some x → ¬ Q x) ∧ Ext w wr) (fun i _ => n - (intOf i).toNat)
  case atStart => exact ⟨0, Nat.zero_le _, rfl, fun _ _ h => absurd h (by omega), Below.refl _ _⟩
  case round =>
    obtain ⟨k, hk, rfl, hno, hext⟩ := hrel
    have HNO := hid hno
    clear hno
    by_cases hlt : k < n
    · obtain ⟨b, off, x, A', m, c', rfl, hx, hd, hdl, e0, e1, e2, e3⟩ := hrow.evE hext hlt
      have hcall := HASK.out wr x _ hext (hd.ext hext)
      have HC := hid hcall
      have HX := hid hx
      clear hcall hx hd hdl
      go_wp2_with fail
      refine HC.out.mono ?_
      rintro r w1 ⟨bb, rfl, hb, hx1⟩
      cases bb
      · have hnq : ¬ Q x := fun h => by have := hb.2 h; cases this
        have HNQ := hid hnq
        clear hb hnq
        go_wp2
        go_roundw
        case rel =>
          refine ⟨k + 1, by omega, by go_num, fun j y hj hy => ?_, Ext.trans hext hx1⟩
          rcases Nat.lt_or_ge j k with h1 | h1
          · exact HNO.out j y h1 hy
          · obtain rfl : j = k := by omega
            rw [HX.out] at hy
            injection hy with e
            subst e
            exact HNQ.out
        case measure => simp [intOf]; omega
      · have HQ := hid (hb.1 rfl)
        clear hb
        go_wp2
        go_ret
        exact ⟨k, rfl, ⟨fun _ => ⟨k, x, HX.out, HQ.out⟩, fun _ => by omega⟩, Ext.trans hext hx1⟩
    · go_wp2
      go_ret
      refine ⟨-1, rfl, ⟨(fun h => by omega), fun h => ?_⟩, hext⟩
      obtain ⟨j, x, hj, hq⟩ := h
      exact absurd hq (HNO.out j x (by have := lt_of_get hj; have := HN.out; omega) hj)
theorem contains_any (p1 p2 : Nat) (Q : Ev → Prop) (v : Value) (xs : List Ev) (w : World) (h : IsSlice repEv w (all w) v xs)
    (hask : ∀ (w1 : World) (x : Ev) (u : Value), Ext w w1 → IsSlice repByte w1 (all w1) u x.data → Calls Try.prog 103 #[.agg #[.int .i64 x.step, .int .i64 x.kind, .int .i64 x.place, u], .pointer (some ⟨p1, 0, none⟩), .pointer (some ⟨p2, 0, none⟩)] w1 (SomeB (Q x) w1)) :
    Calls Try.prog 102 #[v, .func (.func 103) #[] #[.pointer (some ⟨p1, 0, none⟩), .pointer (some ⟨p2, 0, none⟩)]] w (SomeB (Has Q xs) w) := by
  have HI := hid (indexConf_any p1 p2 Q v xs w h hask)
  clear hask
  go_enter Try.func102, Try.ntmps102
  go_wp2_with fail
  refine HI.out.mono ?_
  rintro r w1 ⟨i, rfl, hi, hx1⟩
  have HI2 := hid hi
  clear hi
  go_wp2
  go_ret
  refine ⟨decide (0 ≤ i), rfl, ?_, hx1⟩
  rw [decide_eq_true_iff]
  exact HI2.out
theorem info_event : ElemInfo Try.prog 114 4 48 := elemInfo (z := .agg #[.int .i64 0, .int .i64 0, .int .i64 0, .slice none 0 0]) (by kernel_rfl) rfl
theorem conf_has {l : List Ev} {i s : Nat} {y : Ev} (hy : l[s]? = some y) : Has (RetD y.data) (l.take i) ↔ ConfA l i s := by
  constructor
  · rintro ⟨j, x, hj, hk, hd⟩
    rw [List.getElem?_take] at hj
    split at hj
    · rename_i h; exact ⟨j, x, y, h, hj, hk, hy, hd⟩
    · cases hj
  · rintro ⟨j, x, y', hj, hx, hk, hy', hd⟩
    rw [hy] at hy'
    injection hy' with e
    subst e
    exact ⟨j, x, by rw [List.getElem?_take, if_pos hj]; exact hx, hk, hd⟩
set_option maxHeartbeats 800000 in
theorem conf1_any (g : Nat) (v : Value) (xs : List Ev) (i s : Nat) (w : World) (hc : w.cell? ⟨g, 0, none⟩ = some v) (h : IsSlice repEv w (all w) v xs) (hl : xs.length ≤ 100) (hi : i < xs.length) (hs : s < xs.length) :
    Calls Try.prog 101 #[.int .i64 i, .int .i64 s, .pointer (some ⟨g, 0, none⟩)] w (SomeB (ConfA xs i s) w) := by
  have hx0 := ext_alloc w (.cells #[.int .i64 s] 3)
  have hg := lt_of_cell' hc
  have hc1 := (hx0.cell hg 0).trans hc
  have hb1 : (w.alloc (.cells #[.int .i64 s] 3)).cell? ⟨w.heap.size, 0, none⟩ = some (.int .i64 s) := box_cell _ _ _ 0
  have hv := h.ext hx0
  have hlg : g < (w.alloc (.cells #[.int .i64 s] 3)).heap.size := lt_of_cell' hc1
  have hlg' : w.heap.size < (w.alloc (.cells #[.int .i64 s] 3)).heap.size := lt_of_cell' hb1
  generalize hw1 : w.alloc (.cells #[.int .i64 s] 3) = w1 at *
  have HW1 := hid hw1
  obtain ⟨y, hy⟩ : ∃ y, xs[s]? = some y := ⟨_, List.getElem?_eq_getElem hs⟩
  obtain ⟨A, n, c, rfl, hnc, hcm, hrow⟩ := hv
  have hn := hrow.1
  have hin : i ≤ n := by omega
  have hcx : c ≤ 9223372036854775807 := by unfold maxLen at hcm; omega
  obtain ⟨B, hrun, hcut⟩ := cut_to (P := Try.prog) Try.underlying57 info_event (hrow.isSlice hnc hcm) hin
  have hct := contains_any g w.heap.size (RetD y.data) _ _ w1 hcut (fun w2 x u hx hu => conf3_any g w.heap.size u _ xs s x y w2 ((hx.cell hlg 0).trans hc1) ((hx.cell hlg' 0).trans hb1) ((hrow.isSlice hnc hcm).ext hx) hl hu hy)
  have HC := hid hct
  have HH := hid (conf_has (i := i) hy)
  clear hct hcut hy hs hi hn h hw1 hrow hl hc
  go_enter Try.func101, Try.ntmps101
  go_upto_region 1 with fail
  rw [HW1.out]
  go_wp2_with fail
  refine HC.out.mono ?_
  rintro r w2 ⟨b, rfl, hb, hx2⟩
  have HB := hid hb
  clear hb
  go_wp2
  go_ret
  exact ⟨b, rfl, HB.out.trans HH.out, Ext.trans hx0 hx2⟩
theorem confirms_any (v : Value) (xs : List Ev) (w : World) (h : IsSlice repEv w (all w) v xs) (hl : xs.length ≤ 100) :
    Calls Try.prog 67 #[v] w (SomeB (ConfP xs) w) := by
  have hx0 := ext_alloc w (.cells #[v] 57)
  have hv := h.ext hx0
  have he := eachConf_any w.heap.size (ConfA xs) v xs 3 _ hv hl (fun w1 i s hx hi hs => conf1_any w.heap.size v xs i s w1 ((hx.cell (by simp) 0).trans (box_cell _ _ _ 0)) (hv.ext hx) hl hi hs)
  have HE := hid he
  clear he hv hl
  obtain ⟨A, n, c, rfl, _⟩ := h
  go_enter Try.func67, Try.ntmps67
  go_wp2_with fail
  refine HE.out.mono ?_
  rintro r w1 ⟨b, rfl, hb, hx1⟩
  go_wp2
  go_ret
  exact ⟨b, rfl, hb, Ext.trans hx0 hx1⟩
end
end Go.Proofs.Ytheopadakjojkaa
