/- The puller's Ahead; the law's huge. -/
import Derived.Test.YtjchobncmogcpaaRecv
import Derived.Test.YtjchobncmogcpaaPullRPlain
import Derived.Test.YtjchobncmogcpaaSortOwn
import Derived.Test.YtjchobncmogcpaaSlide
import Derived.WalkSpells
import Derived.WalkArith
namespace Go.Proofs.Ytjchobncmogcpaa
open Go.RowKit

def lnOfP : Value → Nat | .slice _ n _ => n | _ => 0
theorem keyP_inj (q : IntKind) : ∀ x y : Int, (keyInt q).kv x = (keyInt q).kv y → x = y := fun x y h => by
  have h : Value.int q x = Value.int q y := h
  injection h
theorem elem_intP : ElemInfo Try.prog 3 1 8 := elemInfo (z := .int .i64 0) (by kernel_rfl) rfl
theorem wf_smallP {x : Int} (h0 : 0 ≤ x) (h : x ≤ 10000000) : (Lit.int .i64 x).wf = true := WalkArith.wf_i64 ⟨by omega, by omega⟩
theorem hlook_in {H : List (Int × List UInt8)} {k : Int} : (hlook H k).isSome = true ↔ k ∈ H.map (·.1) := by
  unfold hlook
  rw [Option.isSome_map, List.find?_isSome, List.mem_map]
  constructor
  · rintro ⟨p, hp, h⟩; exact ⟨p, hp, (of_decide_eq_true h).symm⟩
  · rintro ⟨p, hp, rfl⟩; exact ⟨p, hp, by simp⟩
theorem AhIs.keys {X : Nat → Prop} {w : World} {L : List (Int × Value)} {H : List (Int × List UInt8)} (h : AhIs X w L H) (k : Int) : k ∈ L.map (·.1) ↔ k ∈ H.map (·.1) := by
  rw [alook_in, ← hlook_in]
  have := h.at_ k
  revert this
  cases alook L k <;> cases hlook H k <;> intro h1 <;> simp [AhOne] at h1 ⊢
/-- What an act is: its kind, a packet. -/
def repPA : Rep (Int × Sl) := repPair (repInt .i64) repSl
theorem RowAt.pa {w : World} {S : Nat → Prop} {A n} {xs : List (Int × Sl)} (h : RowAt repPA w S A n xs) {k : Nat} (hk : k < n) :
    ∃ b off x A' c, A = some ⟨b, off, none⟩ ∧ S b ∧ xs[k]? = some x ∧ IsSlice repByte w S (.slice A' x.2.data.length c) x.2.data ∧ w.cell? ⟨b, off + k * 5, none⟩ = some (.int .i64 x.1) ∧ w.cell? ⟨b, off + k * 5 + 1, none⟩ = some (.bool x.2.ack) ∧
      w.cell? ⟨b, off + k * 5 + 2, none⟩ = some (.int .i64 x.2.seq) ∧ w.cell? ⟨b, off + k * 5 + 3, none⟩ = some (.int .u64 x.2.bits) ∧ w.cell? ⟨b, off + k * 5 + 4, none⟩ = some (.slice A' x.2.data.length c) := by
  obtain ⟨b, off, ds, x, hA, hb, hx, ⟨e, d, rfl, ⟨rfl, _⟩, ⟨v, rfl, hv⟩⟩, hc⟩ := h.get hk
  obtain ⟨A', c, rfl⟩ := hv.shape
  exact ⟨b, off, x, A', c, hA, hb, hx, hv, hc 0 (by simp), hc 1 (by simp), hc 2 (by simp), hc 3 (by simp), hc 4 (by simp)⟩
def hugeP (l : List (Int × Sl)) : Bool := (l.take 200).any (fun x => decide (200 < x.2.data.length)) || decide (100 < l.length)
set_option maxRecDepth 100000
section
set_option maxHeartbeats 1000000 in
theorem aheadPu_any (X : Nat → Prop) (w : World) (gp gq gm : Nat) (c : Cfg) (s : Pu) (h : PuAt X w gp gq gm c s) (hc : c.Ok) (hok : PuOk c s) (hs : s.ent ≤ 1000000) (hl : s.ah.length ≤ 1000) :
    Calls Try.prog 28 #[.pointer (some ⟨gp, 0, none⟩)] w fun e w' => ∃ u, e = .returned u ∧ IsSlice (repInt .i64) w' (fresh w w') u (s.ah.map (·.1)) ∧ Ext w w' := by
  have HI := hid (isP_any X w gp gq gm c s h)
  obtain ⟨_, _, _, c7, c8, _, _, _, _⟩ := puCellsAt h.blk
  obtain ⟨L, hm, hL⟩ := h.map
  have hltp := h.ltp
  have hml := hm.lt
  have hLn : L.length ≤ s.ah.length := by
    have := nodup_le (ys := s.ah.map (·.1)) hm.nodup fun k hk => (hL.keys k).1 hk
    simpa using this
  obtain ⟨w0, hrg, hit, hx0, hs0⟩ := hm.range (P := Try.prog) Try.underlying130
  have hmsz : w.heap.size ≠ gm := by omega
  have HK := hid hL.keys
  have HO := hid hok
  have hw64 := hc.w64
  have hasc : (s.ah.map (·.1)).Pairwise (fun a b => a < b) := List.pairwise_map.2 hok.asc
  have HASC := hid hasc
  have hLn2 : L.length ≤ 1000 := by omega
  clear hm hL hok hLn hasc hc
  go_enter Try.func28, Try.ntmps28
  go_wp2_with (go_at_call 70; refine HI.out.mono ?_; rintro e w2 ⟨rfl, rfl⟩)
  go_loopw [3] (fun vl wr => ∃ done : List Int, IterAt (keyInt .i64) wr w.heap.size gm L done ∧ Own (repInt .i64) 3 (w.heap.size + 1) wr vl done ∧ Ext w wr ∧ w.heap.size + 1 ≤ wr.heap.size) (fun vl _ => L.length - lnOfP vl)
  case atStart => exact ⟨[], hit, own_nil _ _ _ _, hx0, by omega⟩
  case round =>
    obtain ⟨done, hir, hown, hxr, hszr⟩ := hrel
    rcases hir.next (P := Try.prog) (keyP_inj .i64) hmsz 0 with ⟨hall, hrun⟩ | ⟨k, kv, w1, hkl, hkd, hrun, hi1, ho1, hs1, hen⟩
    · have hnx : ∀ ty, (Instr.next (.pointer (some ⟨w.heap.size, 0, none⟩)) false ty).run Try.prog wr = _ := fun _ => hrun
      go_wp2_with (go_at_call 85; refine (sortOwn_any wr _ _ done hown (by have := hir.count (keyP_inj .i64); have := hLn2; omega)).mono ?_; rintro e w3 ⟨rfl, hown3, hg3⟩)
      go_ret
      have he := sortI_is hir.nodup HASC.out (fun k => (hall k).trans (HK.out k))
      rw [he] at hown3
      exact ⟨_, rfl, hown3.own.keep (fun b hb => ⟨⟨by omega, hb.2⟩, fun _ => rfl⟩), Below.grown hxr hg3 hxr.size (fun b hb => by have := (hown.lt b hb).1; omega)⟩
    · have hnx : ∀ ty, (Instr.next (.pointer (some ⟨w.heap.size, 0, none⟩)) false ty).run Try.prog wr = .ok (.tuple #[.bool true, .int .i64 k, kv]) w1 := fun _ => hrun
      have hen' : (Instr.entry (.pointer (some ⟨w.heap.size, 0, none⟩))).run Try.prog w1 = .ok (.tuple #[.int .i64 k, kv]) w1 := hen
      clear hrun hen
      have hks : k ∈ s.ah.map (·.1) := (HK.out k).1 (List.mem_map.2 ⟨_, hkl, rfl⟩)
      have hkb : 0 ≤ k ∧ k ≤ 10000000 := by
        obtain ⟨p, hp, rfl⟩ := List.mem_map.1 hks
        have := HO.out.bnd p hp
        omega
      clear hks
      have hown1 : Own (repInt .i64) 3 (w.heap.size + 1) w1 u3 done := hown.out (X := fun b => b = w.heap.size) (Out.of_only ho1 rfl) (fun b hb => by omega)
      have hcnt := hi1.count (keyP_inj .i64)
      have hlen : done.length + 1 ≤ L.length := by simpa using hcnt
      go_wp2_with (at_builtin; refine wpl_app1 (r := repInt .i64) (base := w.heap.size + 1) (x := k) (cs := #[.int .i64 k]) _ _ rfl rfl Try.underlying26 elem_intP (by decide) hown1 rfl rfl hs1.symm ⟨rfl, wf_smallP hkb.1 hkb.2⟩ (by omega) (by simp only [maxLen]; omega) (by omega) ?_; intro v3 w3 hown3 hg3)
      refine ⟨⟨done ++ [k], (hi1.kept hg3 (fun e => by have := (hown1.lt gm e.symm).1; omega) (fun e => by have := (hown1.lt _ e.symm).1; omega)), hown3, Below.grown (ho1.ext_new hxr (Nat.le_refl _)) hg3 (by omega) (fun b hb => by have := (hown1.lt b hb).1; omega), by have := hg3.size; omega⟩, ?_⟩
      obtain ⟨A3, c3, rfl, _⟩ := hown3.form
      obtain ⟨A4, c4', hv4, _⟩ := hown1.form
      rw [hv4]
      simp [lnOfP]
      omega
set_option maxHeartbeats 1000000 in
theorem hugeP_any (v : Value) (l : List (Int × Sl)) (w : World) (h : IsSlice repPA w (all w) v l) :
    Calls Try.prog 22 #[v] w fun e w' => e = .returned (.bool (hugeP l)) ∧ w = w' := by
  obtain ⟨A, n, c, rfl, hnc, hcm, hrow⟩ := h
  have hn := hrow.1
  unfold maxLen at hcm
  have HN := hid hn
  obtain ⟨R, hR⟩ : ∃ R, R = hugeP l := ⟨_, rfl⟩
  rw [← hR]
  have HR := hid hR
  clear hn hR
  go_enter Try.func22, Try.ntmps22
  go_wp2
  go_loop [3] (fun i => ∃ j : Nat, j ≤ n ∧ j ≤ 200 ∧ i = .int .i64 j ∧ Wall ((l.take j).any (fun x => decide (200 < x.2.data.length)) = false)) (fun i => 200 - (intOf i).toNat)
  case atStart => exact ⟨0, Nat.zero_le _, Nat.zero_le _, rfl, hid (by simp)⟩
  case round =>
    obtain ⟨j, hj, hj2, rfl, hJ⟩ := hrel
    by_cases hlt : j < n
    · by_cases hlt2 : j < 200
      · obtain ⟨b, off, x, A', c', rfl, _, hx, _, _, _, _, _, m4⟩ := hrow.pa hlt
        have htk := take_succ_of hx
        obtain ⟨dl, hdl⟩ : ∃ dl, dl = x.2.data.length := ⟨_, rfl⟩
        rw [← hdl] at m4
        by_cases hb : 200 < dl
        · have hR1 : R = true := by
            rw [HR.out]
            unfold hugeP
            rw [Bool.or_eq_true]
            left
            rw [List.any_eq_true]
            exact ⟨x, List.mem_take_iff_getElem.2 ⟨j, by have := lt_of_get hx; omega, by rw [List.getElem?_eq_getElem (lt_of_get hx)] at hx; injection hx⟩, decide_eq_true (by omega)⟩
          subst hR1
          have hB : decide (200 < dl) = true := decide_eq_true hb
          have hB2 : decide ((200 : Int) < (dl : Int)) = true := decide_eq_true (by omega)
          clear hx htk hdl HR
          go_wp2
          go_ret
          exact ⟨rfl, rfl⟩
        · have hJ2 : (l.take (j + 1)).any (fun x => decide (200 < x.2.data.length)) = false := by
            rw [htk, List.any_append, hJ.out, Bool.false_or]
            simp only [List.any_cons, List.any_nil, Bool.or_false]
            exact decide_eq_false (by omega)
          have HJ2 := hid hJ2
          have hB : decide (200 < dl) = false := decide_eq_false hb
          have hB2 : decide ((200 : Int) < (dl : Int)) = false := decide_eq_false (by omega)
          clear hx htk hdl hJ2 hJ
          go_wp2
          go_round
          case rel => exact ⟨j + 1, by omega, by omega, by go_num, HJ2⟩
          case measure => simp [intOf]; omega
      · have hR1 : R = decide (100 < n) := by
          rw [HR.out]
          unfold hugeP
          have h5 := hJ.out
          rw [show j = 200 from by omega] at h5
          rw [h5, HN.out, Bool.false_or]
        have HR1 := hid hR1
        have hB3 : decide ((j : Int) < 200) = false := decide_eq_false (by omega)
        have hB4 : decide (j < 200) = false := decide_eq_false (by omega)
        have hB1 : decide (100 < n) = true := decide_eq_true (by omega)
        have hB2 : decide ((100 : Int) < (n : Int)) = true := decide_eq_true (by omega)
        clear hR1 hJ
        go_wp2
        go_ret
        exact ⟨ret_bool (by rw [HR1.out, hB1]), rfl⟩
    · obtain rfl : j = n := by omega
      have hR1 : R = decide (100 < j) := by
        rw [HR.out]
        unfold hugeP
        rw [show l.take 200 = l.take j from by rw [List.take_of_length_le (by have := HN.out; omega), List.take_of_length_le (by have := HN.out; omega)], hJ.out, HN.out, Bool.false_or]
      have HR1 := hid hR1
      clear hR1 hJ
      by_cases hb : 100 < j
      · have hB1 : decide (100 < j) = true := decide_eq_true hb
        have hB2 : decide ((100 : Int) < (j : Int)) = true := decide_eq_true (by omega)
        go_wp2
        go_ret
        exact ⟨ret_bool (by rw [HR1.out, hB1]), rfl⟩
      · have hB1 : decide (100 < j) = false := decide_eq_false hb
        have hB2 : decide ((100 : Int) < (j : Int)) = false := decide_eq_false (by omega)
        go_wp2
        go_ret
        exact ⟨ret_bool (by rw [HR1.out, hB1]), rfl⟩
end
end Go.Proofs.Ytjchobncmogcpaa
