/- The puller's reference (kedgeref25) in memory; Near, keep. -/
import Derived.Test.YtjchobncmogcpaaPullRQ
namespace Go.Proofs.Ytjchobncmogcpaa
open Go.RowKit

def repLate : Rep (Int × List UInt8) where
  size := 2
  holds w S cs x := ∃ v, cs = [.int .i64 x.1, v] ∧ IsSlice repByte w S v x.2
  len := by rintro _ _ _ _ ⟨v, rfl, _⟩; rfl
  one := by
    rintro _ _ _ _ ⟨v, rfl, _, _, _, rfl, _⟩ u hu
    simp at hu
    rcases hu with rfl | rfl <;> rfl
  keepP := by rintro _ _ _ _ _ _ ⟨v, rfl, h⟩ hk; exact ⟨v, rfl, h.keepP hk⟩
theorem RowAt.late {w : World} {S : Nat → Prop} {A n} {xs : List (Int × List UInt8)} (h : RowAt repLate w S A n xs) {k : Nat} (hk : k < n) :
    ∃ b off x A' c, A = some ⟨b, off, none⟩ ∧ S b ∧ xs[k]? = some x ∧ IsSlice repByte w S (.slice A' x.2.length c) x.2 ∧ w.cell? ⟨b, off + k * 2, none⟩ = some (.int .i64 x.1) ∧ w.cell? ⟨b, off + k * 2 + 1, none⟩ = some (.slice A' x.2.length c) := by
  obtain ⟨b, off, ds, x, hA, hb, hx, ⟨v, rfl, hv⟩, hc⟩ := h.get hk
  obtain ⟨A', c, rfl⟩ := hv.shape
  exact ⟨b, off, x, A', c, hA, hb, hx, hv, hc 0 (by simp), hc 1 (by simp)⟩
theorem elem_late : ElemInfo Try.prog 63 2 32 := elemInfo (z := .agg #[.int .i64 0, .slice none 0 0]) (by kernel_rfl) rfl
def prCells (c : Cfg) (gn : Nat) (lv : Value) (ent ret : Nat) : Array Value :=
  #[.int .i64 c.e, .int .i64 c.w, .int .i64 c.m, .int .i64 c.l, .int .i64 c.b, .int .i64 c.room, .int .u64 c.begin_, .pointer (some ⟨gn, 0, none⟩), lv, .int .i64 (ent : Int), .int .i64 (ret : Int)]
abbrev LateIn (gr : Nat) (w : World) (qv : Value) : Nat → Prop := fun b => gr < b ∧ b < w.heap.size ∧ qv.ownBlock ≠ some b
structure PrAt (w : World) (gn gr : Nat) (c : Cfg) (s : Pu) : Prop where
  lt : gn < gr
  is : ∃ qv lv, Blk w gr 59 (prCells c gn lv s.ent s.ret) ∧ Blk w gn 61 #[.int .i64 c.room, qv] ∧ Own (repSlice repByte) 33 (gr + 1) w qv s.q ∧ IsSlice repLate w (LateIn gr w qv) lv s.ah
theorem prCellsAt {w : World} {gn gr : Nat} {c : Cfg} {lv : Value} {ent ret : Nat} (h : Blk w gr 59 (prCells c gn lv ent ret)) :
    w.cell? ⟨gr, 1, none⟩ = some (.int .i64 c.w) ∧ w.cell? ⟨gr, 2, none⟩ = some (.int .i64 c.m) ∧ w.cell? ⟨gr, 7, none⟩ = some (.pointer (some ⟨gn, 0, none⟩)) ∧ w.cell? ⟨gr, 8, none⟩ = some lv ∧ w.cell? ⟨gr, 9, none⟩ = some (.int .i64 (ent : Int)) ∧ w.cell? ⟨gr, 10, none⟩ = some (.int .i64 (ret : Int)) ∧
    w.frozen? ⟨gr, 8, none⟩ = false ∧ w.frozen? ⟨gr, 9, none⟩ = false ∧ w.frozen? ⟨gr, 10, none⟩ = false :=
  ⟨h.cell 1, h.cell 2, h.cell 7, h.cell 8, h.cell 9, h.cell 10, h.frozen 8, h.frozen 9, h.frozen 10⟩
section
variable {w w' : World} {gn gr : Nat} {c : Cfg} {s : Pu}
theorem PrAt.gsz (h : PrAt w gn gr c s) : gr < w.heap.size := by obtain ⟨qv, lv, h1, _⟩ := h.is; exact h1.lt
theorem PrAt.ext (h : PrAt w gn gr c s) (he : Ext w w') : PrAt w' gn gr c s := by
  obtain ⟨qv, lv, h1, h2, h3, h4⟩ := h.is
  exact ⟨h.lt, qv, lv, h1.ext he, h2.ext he, h3.ext he, h4.keep fun b hb => ⟨⟨hb.1, Nat.lt_of_lt_of_le hb.2.1 he.size, hb.2.2⟩, fun _ => he.cell hb.2.1 _⟩⟩
end
set_option maxRecDepth 100000
section
theorem modR_any (place m : Int) (w : World) (hm2 : m ≤ 9223372036854775807) :
    Calls Try.prog 124 #[.int .i64 place, .int .i64 m] w fun e w' => e = .returned (.int .i64 (modV place m)) ∧ w = w' := by
  by_cases h1 : m < 1
  · have hv : modV place m = 0 := by unfold modV; rw [if_pos h1]
    rw [hv]
    clear hv
    go_enter Try.func124, Try.ntmps124
    go_wp2
    go_ret
    exact ⟨rfl, rfl⟩
  · have hm : 1 ≤ m := by omega
    have hmz : m ≠ 0 := by omega
    have hmb : (m == 0) = false := by simp; omega
    have hin := tmod_in (place := place) hm
    have hwr : IntKind.i64.wrap (place.tmod m) = place.tmod m := by rw [IntKind.wrap_i64]; omega
    by_cases hr : place.tmod m < 0
    · have hv := tmod_low hm hr
      have HV := hid (show modV place m = place.tmod m + m by rw [modV_pos hm, hv])
      clear hv
      have hwa : IntKind.i64.wrap (place.tmod m + m) = place.tmod m + m := by rw [IntKind.wrap_i64]; omega
      go_enter Try.func124, Try.ntmps124
      go_wp2
      go_ret
      exact ⟨ret_int HV.out.symm, rfl⟩
    · have hv := tmod_high hm hr
      have HV := hid (show modV place m = place.tmod m by rw [modV_pos hm, hv])
      clear hv
      go_enter Try.func124, Try.ntmps124
      go_wp2
      go_ret
      exact ⟨ret_int HV.out.symm, rfl⟩
set_option maxHeartbeats 1000000 in
theorem nearR_any (base span seq m : Int) (w : World) :
    Calls Try.prog 80 #[.int .i64 base, .int .i64 span, .int .i64 seq, .int .i64 m] w fun e w' => e = .returned (.tuple #[.int .i64 (nearV base span seq m).1, .bool (nearV base span seq m).2]) ∧ w = w' := by
  have HV : Wall (nearV base span seq m = if base < 0 ∨ 1152921504606846976 < base ∨ span < 0 ∨ 65536 < span ∨ m < 1 ∨ 65536 < m ∨ seq < 0 ∨ m ≤ seq ∨ span ≤ nearN base seq m then (0, false) else (base + nearN base seq m, true)) := hid rfl
  obtain ⟨r1, hr1⟩ : ∃ r, r = (nearV base span seq m).1 := ⟨_, rfl⟩
  obtain ⟨r2, hr2⟩ : ∃ r, r = (nearV base span seq m).2 := ⟨_, rfl⟩
  rw [← hr1, ← hr2]
  have HR1 := hid hr1
  have HR2 := hid hr2
  clear hr1 hr2
  have hbad : ∀ h : base < 0 ∨ 1152921504606846976 < base ∨ span < 0 ∨ 65536 < span ∨ m < 1 ∨ 65536 < m ∨ seq < 0 ∨ m ≤ seq ∨ span ≤ nearN base seq m, r1 = 0 ∧ r2 = false := fun h => by
    rw [HR1.out, HR2.out, HV.out, if_pos h]
    exact ⟨rfl, rfl⟩
  have HBAD := hid hbad
  clear hbad
  by_cases h1 : base < 0
  · obtain ⟨rfl, rfl⟩ := HBAD.out (by omega)
    go_enter Try.func80, Try.ntmps80
    go_wp2
    go_ret2
    exact ⟨rfl, rfl⟩
  by_cases h2 : 1152921504606846976 < base
  · obtain ⟨rfl, rfl⟩ := HBAD.out (by omega)
    go_enter Try.func80, Try.ntmps80
    go_wp2
    go_ret2
    exact ⟨rfl, rfl⟩
  by_cases h3 : span < 0
  · obtain ⟨rfl, rfl⟩ := HBAD.out (by omega)
    go_enter Try.func80, Try.ntmps80
    go_wp2
    go_ret2
    exact ⟨rfl, rfl⟩
  by_cases h4 : 65536 < span
  · obtain ⟨rfl, rfl⟩ := HBAD.out (by omega)
    go_enter Try.func80, Try.ntmps80
    go_wp2
    go_ret2
    exact ⟨rfl, rfl⟩
  by_cases h5 : m < 1
  · obtain ⟨rfl, rfl⟩ := HBAD.out (by omega)
    go_enter Try.func80, Try.ntmps80
    go_wp2
    go_ret2
    exact ⟨rfl, rfl⟩
  by_cases h6 : 65536 < m
  · obtain ⟨rfl, rfl⟩ := HBAD.out (by omega)
    go_enter Try.func80, Try.ntmps80
    go_wp2
    go_ret2
    exact ⟨rfl, rfl⟩
  obtain ⟨n, hn⟩ : ∃ n : Nat, (n : Int) = span := ⟨span.toNat, by omega⟩
  subst hn
  go_enter Try.func80, Try.ntmps80
  go_wp2
  go_loop [10] (fun i => ∃ j : Nat, j ≤ n ∧ i = .int .i64 j ∧ Wall (0 ≤ seq ∧ seq < m → (j : Int) ≤ nearN base seq m)) (fun i => n - (intOf i).toNat)
  case atStart => exact ⟨0, Nat.zero_le _, rfl, hid fun _ => by unfold nearN; exact Int.emod_nonneg _ (by omega)⟩
  case round =>
    obtain ⟨j, hj, rfl, hJ⟩ := hrel
    by_cases hlt : j < n
    · have HM := hid (modR_any (base + j) m w (by omega))
      rw [modV_pos (by omega)] at HM
      have hmi : 0 ≤ (base + j) % m ∧ (base + j) % m < m := ⟨Int.emod_nonneg _ (by omega), Int.emod_lt_of_pos _ (by omega)⟩
      by_cases he : (base + j) % m = seq
      · have hs1 : 0 ≤ seq ∧ seq < m := by rw [← he]; exact hmi
        have hN := near_found (by omega) he (hJ.out hs1)
        have hr : r1 = base + j ∧ r2 = true := by
          rw [HR1.out, HR2.out, HV.out, hN, if_neg (by omega)]
          exact ⟨rfl, rfl⟩
        obtain ⟨rfl, rfl⟩ := hr
        rw [he] at HM
        have hb : (seq == seq) = true := by simp
        clear he hN hmi HBAD HV HR1 HR2 hs1
        go_wp2_with (go_at_call 124; refine HM.out.mono ?_; rintro e w3 ⟨rfl, rfl⟩)
        go_ret2
        exact ⟨rfl, rfl⟩
      · have hb : ((base + j) % m == seq) = false := by simpa using he
        have hnx : 0 ≤ seq ∧ seq < m → ((j + 1 : Nat) : Int) ≤ nearN base seq m := fun hs => by
          have := near_next (show 1 ≤ m by omega) hs.1 hs.2 he (hJ.out hs)
          push_cast
          exact this
        have HNX := hid hnx
        generalize (base + j) % m = q at *
        clear hnx he hJ hmi
        go_wp2_with (go_at_call 124; refine HM.out.mono ?_; rintro e w3 ⟨rfl, rfl⟩)
        go_round
        case rel => exact ⟨j + 1, by omega, by go_num, HNX⟩
        case measure => simp [intOf]; omega
    · have hbb : base < 0 ∨ 1152921504606846976 < base ∨ (n : Int) < 0 ∨ 65536 < (n : Int) ∨ m < 1 ∨ 65536 < m ∨ seq < 0 ∨ m ≤ seq ∨ (n : Int) ≤ nearN base seq m := by
        by_cases hs : 0 ≤ seq ∧ seq < m
        · have := hJ.out hs; omega
        · omega
      obtain ⟨rfl, rfl⟩ := HBAD.out hbb
      clear hbb HBAD hJ
      go_wp2
      go_ret2
      exact ⟨rfl, rfl⟩
end
end Go.Proofs.Ytjchobncmogcpaa
