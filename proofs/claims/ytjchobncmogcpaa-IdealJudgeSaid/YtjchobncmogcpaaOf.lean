/- The walks of judge.Of and of its reference; the reference's Numbers. -/
import Derived.Test.YtjchobncmogcpaaNumbers
import Derived.Test.YtjchobncmogcpaaJoin
namespace Go.Proofs.Ytjchobncmogcpaa
open Go.RowKit

theorem numsFrom_mem (kind : Int) : ∀ (l : List Ev) (k : Nat) (x : Int), x ∈ numsFrom kind k l → ∃ i : Nat, x = ((k + i : Nat) : Int) ∧ i < l.length
  | [], _, _, h => by simp [numsFrom] at h
  | y :: l, k, x, h => by
    simp only [numsFrom] at h
    split at h
    · rcases List.mem_cons.1 h with rfl | h
      · exact ⟨0, by simp, by simp⟩
      · obtain ⟨i, h1, h2⟩ := numsFrom_mem kind l (k + 1) x h
        exact ⟨i + 1, by rw [h1]; congr 1; omega, by simp; omega⟩
    · obtain ⟨i, h1, h2⟩ := numsFrom_mem kind l (k + 1) x h
      exact ⟨i + 1, by rw [h1]; congr 1; omega, by simp; omega⟩
theorem nums_get {l : List Ev} {kind : Int} {k : Nat} {x : Int} (h : (nums l kind)[k]? = some x) : ∃ i : Nat, x = i ∧ i < l.length := by
  obtain ⟨i, h1, h2⟩ := numsFrom_mem kind l 0 x (List.mem_of_getElem? h)
  exact ⟨i, by rw [h1]; simp, h2⟩
theorem nums_le (l : List Ev) (kind : Int) : (nums l kind).length ≤ l.length := numsFrom_le kind l 0

def dataAt (l : List Ev) (i : Int) : List UInt8 := ((l[i.toNat]?).map Ev.data).getD []
/-- The texts of the events of a kind. -/
def texts (l : List Ev) (kind : Int) : List (List UInt8) := (nums l kind).map (dataAt l)
theorem dataAt_nat {l : List Ev} {i : Nat} {x : Ev} (h : l[i]? = some x) : dataAt l i = x.data := by simp [dataAt, h]

set_option maxRecDepth 100000
section
set_option maxHeartbeats 400000 in
theorem numbersR_any (v : Value) (xs : List Ev) (kind : Int) (w : World) (h : IsSlice repEv w (all w) v xs) (hl : xs.length ≤ 1000) :
    Calls Try.prog 114 #[v, .int .i64 kind] w fun e w' => ∃ u, e = .returned u ∧ IsSlice (repInt .i64) w' (fresh w w') u (nums xs kind) ∧ Ext w w' := by
  obtain ⟨A, n, c, rfl, hnc, hcm, hrow⟩ := h
  have hn := hrow.1
  have hnb : n ≤ 1000 := by omega
  have HN := hid hn
  clear hn
  go_enter Try.func114, Try.ntmps114
  go_wp2
  go_loopw [5, 6] (fun u i wr => ∃ k : Nat, k ≤ n ∧ i = .int .i64 k ∧ Own (repInt .i64) 3 w.heap.size wr u (nums (xs.take k) kind) ∧ Ext w wr) (fun _ i _ => n - (intOf i).toNat)
  case atStart => exact ⟨0, Nat.zero_le _, rfl, own_nil _ _ _ _, Below.refl _ _⟩
  case round =>
    obtain ⟨k, hk, rfl, hown, hext⟩ := hrel
    have hL := nums_len kind xs k
    by_cases hlt : k < n
    · obtain ⟨b, off, x, A', m, c', rfl, hx, hd, hdl, c0, c1, c2, c3⟩ := hrow.evE hext hlt
      have HS := hid (nums_step kind hx)
      clear hx hdl
      go_wp2_with (at_builtin; refine wpl_app1 (r := repInt .i64) (x := (k : Int)) _ _ rfl rfl Try.underlying26 info_int (by decide) hown rfl rfl rfl ⟨rfl, WalkArith.wf_i64 (by omega)⟩ (by omega) (by simp only [maxLen]; omega) hext.size ?_; intro v' w1 hown1 hg1)
      · have he : (x.kind == kind) = true := by assumption
        go_roundw
        case rel => exact ⟨k + 1, by omega, by go_num, by rw [HS.out, if_pos (by simpa using he)]; exact hown1, Below.grown hext hg1 hext.size (fun j hj => (hown.lt j hj).1)⟩
        case measure => simp [intOf]; omega
      · have he : (x.kind == kind) = false := by assumption
        go_roundw
        case rel => exact ⟨k + 1, by omega, by go_num, by rw [HS.out, if_neg (by simpa using he), List.append_nil]; exact hown, hext⟩
        case measure => simp [intOf]; omega
    · go_wp2
      go_ret
      have hkn : k = xs.length := by have := HN.out; omega
      exact ⟨_, rfl, by subst hkn; rw [List.take_length] at hown; exact hown.fresh, hext⟩

set_option maxHeartbeats 400000 in
theorem of_any (v : Value) (xs : List Ev) (kind : Int) (w : World) (h : IsSlice repEv w (all w) v xs) (hl : xs.length ≤ 1000) (hd : ∀ x ∈ xs, x.data.length ≤ 1000) :
    Calls Try.prog 148 #[v, .int .i64 kind] w fun e w' => ∃ u, e = .returned u ∧ IsSlice (repSlice repByte) w' (fresh w w') u (texts xs kind) ∧ Ext w w' := by
  go_enter Try.func148, Try.ntmps148
  go_wp2_with fail
  refine (numbers_any _ _ _ _ h hl).mono ?_
  rintro e w1 ⟨u, rfl, hu, hext1⟩
  have h1 := h.ext hext1
  obtain ⟨A, n, c, rfl, hnc, hcm, hrow⟩ := h1
  obtain ⟨B, m, c', rfl, hmc, hcm', hnum⟩ := hu.any
  have hn := hrow.1
  have hm := hnum.1
  have hnl := nums_le xs kind
  have hmb : m ≤ 1000 := by omega
  have HN := hid hn
  have HM := hid hm
  have HD := hid hd
  clear hn hm hd h hnl
  go_wp2
  go_loopw [5, 12] (fun u i wr => ∃ k : Nat, k ≤ m ∧ i = .int .i64 k ∧ Own (repSlice repByte) 33 w1.heap.size wr u (((nums xs kind).take k).map (dataAt xs)) ∧ Ext w1 wr) (fun _ i _ => m - (intOf i).toNat)
  case atStart => exact ⟨0, Nat.zero_le _, rfl, own_nil _ _ _ _, Below.refl _ _⟩
  case round =>
    obtain ⟨k, hk, rfl, hown, hext⟩ := hrel
    by_cases hlt : k < m
    · obtain ⟨b, off, z, rfl, hz, hcz, _⟩ := hnum.intE hext hlt
      obtain ⟨i, rfl, hil⟩ := nums_get hz
      have hin : i < n := by have := HN.out; omega
      obtain ⟨b', off', x, A', d, cd, rfl, hx, hdat, hdl, c0, c1, c2, c3⟩ := hrow.evE hext hin
      have hxd := HD.out x (List.mem_of_getElem? hx)
      have HS := hid (take_succ_of hz)
      have HX := hid (dataAt_nat hx)
      have HDL := hid hdl
      have hLen : (((nums xs kind).take k).map (dataAt xs)).length ≤ 1000 := by simp; omega
      clear hx hz hdl
      go_wp2_with fail
      refine (join_any _ [x.data] _ (isSlice_lit1 (isSlice_single (hdat.ext hext))) (by simp; omega)).mono ?_
      rintro e w2 ⟨u2, rfl, hu2, hext2⟩
      rw [show [x.data].flatten = x.data from by simp] at hu2
      obtain ⟨A2, c2', rfl⟩ := hu2.shape
      have hex2 := Ext.of_alloc hext2
      have hown2 := hown.ext hex2
      have hu3 := hu2.newer (v := u5) (base := w1.heap.size) (fun k hk => ⟨(hown.lt k hk).1, by have := (hown.lt k hk).2; simp; omega⟩) (by have := hext.size; simp; omega)
      go_wp2_with (at_builtin; refine wpl_app1 (r := repSlice repByte) (x := x.data) _ _ rfl rfl Try.underlying25 info_bytes (by decide) hown2 rfl rfl rfl (isSlice_single hu3) (by omega) (by simp only [maxLen]; omega) (Nat.le_trans hext.size hex2.size) ?_; intro v' w3 hown3 hg3)
      go_roundw
      case rel => exact ⟨k + 1, by omega, by go_num, by rw [HS.out, List.map_append]; simp only [List.map_cons, List.map_nil, HX.out]; exact hown3, Below.grown (Ext.trans hext hex2) hg3 (Nat.le_trans hext.size hex2.size) (fun j hj => (hown2.lt j hj).1)⟩
      case measure => simp [intOf]; omega
    · go_wp2
      go_ret
      rw [List.take_of_length_le (by rw [HM.out]; omega)] at hown
      exact ⟨_, rfl, hown.fresh.since hext1, Ext.trans hext1 hext⟩
end
end Go.Proofs.Ytjchobncmogcpaa
