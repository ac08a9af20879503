/- What happens to a pusher: acts as arguments; are they huge; the number of an error. -/
import Derived.Test.YtimlbebockfioaaPusher9
namespace Go.Proofs.Ytimlbebockfioaa
open Go.RowKit

structure Ac where
  kind : Int
  n : Int
  m : List UInt8
  s : Sl
def repAc : Rep Ac where
  size := 7
  holds w S cs x := (Lit.int .i64 x.n).wf = true ∧ (Lit.int .u64 x.s.bits).wf = true ∧ ∃ v u, cs = [.int .i64 x.kind, .int .i64 x.n, v, .bool x.s.ack, .int .i64 x.s.seq, .int .u64 x.s.bits, u] ∧ IsSlice repByte w S v x.m ∧ IsSlice repByte w S u x.s.data
  len := by rintro _ _ _ _ ⟨_, _, v, u, rfl, _⟩; rfl
  one := by
    rintro _ _ _ _ ⟨_, _, v, u, rfl, h1, h2⟩ y hy
    obtain ⟨A, c, rfl⟩ := h1.shape
    obtain ⟨A2, c2, rfl⟩ := h2.shape
    simp at hy
    rcases hy with rfl | rfl | rfl | rfl | rfl | rfl | rfl <;> rfl
  keepP := by
    rintro _ _ _ _ _ _ ⟨w1, w2, v, u, rfl, h1, h2⟩ hk
    exact ⟨w1, w2, v, u, rfl, h1.keepP hk, h2.keepP hk⟩
theorem RowAt.ac {w : World} {S : Nat → Prop} {A n} {xs : List Ac} (h : RowAt repAc w S A n xs) {k : Nat} (hk : k < n) :
    ∃ b off x A1 c1 A2 c2, A = some ⟨b, off, none⟩ ∧ S b ∧ xs[k]? = some x ∧ ((Lit.int .i64 x.n).wf = true ∧ (Lit.int .u64 x.s.bits).wf = true) ∧ IsSlice repByte w S (.slice A1 x.m.length c1) x.m ∧ IsSlice repByte w S (.slice A2 x.s.data.length c2) x.s.data ∧
      w.cell? ⟨b, off + k * 7, none⟩ = some (.int .i64 x.kind) ∧ w.cell? ⟨b, off + k * 7 + 1, none⟩ = some (.int .i64 x.n) ∧ w.cell? ⟨b, off + k * 7 + 2, none⟩ = some (.slice A1 x.m.length c1) ∧ w.cell? ⟨b, off + k * 7 + 3, none⟩ = some (.bool x.s.ack) ∧
      w.cell? ⟨b, off + k * 7 + 4, none⟩ = some (.int .i64 x.s.seq) ∧ w.cell? ⟨b, off + k * 7 + 5, none⟩ = some (.int .u64 x.s.bits) ∧ w.cell? ⟨b, off + k * 7 + 6, none⟩ = some (.slice A2 x.s.data.length c2) := by
  obtain ⟨b, off, ds, x, hA, hb, hx, ⟨w1, w2, v, u, rfl, h1, h2⟩, hc⟩ := h.get hk
  obtain ⟨A1, c1, rfl⟩ := h1.shape
  obtain ⟨A2, c2, rfl⟩ := h2.shape
  exact ⟨b, off, x, A1, c1, A2, c2, hA, hb, hx, ⟨w1, w2⟩, h1, h2, hc 0 (by simp), hc 1 (by simp), hc 2 (by simp), hc 3 (by simp), hc 4 (by simp), hc 5 (by simp), hc 6 (by simp)⟩
def bigA (x : Ac) : Bool := decide (200 < x.m.length) || decide (200 < x.s.data.length)
def hugeA (l : List Ac) : Bool := (l.take 200).any bigA || decide (100 < l.length)
theorem hugeA_no {l : List Ac} (h : hugeA l = false) : l.length ≤ 100 ∧ ∀ x ∈ l, x.m.length ≤ 200 ∧ x.s.data.length ≤ 200 := by
  unfold hugeA at h
  rw [Bool.or_eq_false_iff] at h
  have hl : l.length ≤ 100 := by have := of_decide_eq_false h.2; omega
  refine ⟨hl, fun x hx => ?_⟩
  rw [List.take_of_length_le (by omega), List.any_eq_false] at h
  have h1 := h.1 x hx
  unfold bigA at h1
  simp at h1
  exact h1
set_option maxRecDepth 100000
section
theorem anum_any (x : Int) (w : World) : Calls Try.prog 9 #[.int .i64 x] w fun e w' => e = .returned (.int .i64 x) ∧ w = w' := by
  go_enter Try.func9, Try.ntmps9
  go_wp2
  go_ret
  exact ⟨rfl, rfl⟩
set_option maxHeartbeats 1000000 in
theorem hugeA_any (v : Value) (l : List Ac) (w : World) (h : IsSlice repAc w (all w) v l) :
    Calls Try.prog 8 #[v] w fun e w' => e = .returned (.bool (hugeA l)) ∧ w = w' := by
  obtain ⟨A, n, c, rfl, hnc, hcm, hrow⟩ := h
  have hn := hrow.1
  unfold maxLen at hcm
  have HN := hid hn
  obtain ⟨R, hR⟩ : ∃ R, R = hugeA l := ⟨_, rfl⟩
  rw [← hR]
  have HR := hid hR
  clear hn hR
  go_enter Try.func8, Try.ntmps8
  go_wp2
  go_loop [3] (fun i => ∃ j : Nat, j ≤ n ∧ j ≤ 200 ∧ i = .int .i64 j ∧ Wall ((l.take j).any bigA = false)) (fun i => 200 - (intOf i).toNat)
  case atStart => exact ⟨0, Nat.zero_le _, Nat.zero_le _, rfl, hid (by simp)⟩
  case round =>
    obtain ⟨j, hj, hj2, rfl, hJ⟩ := hrel
    by_cases hlt : j < n
    · by_cases hlt2 : j < 200
      · obtain ⟨b, off, x, A1, c1, A2, c2, rfl, _, hx, _, _, _, _, _, m2, _, _, _, m6⟩ := hrow.ac hlt
        have htk := take_succ_of hx
        obtain ⟨dl, hdl⟩ : ∃ dl, dl = x.s.data.length := ⟨_, rfl⟩
        rw [← hdl] at m6
        obtain ⟨ml, hml⟩ : ∃ ml, ml = x.m.length := ⟨_, rfl⟩
        rw [← hml] at m2
        by_cases hb : 200 < ml ∨ 200 < dl
        · have hR1 : R = true := by
            rw [HR.out]
            unfold hugeA
            rw [Bool.or_eq_true]
            left
            rw [List.any_eq_true]
            refine ⟨x, List.mem_take_iff_getElem.2 ⟨j, by have := lt_of_get hx; omega, by rw [List.getElem?_eq_getElem (lt_of_get hx)] at hx; injection hx⟩, ?_⟩
            unfold bigA
            rw [Bool.or_eq_true]
            rcases hb with hb | hb
            · exact .inl (decide_eq_true (by omega))
            · exact .inr (decide_eq_true (by omega))
          subst hR1
          by_cases hb1 : 200 < ml
          · have hB : decide (200 < ml) = true := decide_eq_true hb1
            have hB2 : decide ((200 : Int) < (ml : Int)) = true := decide_eq_true (by omega)
            clear hx htk hdl HR hml hb
            go_wp2
            go_ret
            exact ⟨rfl, rfl⟩
          · have hB : decide (200 < ml) = false := decide_eq_false hb1
            have hB2 : decide ((200 : Int) < (ml : Int)) = false := decide_eq_false (by omega)
            have hB3 : decide (200 < dl) = true := decide_eq_true (by omega)
            have hB4 : decide ((200 : Int) < (dl : Int)) = true := decide_eq_true (by omega)
            clear hx htk hdl HR hml hb
            go_wp2
            go_ret
            exact ⟨rfl, rfl⟩
        · have hJ2 : (l.take (j + 1)).any bigA = false := by
            rw [htk, List.any_append, hJ.out, Bool.false_or]
            simp only [List.any_cons, List.any_nil, Bool.or_false]
            unfold bigA
            rw [Bool.or_eq_false_iff]
            exact ⟨decide_eq_false (by omega), decide_eq_false (by omega)⟩
          have HJ2 := hid hJ2
          have hB : decide (200 < dl) = false := decide_eq_false (by omega)
          have hB2 : decide ((200 : Int) < (dl : Int)) = false := decide_eq_false (by omega)
          have hB3 : decide (200 < ml) = false := decide_eq_false (by omega)
          have hB4 : decide ((200 : Int) < (ml : Int)) = false := decide_eq_false (by omega)
          clear hx htk hdl hJ2 hJ hml hb
          go_wp2
          go_round
          case rel => exact ⟨j + 1, by omega, by omega, by go_num, HJ2⟩
          case measure => simp [intOf]; omega
      · have hR1 : R = decide (100 < n) := by
          rw [HR.out]
          unfold hugeA
          have h5 := hJ.out
          rw [show j = 200 from by omega] at h5
          rw [h5, HN.out, Bool.false_or]
        have HR1 := hid hR1
        have hB3 : decide ((j : Int) < 200) = false := decide_eq_false (by omega)
        have hB4 : decide (j < 200) = false := decide_eq_false (by omega)
        have hB1 : decide (100 < n) = true := decide_eq_true (by omega)
        have hB2 : decide ((100 : Int) < (n : Int)) = true := decide_eq_true (by omega)
        clear hR1 hJ
        go_wp2
        go_ret
        exact ⟨ret_bool (by rw [HR1.out, hB1]), rfl⟩
    · obtain rfl : j = n := by omega
      have hR1 : R = decide (100 < j) := by
        rw [HR.out]
        unfold hugeA
        rw [show l.take 200 = l.take j from by rw [List.take_of_length_le (by have := HN.out; omega), List.take_of_length_le (by have := HN.out; omega)], hJ.out, HN.out, Bool.false_or]
      have HR1 := hid hR1
      clear hR1 hJ
      by_cases hb : 100 < j
      · have hB1 : decide (100 < j) = true := decide_eq_true hb
        have hB2 : decide ((100 : Int) < (j : Int)) = true := decide_eq_true (by omega)
        go_wp2
        go_ret
        exact ⟨ret_bool (by rw [HR1.out, hB1]), rfl⟩
      · have hB1 : decide (100 < j) = false := decide_eq_false hb
        have hB2 : decide ((100 : Int) < (j : Int)) = false := decide_eq_false (by omega)
        go_wp2
        go_ret
        exact ⟨ret_bool (by rw [HR1.out, hB1]), rfl⟩
/-- Send that is refused. -/
theorem psSendLong_any (F : Nat → Prop) (w : World) (gp gt b : Nat) (c : Cfg) (s : Ps) (h : PsAt F w gp gt b c s) (A : Option Addr) (n cv : Nat) (hn : 64 < n) :
    Calls Try.prog 14 #[.pointer (some ⟨gp, 0, none⟩), .slice A n cv] w fun e w' => e = .returned (.tuple #[.int .i64 0, .slice none 0 0, .int .i64 2]) ∧ w = w' := by
  have HIS := hid (psIs_any F w gp gt b c s h)
  have hB : decide (64 < n) = true := decide_eq_true hn
  have hB2 : decide ((64 : Int) < (n : Int)) = true := decide_eq_true (by omega)
  clear h hn
  go_enter Try.func14, Try.ntmps14
  go_wp2_with (go_at_call 36; refine HIS.out.mono ?_; rintro e w2 ⟨rfl, rfl⟩)
  exact bodyPost_ret (results3 rfl _ _ _) rfl ⟨rfl, rfl⟩
theorem psSendFull_any (F : Nat → Prop) (w : World) (gp gt b : Nat) (c : Cfg) (s : Ps) (h : PsAt F w gp gt b c s) (A : Option Addr) (n cv : Nat) (hn : n ≤ 64) (hr : c.room ≤ (s.acc.length - s.base : Nat)) :
    Calls Try.prog 14 #[.pointer (some ⟨gp, 0, none⟩), .slice A n cv] w fun e w' => e = .returned (.tuple #[.int .i64 0, .slice none 0 0, .int .i64 3]) ∧ ∃ d, w' = w.drewN d := by
  have HIS := hid (psIs_any F w gp gt b c s h)
  obtain ⟨lv, hbk, hrow⟩ := h.is
  obtain ⟨A1, cc, rfl, hcc⟩ := hrow.len
  obtain ⟨_, _, c5, c7, _, _, _, _, _, _⟩ := psCellsAt hbk
  rw [List.length_drop] at c7
  obtain ⟨d, hd⟩ : ∃ d, d = s.acc.length - s.base := ⟨_, rfl⟩
  rw [← hd] at c7 hr
  have hB : decide (64 < n) = false := decide_eq_false (by omega)
  have hB2 : decide ((64 : Int) < (n : Int)) = false := decide_eq_false (by omega)
  have hB3 : decide (c.room ≤ (d : Int)) = true := decide_eq_true (by omega)
  clear h hn hbk hrow hd hr hcc
  go_enter Try.func14, Try.ntmps14
  go_wp2_with (go_at_call 36; refine HIS.out.mono ?_; rintro e w2 ⟨rfl, rfl⟩)
  go_quiet (fail)
  go_wp2
  exact bodyPost_ret (results3 rfl _ _ _) rfl ⟨rfl, _, rfl⟩
end
end Go.Proofs.Ytimlbebockfioaa
