/- The walks of the digits of a byte's halves. -/
import Derived.Test.YtimlbebockfioaaDoorChartQ
import Derived.Test.YtimlbebockfioaaDoorBytes
import Derived.StillTailTactics
import Derived.Deep.DeepCutAuto
import Derived.Deep.RegionLaw
import Derived.Deep.RegionHeld3
import Derived.StillTactics
import Derived.IntWalk
namespace Go.Proofs.YtimlbebockfioaaDoor
open Go.RowKit

set_option maxRecDepth 100000
section
theorem known_any (k : Int) (w : World) : Calls Tryd.prog 31 #[.int .i64 k] w fun e w' => e = .returned (.bool (knownI k)) ∧ w = w' := by
  by_cases h0 : 0 ≤ k
  · have t0 : decide (0 ≤ k) = true := decide_eq_true h0
    have hb : knownI k = decide (k < 8) := by unfold knownI; rw [t0]; rfl
    rw [hb]
    clear hb
    go_enter Tryd.func31, Tryd.ntmps31
    go_wp2
    go_ret
    exact ⟨rfl, rfl⟩
  · have t0 : decide (0 ≤ k) = false := decide_eq_false h0
    have hb : knownI k = false := by unfold knownI; rw [t0]; rfl
    rw [hb]
    clear hb
    go_enter Tryd.func31, Tryd.ntmps31
    go_wp2
    go_ret
    exact ⟨rfl, rfl⟩
theorem ranged_any (k : Int) (w : World) : Calls Tryd.prog 32 #[.int .i64 k] w fun e w' => e = .returned (.bool (rangedI k)) ∧ w = w' := by
  by_cases h0 : 0 ≤ k
  · have t0 : decide (0 ≤ k) = true := decide_eq_true h0
    have hb : rangedI k = decide (k ≤ 999999) := by unfold rangedI; rw [t0]; rfl
    rw [hb]
    clear hb
    go_enter Tryd.func32, Tryd.ntmps32
    go_wp2
    go_ret
    exact ⟨rfl, rfl⟩
  · have t0 : decide (0 ≤ k) = false := decide_eq_false h0
    have hb : rangedI k = false := by unfold rangedI; rw [t0]; rfl
    rw [hb]
    clear hb
    go_enter Tryd.func32, Tryd.ntmps32
    go_wp2
    go_ret
    exact ⟨rfl, rfl⟩
def halfB (c : UInt8) : Int × Bool := if 48 ≤ c.toNat ∧ c.toNat ≤ 57 then ((c.toNat : Int) - 48, true) else if 97 ≤ c.toNat ∧ c.toNat ≤ 102 then ((c.toNat : Int) - 97 + 10, true) else (0, false)
theorem halfB_spec (c : UInt8) : (halfD c = some (halfB c).1.toNat ∧ (halfB c).2 = true ∧ 0 ≤ (halfB c).1 ∧ (halfB c).1 < 16) ∨ (halfD c = none ∧ halfB c = (0, false)) := by
  unfold halfD halfB
  by_cases h1 : 48 ≤ c.toNat ∧ c.toNat ≤ 57
  · rw [if_pos h1, if_pos h1]
    exact .inl ⟨by congr 1; show c.toNat - 48 = ((c.toNat : Int) - 48).toNat; omega, rfl, by show 0 ≤ (c.toNat : Int) - 48; omega, by show (c.toNat : Int) - 48 < 16; omega⟩
  · rw [if_neg h1, if_neg h1]
    by_cases h2 : 97 ≤ c.toNat ∧ c.toNat ≤ 102
    · rw [if_pos h2, if_pos h2]
      exact .inl ⟨by congr 1; show c.toNat - 87 = ((c.toNat : Int) - 97 + 10).toNat; omega, rfl, by show 0 ≤ (c.toNat : Int) - 97 + 10; omega, by show (c.toNat : Int) - 97 + 10 < 16; omega⟩
    · rw [if_neg h2, if_neg h2]
      exact .inr ⟨rfl, rfl⟩
set_option maxHeartbeats 1000000 in
theorem half_any (c : UInt8) (w : World) : Calls Tryd.prog 59 #[.int .u8 (c.toNat : Int)] w fun e w' => e = .returned (.tuple #[.int .u8 (halfB c).1, .bool (halfB c).2]) ∧ w = w' := by
  have hlt := c.toNat_lt
  obtain ⟨r, hr⟩ : ∃ r, r = halfB c := ⟨_, rfl⟩
  rw [← hr]
  unfold halfB at hr
  generalize c.toNat = n at *
  by_cases h1 : 48 ≤ n ∧ n ≤ 57
  · rw [if_pos h1] at hr
    subst hr
    go_enter Tryd.func59, Tryd.ntmps59
    go_wp2
    go_ret2
    exact ⟨rfl, rfl⟩
  · rw [if_neg h1] at hr
    by_cases h2 : 97 ≤ n ∧ n ≤ 102
    · rw [if_pos h2] at hr
      subst hr
      go_enter Tryd.func59, Tryd.ntmps59
      have t1 : decide ((48 : Int) ≤ (n : Int)) = true := decide_eq_true (by omega)
      have t1' : decide (48 ≤ n) = true := decide_eq_true (by omega)
      have t2 : decide ((n : Int) ≤ 57) = false := decide_eq_false (by omega)
      have t2' : decide (n ≤ 57) = false := decide_eq_false (by omega)
      go_wp2
      go_ret2
      exact ⟨rfl, rfl⟩
    · rw [if_neg h2] at hr
      subst hr
      by_cases h3 : 48 ≤ n
      · have t1 : decide ((48 : Int) ≤ (n : Int)) = true := decide_eq_true (by omega)
        have t1' : decide (48 ≤ n) = true := decide_eq_true (by omega)
        have t2 : decide ((n : Int) ≤ 57) = false := decide_eq_false (by omega)
        have t2' : decide (n ≤ 57) = false := decide_eq_false (by omega)
        by_cases h4 : 97 ≤ n
        · have t3 : decide ((97 : Int) ≤ (n : Int)) = true := decide_eq_true (by omega)
          have t3' : decide (97 ≤ n) = true := decide_eq_true (by omega)
          have t4 : decide ((n : Int) ≤ 102) = false := decide_eq_false (by omega)
          have t4' : decide (n ≤ 102) = false := decide_eq_false (by omega)
          go_enter Tryd.func59, Tryd.ntmps59
          go_wp2
          go_ret2
          exact ⟨rfl, rfl⟩
        · have t3 : decide ((97 : Int) ≤ (n : Int)) = false := decide_eq_false (by omega)
          have t3' : decide (97 ≤ n) = false := decide_eq_false (by omega)
          go_enter Tryd.func59, Tryd.ntmps59
          go_wp2
          go_ret2
          exact ⟨rfl, rfl⟩
      · have t1 : decide ((48 : Int) ≤ (n : Int)) = false := decide_eq_false (by omega)
        have t1' : decide (48 ≤ n) = false := decide_eq_false (by omega)
        have t3 : decide ((97 : Int) ≤ (n : Int)) = false := decide_eq_false (by omega)
        have t3' : decide (97 ≤ n) = false := decide_eq_false (by omega)
        go_enter Tryd.func59, Tryd.ntmps59
        go_wp2
        go_ret2
        exact ⟨rfl, rfl⟩
theorem step_appD {P : Program} {α : Type} {r : Rep α} {w : World} {ops : Array Oper} {o : Oper} {a : Act} {K : Act → World → Prop} {Q : Exit → Act → World → Prop} {E : Prop} {base : Nat} {t e : TypeId} {bytes : Nat} {v u : Value} {xs news : List α} (s x : Operand) (hgd : o.guard = none)
    (ho : o.op = .call { callee := .builtin .append, args := #[s, x], argTypes := #[t, t] }) (ht : P.underlying t = some (.slice e)) (hi : ElemInfo P e r.size bytes) (hsz : 0 < r.size)
    (hown : Own r e base w v xs) (hu : SliceIn r w (nb w v) (el base w v) u news) (hs : a.eval s = v) (hx : a.eval x = u)
    (hbytes : (xs.length + news.length) * bytes ≤ 140737488355328) (h63 : xs.length + news.length ≤ maxLen) (hbase : base ≤ w.heap.size)
    (h : ∀ v' w', Own r e base w' v' (xs ++ news) → w.grownBy w' v.ownBlock → K (a.put o.dst v') w') : if Region.wanted o (yielded ops a.tmps) = true then o.wp P a w K Q else E := by
  have hw : Region.wanted o (yielded ops a.tmps) = true := by simp [Region.wanted, hgd]
  rw [if_pos hw]
  exact wp_app s x ho ht hi hsz hown hu hs hx hbytes h63 hbase fun v' w' h1 h2 _ => h v' w' h1 h2
/-- A literal of bytes, beside a row of one's own. -/
theorem lits_nb {w : World} {base : Nat} {e : TypeId} {v : Value} {xs : List UInt8} (hown : Own repByte e base w v xs) (us : List Value) (bs : List UInt8) (h : us = bs.map fun c => .int .u8 (c.toNat : Int)) (hm : bs.length ≤ maxLen) {W : World} (hW : W = w.alloc (.cells us.toArray e)) {n g : Nat} (hn : n = bs.length) (hg : g = w.heap.size) :
    SliceIn repByte W (nb W v) (el base W v) (.slice (some ⟨g, 0, none⟩) n n) bs := by
  subst hW
  subst h
  have hl : ∀ bs : List UInt8, Holds1 repByte w (all w) (bs.map fun c => .int .u8 (c.toNat : Int)) bs := by
    intro bs
    induction bs with
    | nil => trivial
    | cons b bs ih => exact ⟨rfl, ih⟩
  have h1 := isSlice_lits (r := repByte) (e := e) (fz := (0, 0)) rfl (hl bs) hm hn hg
  obtain ⟨A, m, c, hv, h2, h3, h4, h5⟩ := h1
  refine ⟨A, m, c, hv, h2, h3, h4, fun hn => ?_⟩
  obtain ⟨b, off, hA, hb, hj⟩ := h5 hn
  refine ⟨b, off, hA, ⟨hb, fun e => ?_⟩, hj⟩
  have h6 := (hown.lt b e).2
  subst hA
  injection hv with hv
  injection hv with hv
  injection hv with hv
  omega
theorem still_tail' {P : Program} {id : Nat} {Q : Exit → Act → World → Prop} {a : Act} {w : World} {l : List Oper} (n : Nat) (hm : P.follows .mixedOrders = true) (hB : Region.lexTailB .any l.toArray n = true)
    (h : ∀ w', w' = w.drewN 1 → wpStill P l.toArray w' (fun a' => wpList P l.toArray Q (l.drop n) a' w') (l.take n) a) : (Code.region id l.toArray true).wp P Q a w := wp_region_still_tail n hm hB (h _ rfl)
def digitsS : ByteArray := ⟨#[48, 49, 50, 51, 52, 53, 54, 55, 56, 57, 97, 98, 99, 100, 101, 102]⟩
theorem run_digit (kd : IntKind) (i : Int) (k : Nat) (hi : i = k) (hk : k < 16) (W : World) :
    (Instr.index 9 (.string ⟨#[48, 49, 50, 51, 52, 53, 54, 55, 56, 57, 97, 98, 99, 100, 101, 102]⟩) (.int kd i)).run Tryd.prog W = .ok (.int .u8 ((hexD k).toNat : Int)) W := by
  subst hi
  refine (run_index_string (P := Tryd.prog) (w := W) 9 _ kd (k : Int) Tryd.underlying9).trans ?_
  have h2 : ∀ k : Fin 16, (digitsS.data[k.val]'(k.isLt)) = hexD k.val := by decide
  rw [dif_pos ⟨by omega, by show (k : Int) < 16; omega⟩]
  have h3 := h2 ⟨k, hk⟩
  congr 3
  exact congrArg UInt8.toNat h3
theorem and15 (n : Nat) (h : n < 256) : bits BinOp.and IntKind.u8 (n : Int) 15 = ((n % 16 : Nat) : Int) := by
  have h2 : ∀ n : Fin 256, bits BinOp.and IntKind.u8 (n.val : Int) 15 = ((n.val % 16 : Nat) : Int) := by decide +kernel
  exact h2 ⟨n, h⟩
theorem hexL_snoc (l : List UInt8) (c : UInt8) : hexL (l ++ [c]) = hexL l ++ [hexD (c.toNat / 16), hexD (c.toNat % 16)] := by
  induction l with
  | nil => rfl
  | cons a r ih => rw [List.cons_append, hexL, hexL, ih]; rfl
set_option maxHeartbeats 1000000 in
theorem hex_any (v : Value) (xs : List UInt8) (w : World) (h : IsSlice repByte w (all w) v xs) (hl : xs.length ≤ 1000) :
    Calls Tryd.prog 33 #[v] w fun e w' => e = .returned (.string (bstr (hexL xs))) ∧ Ext w w' := by
  obtain ⟨A, n, c, rfl, hnc, hcm, hrow⟩ := h
  have hn := hrow.1
  have HN := hid hn
  have hn1 : n ≤ 1000 := by omega
  obtain ⟨S, hS⟩ : ∃ S, S = bstr (hexL xs) := ⟨_, rfl⟩
  rw [← hS]
  have HSS := hid hS
  clear hn hl hS
  go_enter Tryd.func33, Tryd.ntmps33
  go_wp2_with (at_make; refine wpl_make0 (r := repByte) (base := w.heap.size) (z := .int .u8 0) (bytes := 1) _ _ (2 * n) rfl rfl Tryd.underlying22 (by kernel_rfl) rfl rfl rfl (by omega) (by simp only [maxLen]; omega) (Nat.le_refl _) ?_; intro v1 w1 hown1 hext1)
  go_loopw [3, 12] (fun u i wr => ∃ k : Nat, k ≤ n ∧ i = .int .i64 k ∧ Own repByte 5 w.heap.size wr u (hexL (xs.take k)) ∧ Ext w wr) (fun _ i _ => n - (intOf i).toNat)
  case atStart => exact ⟨0, Nat.zero_le _, rfl, hown1, hext1⟩
  case round =>
    obtain ⟨k, hk, rfl, hown, hext⟩ := hrel
    by_cases hlt : k < n
    · obtain ⟨b, off, x, rfl, hx, hcx⟩ := hrow.byteE hext hlt
      have hx256 := x.toNat_lt
      have HS := hid (show hexL (xs.take (k + 1)) = hexL (xs.take k) ++ [hexD (x.toNat / 16), hexD (x.toNat % 16)] from by rw [take_succ_of hx, hexL_snoc])
      have i1 := run_digit .u8 ((x.toNat : Int) / 16) (x.toNat / 16) (by omega) (by omega)
      have i2 := run_digit .u8 (bits BinOp.and IntKind.u8 (x.toNat : Int) 15) (x.toNat % 16) (and15 _ (by omega)) (by omega)
      clear hx
      go_upto_region 5 with (fail)
      have hext3 : Ext w wr.drew := Ext.trans hext (ext_drewN wr 1)
      have hown3 : Own repByte 5 w.heap.size wr.drew u3 (hexL (xs.take k)) := hown.ext (ext_drewN wr 1)
      have hql : (hexL (xs.take k)).length ≤ 2000 := by rw [hexL_len, List.length_take]; omega
      have HOX := hid (⟨hown3, hext3⟩ : Own repByte 5 w.heap.size wr.drew u3 (hexL (xs.take k)) ∧ Ext w wr.drew)
      clear hown hext hown3 hext3
      go_region_law (first
        | (refine step_appD (r := repByte) (base := w.heap.size) _ _ rfl rfl Tryd.underlying22 info_byte (by decide) (HOX.out.1.ext (ext_alloc _ _)) (lits_nb HOX.out.1 [.int .u8 ((hexD (x.toNat / 16)).toNat : Int), .int .u8 ((hexD (x.toNat % 16)).toNat : Int)] [hexD (x.toNat / 16), hexD (x.toNat % 16)] rfl (by simp [maxLen]) rfl rfl rfl) rfl rfl (by simp; omega) (by simp [maxLen]; omega) (Nat.le_trans HOX.out.2.size (by simp)) ?_; intro v8 w8 hown8 hg8))
      all_goals
        have hext8 : Ext w w8 := Below.grown (Ext.trans HOX.out.2 (ext_alloc _ _)) hg8 (Nat.le_trans HOX.out.2.size (by simp)) (fun k hk => (HOX.out.1.lt k hk).1)
        rw [← HS.out] at hown8
        have H8 := hid (⟨hown8, hext8⟩ : Own repByte 5 w.heap.size w8 v8 (hexL (xs.take (k + 1))) ∧ Ext w w8)
        clear hown8 hext8 hg8 HOX HS
        go_wp2
        go_roundw
        case rel => exact ⟨k + 1, by omega, by go_num, H8.out.1, H8.out.2⟩
        case measure => simp [intOf]; omega
    · obtain rfl : k = n := by omega
      rw [List.take_of_length_le (by rw [HN.out]; exact Nat.le_refl _)] at hown
      have hrun := run_str (P := Tryd.prog) 22 5 9 Tryd.underlying22 Tryd.underlying5 Tryd.underlying9 hown.slice
      have HX := hid hext
      rw [← HSS.out] at hrun
      clear hown hext
      go_wp2
      go_ret
      exact ⟨rfl, HX.out⟩
/-! The document's. -/
theorem run_cut (i j : Int) (k : Nat) (hi : i = k) (hj : j = k + 1) (hk : k < 16) (W : World) :
    (Instr.slice 9 (.string ⟨#[48, 49, 50, 51, 52, 53, 54, 55, 56, 57, 97, 98, 99, 100, 101, 102]⟩) (some (.int .i64 i)) (some (.int .i64 j)) none).run Tryd.prog W = .ok (.string (bstr [hexD k])) W := by
  subst hi
  subst hj
  refine (run_slice_string (P := Tryd.prog) W 9 _ .i64 .i64 (k : Int) ((k : Int) + 1) Tryd.underlying9 (by omega) (by omega) (by show (k : Int) + 1 ≤ 16; omega)).trans ?_
  have h2 : ∀ k : Fin 16, digitsS.extract k.val (k.val + 1) = bstr [hexD k.val] := by decide
  have h3 := h2 ⟨k, hk⟩
  rw [show ((k : Int) + 1).toNat = k + 1 from by omega, show ((k : Int)).toNat = k from by omega]
  congr 2
theorem bstr_app (a b : List UInt8) : bstr a ++ bstr b = bstr (a ++ b) := by
  unfold bstr
  rw [ByteArray.mk_append_mk]
theorem bstr_size (a : List UInt8) : (bstr a).size = a.length := by simp [bstr, ByteArray.size]
set_option maxHeartbeats 1000000 in
theorem hexR_any (v : Value) (xs : List UInt8) (w : World) (h : IsSlice repByte w (all w) v xs) (hl : xs.length ≤ 1000) :
    Calls Tryd.prog 37 #[v] w fun e w' => e = .returned (.string (bstr (hexL xs))) ∧ Ext w w' := by
  obtain ⟨A, n, c, rfl, hnc, hcm, hrow⟩ := h
  have hn := hrow.1
  have HN := hid hn
  have hn1 : n ≤ 1000 := by omega
  clear hn hl
  go_enter Tryd.func37, Tryd.ntmps37
  go_wp2
  go_loopw [3, 4] (fun u i wr => ∃ k : Nat, k ≤ n ∧ i = .int .i64 k ∧ u = .string (bstr (hexL (xs.take k))) ∧ Ext w wr) (fun _ i _ => n - (intOf i).toNat)
  case atStart => exact ⟨0, Nat.zero_le _, rfl, rfl, Below.refl _ _⟩
  case round =>
    obtain ⟨k, hk, rfl, rfl, hext⟩ := hrel
    by_cases hlt : k < n
    · obtain ⟨b, off, x, rfl, hx, hcx⟩ := hrow.byteE hext hlt
      have hx256 := x.toNat_lt
      have HS := hid (show hexL (xs.take (k + 1)) = hexL (xs.take k) ++ [hexD (x.toNat / 16), hexD (x.toNat % 16)] from by rw [take_succ_of hx, hexL_snoc])
      clear hx
      obtain ⟨S, hS⟩ : ∃ S, S = bstr (hexL (xs.take k)) := ⟨_, rfl⟩
      rw [← hS]
      have HSB := hid hS
      clear hS
      have hql : (hexL (xs.take k)).length ≤ 2000 := by rw [hexL_len, List.length_take]; omega
      have hSz : S.size ≤ 2000 := by rw [HSB.out, bstr_size]; exact hql
      have hSz2 : (S ++ bstr [hexD (x.toNat / 16)]).size ≤ 2001 := by rw [HSB.out, bstr_app, bstr_size, List.length_append]; simp; omega
      have b1 : (bstr [hexD (x.toNat / 16)]).size ≤ 1 := by rw [bstr_size]; simp
      have b2 : (bstr [hexD (x.toNat % 16)]).size ≤ 1 := by rw [bstr_size]; simp
      have i1 := run_cut ((x.toNat : Int) / 16) ((x.toNat : Int) / 16 + 1) (x.toNat / 16) (by omega) (by omega) (by omega)
      have i2 := run_cut ((x.toNat : Int) % 16) ((x.toNat : Int) % 16 + 1) (x.toNat % 16) (by omega) (by omega) (by omega)
      have w1 := IntWalk.i64_in ((x.toNat : Int) / 16 + 1) (by omega)
      have w2 := IntWalk.i64_in ((x.toNat : Int) % 16 + 1) (by omega)
      go_upto_region 6 with (fail)
      go_quiet (fail)
      go_wp2
      go_quiet (fail)
      go_wp2
      go_roundw
      case rel => exact ⟨k + 1, by omega, by go_num, by rw [HS.out, HSB.out, bstr_app, bstr_app]; simp, Ext.trans hext (ext_drewN _ _)⟩
      case measure => simp [intOf]; omega
    · obtain rfl : k = n := by omega
      rw [List.take_of_length_le (by rw [HN.out]; exact Nat.le_refl _)]
      go_wp2
      go_ret
      exact ⟨rfl, hext⟩
end
end Go.Proofs.YtimlbebockfioaaDoor
