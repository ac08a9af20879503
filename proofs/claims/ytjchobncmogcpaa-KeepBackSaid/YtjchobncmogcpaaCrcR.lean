/- The walks of the reference's check sum. -/
import Derived.Test.YtjchobncmogcpaaCrc
namespace Go.Proofs.Ytjchobncmogcpaa
open Go.RowKit

theorem lay_get (s : Nat) : ∀ k, k < 4 → (layB s)[k]? = some (UInt8.ofNat (s / 256 ^ k % 256))
  | 0, _ => by rw [layB_eq]; simp
  | 1, _ => by rw [layB_eq]; simp
  | 2, _ => by rw [layB_eq]; simp [Nat.div_div_eq_div_mul]
  | 3, _ => by rw [layB_eq]; simp [Nat.div_div_eq_div_mul]
  | k + 4, h => by omega
theorem lay_take {s k : Nat} (h : k < 4) (xs : List UInt8) : xs ++ (layB s).take (k + 1) = (xs ++ (layB s).take k) ++ [UInt8.ofNat (s / 256 ^ k % 256)] := by
  rw [take_succ_of (lay_get s k h), List.append_assoc]
/-- What the other side compares. -/
theorem crcCheck_put (b : List UInt8) (h : 4 ≤ b.length) : crcCheck b = if crcPut (b.take (b.length - 4)) = b then some (b.take (b.length - 4)) else none := by
  unfold crcCheck crcPut
  rw [if_neg (by omega)]
  have hs : b = b.take (b.length - 4) ++ b.drop (b.length - 4) := (List.take_append_drop _ _).symm
  have key : (b.drop (b.length - 4) = layB (crcOf (b.take (b.length - 4)))) ↔ (b.take (b.length - 4) ++ layB (crcOf (b.take (b.length - 4))) = b) := by
    constructor
    · intro e
      rw [← e]
      exact hs.symm
    · intro e
      have h1 : b.take (b.length - 4) ++ layB (crcOf (b.take (b.length - 4))) = b.take (b.length - 4) ++ b.drop (b.length - 4) := e.trans hs
      exact (List.append_cancel_left h1).symm
  by_cases hc : b.drop (b.length - 4) = layB (crcOf (b.take (b.length - 4)))
  · rw [if_pos hc, if_pos (key.1 hc)]
  · rw [if_neg hc, if_neg (fun e => hc (key.2 e))]
set_option maxRecDepth 100000
section
set_option maxHeartbeats 1000000 in
theorem feedR_any (x : Nat) (hx : x < 4294967296) (v : Value) (xs : List UInt8) (w : World) (h : IsSlice repByte w (all w) v xs) :
    Calls Try.prog 164 #[.int .u32 (x : Int), v] w fun e w' => e = .returned (.int .u32 ((feed x xs : Nat) : Int)) ∧ ∃ d, w' = w.drewN d := by
  obtain ⟨A, n, c, rfl, hnc, hcm, hrow⟩ := h
  have hn := hrow.1
  have hmax : n ≤ 9223372036854775807 := by unfold maxLen at hcm; omega
  have HN := hid hn
  clear hn
  go_enter Try.func164, Try.ntmps164
  go_wp2
  go_loopw [0, 5] (fun s i wr => ∃ k : Nat, k ≤ n ∧ i = .int .i64 k ∧ s = .int .u32 ((feed x (xs.take k) : Nat) : Int) ∧ ∃ d, wr = w.drewN d) (fun _ i _ => n - (intOf i).toNat)
  case atStart => exact ⟨0, Nat.zero_le _, rfl, by simp [feed], 0, rfl⟩
  case round =>
    obtain ⟨k, hk, rfl, rfl, d, rfl⟩ := hrel
    by_cases hlt : k < n
    · obtain ⟨b, off, y, rfl, hb, hy, hcy⟩ := hrow.byte hlt
      have HS := hid (feed_take (x := x) hy)
      have hX := feed_lt (xs.take k) hx
      have hcl := c_lt y
      generalize feed x (xs.take k) = X at *
      have hxx : bits .xor .u32 ((X : Nat) : Int) ((y.toNat : Nat) : Int) = ((X ^^^ y.toNat : Nat) : Int) := u32_xor_nat X y.toNat hX (by omega)
      have hXL : X ^^^ y.toNat < 4294967296 := Nat.xor_lt_two_pow (n := 32) hX (by omega)
      have HE := hid (show feedB X y = stepsN 8 (X ^^^ y.toNat) from rfl)
      generalize X ^^^ y.toNat = Z at *
      have hkB : decide ((k : Int) < (n : Int)) = true := by simp; omega
      have hkB' : decide (k < n) = true := by simp; omega
      clear hy
      go_wp2
      go_loop [0, 6] (fun s i => ∃ j : Nat, j ≤ 8 ∧ i = .int .i64 j ∧ s = .int .u32 ((stepsN j Z : Nat) : Int)) (fun _ i => 8 - (intOf i).toNat)
      case atStart => exact ⟨0, Nat.zero_le _, rfl, rfl⟩
      case round =>
        obtain ⟨j, hj, rfl, rfl⟩ := hrel
        by_cases hjl : j < 8
        · have hlt32 := stepsN_lt j hXL
          have HJ := hid (show stepsN (j + 1) Z = stepN (stepsN j Z) from rfl)
          generalize stepsN j Z = Y at *
          rcases Nat.mod_two_eq_zero_or_one Y with hp | hp
          · have hs : stepN Y = Y / 2 := by unfold stepN; rw [if_neg (by omega)]
            have HP := hid hs
            have hpB : (((Y : Int) % 2) == 1) = false := by rw [beq_eq_false_iff_ne]; omega
            clear hs hp
            go_wp2
            go_round
            case rel => exact ⟨j + 1, by omega, by go_num, by rw [HJ.out, HP.out]; rfl⟩
            case measure => simp [intOf]; omega
          · have hs : stepN Y = (Y / 2) ^^^ poly32 := by unfold stepN; rw [if_pos hp]
            have hpB : (((Y : Int) % 2) == 1) = true := by rw [beq_iff_eq]; omega
            have hxor : bits .xor .u32 ((Y : Int) / 2) 3988292384 = (((Y / 2) ^^^ poly32 : Nat) : Int) := u32_xor_nat (Y / 2) 3988292384 (by omega) (by omega)
            have HP := hid hs
            generalize (Y / 2) ^^^ poly32 = R at *
            clear hs hp
            go_wp2
            go_round
            case rel => exact ⟨j + 1, by omega, by go_num, by rw [HJ.out, HP.out]⟩
            case measure => simp [intOf]; omega
        · obtain rfl : j = 8 := by omega
          generalize stepsN 8 Z = Y at *
          go_wp2
          go_roundw
          case rel => exact ⟨k + 1, by omega, by go_num, by rw [HS.out, HE.out], d, rfl⟩
          case measure => simp [intOf]; omega
    · obtain rfl : k = n := by omega
      go_wp2
      go_ret
      rw [List.take_of_length_le (by rw [HN.out]; exact Nat.le_refl _)]
      exact ⟨rfl, _, rfl⟩
theorem sumR_any (v : Value) (xs : List UInt8) (w : World) (h : IsSlice repByte w (all w) v xs) :
    Calls Try.prog 133 #[v] w fun e w' => e = .returned (.int .u32 ((crcOf xs : Nat) : Int)) ∧ ∃ d, w' = w.drewN d := by
  have HF := hid (feedR_any 4294967295 (by decide) v xs w h)
  have hX := feed_lt xs (x := ones) (by decide)
  have HC := hid (show crcOf xs = feed ones xs ^^^ ones from rfl)
  change Wall (Calls _ _ _ _ fun e w' => e = .returned (.int .u32 ((feed ones xs : Nat) : Int)) ∧ _) at HF
  generalize feed ones xs = X at *
  have hxx : bits .xor .u32 (X : Int) 4294967295 = ((X ^^^ ones : Nat) : Int) := u32_xor_nat X 4294967295 hX (by decide)
  clear h
  go_enter Try.func133, Try.ntmps133
  go_wp2_with (go_at_call 164; refine HF.out.mono ?_; rintro e w2 ⟨rfl, d, rfl⟩)
  go_ret
  rw [HC.out]
  exact ⟨rfl, d, rfl⟩
set_option maxHeartbeats 1000000 in
theorem crcPutR_any (v : Value) (xs : List UInt8) (w : World) (h : IsSlice repByte w (all w) v xs) (hl : xs.length ≤ 1000000) :
    Calls Try.prog 95 #[v] w fun e w' => ∃ u, e = .returned u ∧ IsSlice repByte w' (fresh w w') u (crcPut xs) ∧ Ext w w' := by
  have HSU := hid (sumR_any v xs w h)
  have HP := hid (show crcPut xs = xs ++ layB (crcOf xs) from rfl)
  have hS := crcOf_lt xs
  generalize crcOf xs = S at *
  have HLL := hid (layB_len S)
  obtain ⟨A, c, rfl⟩ := h.shape
  go_enter Try.func95, Try.ntmps95
  go_wp2_with (first
    | (go_at_call 133; refine HSU.out.mono ?_; rintro e w2 ⟨rfl, d, rfl⟩)
    | (at_builtin; refine wpl_app (r := repByte) (base := w.heap.size) (v := .slice (some ⟨w.heap.size, 0, none⟩) 0 0) (xs := []) _ _ rfl rfl Try.underlying33 info_byte (by decide) (own_lit (xs := []) (w := w.drewN d) (Nat.le_refl _) (by simp [maxLen]) (by simp) (by simp)) (((h.ext (ext_drewN w d)).off (ext_alloc _ _) (by simp [Value.ownBlock])).flat flat_byte) rfl rfl (by simp; omega) (by simp [maxLen]; omega) (by simp) ?_; intro v' w1 hown1 hg1 _))
  have hx1 : Ext w w1 := Below.grown (Ext.trans (ext_drewN w d) (ext_alloc _ _)) hg1 (by simp) (by simp [Value.ownBlock])
  rw [List.nil_append] at hown1
  go_loopw [3, 4, 5] (fun s b i wr => ∃ k : Nat, k ≤ 4 ∧ i = .int .i64 k ∧ s = .int .u32 ((S / 256 ^ k : Nat) : Int) ∧ Own repByte 5 w.heap.size wr b (xs ++ (layB S).take k) ∧ Ext w wr) (fun _ _ i _ => 4 - (intOf i).toNat)
  case atStart => exact ⟨0, Nat.zero_le _, rfl, by simp, by simpa using hown1, hx1⟩
  case round =>
    clear hown1 hx1 hg1
    obtain ⟨k, hk, rfl, rfl, hown, hx⟩ := hrel
    by_cases hlt : k < 4
    · have hN : S / 256 ^ k < 4294967296 := Nat.lt_of_le_of_lt (Nat.div_le_self _ _) hS
      have HD := hid (div_pow S k)
      have HT := hid (lay_take (s := S) hlt xs)
      have hQ : (xs ++ (layB S).take k).length ≤ 1000004 := by have := HLL.out; simp; omega
      generalize S / 256 ^ k = N at *
      generalize xs ++ (layB S).take k = pb at *
      have hV : (N : Int) % 256 = ((UInt8.ofNat (N % 256)).toNat : Int) := by rw [u8_of _ (Nat.mod_lt _ (by decide))]; omega
      have HV := hid hV
      clear hV
      obtain ⟨A4, c4, rfl, _⟩ := hown.form
      go_wp2_with (at_builtin; refine wpl_app1 (r := repByte) (base := w.heap.size) (x := UInt8.ofNat (N % 256)) _ _ rfl rfl Try.underlying33 info_byte (by decide) hown rfl rfl rfl (by show [Value.int .u8 ((N : Int) % 256)] = [Value.int .u8 ((UInt8.ofNat (N % 256)).toNat : Int)]; rw [HV.out]) (by omega) (by simp only [maxLen]; omega) hx.size ?_; intro v' w1 hown1 hg1)
      go_roundw
      case rel => exact ⟨k + 1, by omega, by go_num, by rw [← HD.out]; rfl, by rw [HT.out]; exact hown1, Below.grown hx hg1 hx.size (fun k hk => (hown.lt k hk).1)⟩
      case measure => simp [intOf]; omega
    · obtain rfl : k = 4 := by omega
      go_wp2
      go_ret
      rw [List.take_of_length_le (by rw [HLL.out]; exact Nat.le_refl _)] at hown
      exact ⟨_, rfl, by rw [HP.out]; exact hown.fresh, hx⟩
set_option maxHeartbeats 1000000 in
theorem crcCheckRShort_any (v : Value) (xs : List UInt8) (w : World) (h : IsSlice repByte w (all w) v xs) (hl : xs.length < 4) :
    Calls Try.prog 99 #[v] w fun e w' => e = .returned (.tuple #[.slice none 0 0, .bool false]) ∧ w = w' := by
  obtain ⟨A, c, rfl⟩ := h.shape
  clear h
  generalize xs.length = n at *
  go_enter Try.func99, Try.ntmps99
  go_wp2
  go_ret2
  exact ⟨rfl, rfl⟩
/-- Both are the same as far as was looked. -/
def UpTo (xs ys : List UInt8) (k : Nat) : Prop := ∀ j, j < k → xs[j]? = ys[j]?
set_option maxHeartbeats 2000000 in
theorem crcCheckR_any (v : Value) (xs : List UInt8) (w : World) (h : IsSlice repByte w (all w) v xs) (h4 : 4 ≤ xs.length) (hl : xs.length ≤ 1000000) :
    Calls Try.prog 99 #[v] w fun e w' => ((crcCheck xs = none ∧ e = .returned (.tuple #[.slice none 0 0, .bool false])) ∨ ∃ body u, crcCheck xs = some body ∧ e = .returned (.tuple #[u, .bool true]) ∧ IsSlice repByte w' (fresh w w') u body) ∧ Ext w w' := by
  obtain ⟨A, c, rfl⟩ := h.shape
  obtain ⟨k, hk⟩ : ∃ k, k = xs.length - 4 := ⟨_, rfl⟩
  have hki : (xs.length : Int) - 4 = (k : Int) := by omega
  obtain ⟨A1, hr1, hs1⟩ := cut_to (P := Try.prog) Try.underlying33 info_byte h (k := k) (by omega)
  have HPU := hid (crcPutR_any _ _ w hs1 (by rw [List.length_take]; omega))
  have hcc := crcCheck_put xs h4
  rw [← hk] at hcc
  have hplen : (crcPut (xs.take k)).length = xs.length := by unfold crcPut; rw [List.length_append, layB_len, List.length_take]; omega
  have HPL := hid hplen
  obtain ⟨_, n, _, hv, hnc, hcm, hrow⟩ := id h
  injection hv with e1 e2 e3
  subst e1 e2 e3
  have HCC := hid hcc
  generalize hpp : crcPut (xs.take k) = pp at *
  have hkl : k + 4 = xs.length := by omega
  clear hpp hcc hplen hk
  generalize hn : xs.length = n at *
  have HN := hid hn
  clear hn
  go_enter Try.func99, Try.ntmps99
  go_wp2_with (first
    | (go_at_call 95; refine HPU.out.mono ?_; rintro e w2 ⟨u2, rfl, hu2, hx2⟩; obtain ⟨A2, c2, rfl⟩ := hu2.shape; rw [HPL.out] at hu2 ⊢))
  obtain ⟨_, _, _, hv, _, _, hrow2⟩ := hu2.any
  injection hv with e1 e2 e3
  subst e1 e2 e3
  have hdB : decide ((n : Int) < 4) = false := by simp; omega
  go_loopw [6] (fun i wr => ∃ j : Nat, j ≤ n ∧ i = .int .i64 j ∧ UpTo pp xs j ∧ ∃ d, wr = w2.drewN d) (fun i _ => n - (intOf i).toNat)
  case atStart => exact ⟨0, Nat.zero_le _, rfl, fun j hj => absurd hj (by omega), 0, rfl⟩
  case round =>
    obtain ⟨j, hj, rfl, hup, d, rfl⟩ := hrel
    have HUP := hid hup
    clear hup
    by_cases hlt : j < n
    · obtain ⟨b, off, x, rfl, hx, hcx⟩ := hrow.byteE hx2 hlt
      obtain ⟨b2, off2, y, rfl, _, hy, hcy⟩ := hrow2.byte hlt
      have HX := hid hx
      have HY := hid hy
      clear hx hy
      by_cases hxy : ((y.toNat : Int) != (x.toNat : Int)) = true
      · have hno : crcCheck xs = none := by
          rw [HCC.out]
          refine if_neg fun e => ?_
          subst e
          have h1 := HX.out
          rw [HY.out] at h1
          injection h1 with h1
          simp [h1] at hxy
        have HNO := hid hno
        clear hno
        go_wp2
        go_quiet (fail)
        go_wp2
        go_ret2
        exact ⟨.inl ⟨HNO.out, rfl⟩, Ext.trans hx2 (below_drewN (ext_drewN _ _) _)⟩
      · have hxy : ((y.toNat : Int) != (x.toNat : Int)) = false := by simpa using hxy
        go_wp2
        go_quiet (fail)
        go_wp2
        go_roundw
        case rel =>
          refine ⟨j + 1, by omega, by go_num, fun q hq => ?_, _, by first | exact World.drewN_drewN _ _ _ | rfl⟩
          rcases Nat.lt_or_ge q j with hqj | hqj
          · exact HUP.out q hqj
          · obtain rfl : q = j := by omega
            have : y.toNat = x.toNat := by have : (y.toNat : Int) = x.toNat := by simpa using hxy
                                           omega
            rw [HY.out, HX.out, UInt8.toNat_inj.1 this]
        case measure => simp [intOf]; omega
    · obtain rfl : j = n := by omega
      have heq : pp = xs := List.ext_getElem? fun q => by
        rcases Nat.lt_or_ge q j with hqj | hqj
        · exact HUP.out q hqj
        · rw [List.getElem?_eq_none (by rw [HPL.out]; exact hqj), List.getElem?_eq_none (by rw [HN.out]; exact hqj)]
      have hyes : crcCheck xs = some (xs.take k) := by rw [HCC.out, if_pos heq]
      have HY := hid hyes
      have hx2d : Ext w (w2.drewN d) := Ext.trans hx2 (ext_drewN _ _)
      have hs1d := hs1.ext hx2d
      have HTK := hid (show (xs.take k).length = k by rw [List.length_take, HN.out]; omega)
      clear heq hyes
      generalize xs.take k = body at *
      go_wp2_with (at_builtin; refine wpl_app (r := repByte) (base := w.heap.size) (v := .slice (some ⟨(w2.drewN d).heap.size, 0, none⟩) 0 0) (xs := []) _ _ rfl rfl Try.underlying33 info_byte (by decide) (own_lit (xs := []) (w := w2.drewN d) hx2d.size (by simp [maxLen]) (by simp) (by simp)) ((hs1d.off (ext_alloc _ _) (by simp [Value.ownBlock])).flat flat_byte) rfl rfl (by have := HTK.out; simp; omega) (by have := HTK.out; simp [maxLen]; omega) (by have := hx2d.size; simp at this ⊢; omega) ?_; intro v' w3 hown3 hg3 _)
      go_ret2
      exact ⟨.inr ⟨body, _, HY.out, rfl, by simpa using hown3.fresh⟩, Below.grown (Ext.trans hx2d (ext_alloc _ _)) hg3 (by have := hx2d.size; simp at this ⊢; omega) (by have := hx2d.size; simp [Value.ownBlock] at this ⊢; omega)⟩
end
end Go.Proofs.Ytjchobncmogcpaa
