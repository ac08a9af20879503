/- The walks of octet.Put, Number and Cut, and of their references. -/
import Derived.Test.YtjchobncmogcpaaJoin
import Derived.Test.YtjchobncmogcpaaMake
import Derived.Test.YtjchobncmogcpaaCrcPlain
import Derived.Laws.BitsAllLaws
import Derived.Laws.Bits64b
import Derived.Deep.RegionLaw
import Derived.Test.YtjchobncmogcpaaRows
import Derived.WalkSpells
import Derived.IntWalk
namespace Go.Proofs.Ytjchobncmogcpaa
open Go.RowKit

def byteVals (l : List UInt8) : Array Value := (l.map fun c => Value.int .u8 (c.toNat : Int)).toArray
theorem byteVals_zero (n : Nat) : ((List.replicate n (0 : Int)).map (Value.int .u8)).toArray = byteVals (List.replicate n 0) := by simp [byteVals]
theorem Blk.bytes {w : World} {g : Nat} {t : TypeId} {S : Nat → Prop} {xs : List UInt8} (h : Blk w g t (byteVals xs)) (hS : S g) {c : Nat} (hc : xs.length ≤ c) (hm : c ≤ maxLen) :
    IsSlice repByte w S (.slice (some ⟨g, 0, none⟩) xs.length c) xs :=
  ⟨_, _, _, rfl, hc, hm, rfl, fun _ => ⟨g, 0, rfl, hS, fun j hj => ⟨[_], rfl, fun i hi => by
    have hi0 : i = 0 := by simpa using hi
    subst hi0
    rw [h.cell]
    have e : 0 + j * repByte.size + 0 = j := by show 0 + j * 1 + 0 = j; omega
    rw [e]
    simp [byteVals, List.getElem?_eq_getElem hj]⟩⟩⟩
theorem Blk.byteSet {w : World} {g : Nat} {t : TypeId} {xs : List UInt8} (h : Blk w g t (byteVals xs)) (j : Nat) (c : UInt8) : Blk (w.setCell ⟨g, j, none⟩ (.int .u8 (c.toNat : Int))) g t (byteVals (xs.set j c)) := by
  have := h.set_ j (.int .u8 (c.toNat : Int))
  unfold byteVals at this ⊢
  rw [List.map_set]
  simpa using this

theorem Blk.bytesN {w : World} {g : Nat} {t : TypeId} {S : Nat → Prop} {xs : List UInt8} (h : Blk w g t (byteVals xs)) (hS : S g) {n c : Nat} (hn : xs.length = n) (hc : n ≤ c) (hm : c ≤ maxLen) :
    IsSlice repByte w S (.slice (some ⟨g, 0, none⟩) n c) xs := by
  subst hn
  exact h.bytes hS hc hm
theorem put_round {n wide i : Nat} (hi : i < wide) : (List.replicate (wide - i) 0 ++ putB n i).set (wide - 1 - i) (UInt8.ofNat (n / 256 ^ i % 256)) = List.replicate (wide - (i + 1)) 0 ++ putB n (i + 1) := by
  have e : wide - i = (wide - 1 - i) + 1 := by omega
  rw [e, List.replicate_succ', List.append_assoc, List.set_append_right _ _ (by simp)]
  rw [putB_first]
  have e2 : wide - (i + 1) = wide - 1 - i := by omega
  rw [e2]
  congr 1
  simp
theorem shr_byte (n i : Nat) : (n : Int) / 2 ^ (8 * i) % 256 = ((UInt8.ofNat (n / 256 ^ i % 256)).toNat : Int) := by
  rw [u8_of _ (Nat.mod_lt _ (by decide))]
  have e : (2 : Int) ^ (8 * i) = ((256 ^ i : Nat) : Int) := by rw [Int.pow_mul]; simp
  rw [e]
  omega
theorem byteVals_at {l : List UInt8} {j : Nat} {c : UInt8} (h : l[j]? = some c) : (byteVals l)[j]? = some (.int .u8 (c.toNat : Int)) := by simp [byteVals, h]
set_option maxRecDepth 100000
section
set_option maxHeartbeats 1000000 in
theorem putBlk_any (n wide : Nat) (w : World) (hn : n < 18446744073709551616) (h1 : 1 ≤ wide) (h2 : wide ≤ 8) :
    Calls Try.prog 89 #[.int .u64 (n : Int), .int .i64 (wide : Int)] w fun e w' => e = .returned (.slice (some ⟨w.heap.size, 0, none⟩) wide wide) ∧ Blk w' w.heap.size 5 (byteVals (putB n wide)) ∧ Ext w w' := by
  go_enter Try.func89, Try.ntmps89
  go_wp2_with (at_make; refine wpl_make_ints (ki := .u8) (bytes := 1) _ _ wide rfl rfl Try.underlying33 (by kernel_rfl) rfl rfl rfl rfl (by omega) (by simp only [maxLen]; omega) ?_; intro w1 hb1 hx1)
  rw [byteVals_zero] at hb1
  obtain ⟨g, hg⟩ : ∃ g, g = w.heap.size := ⟨_, rfl⟩
  rw [← hg] at hb1 ⊢
  have HG := hid hg
  clear hg
  go_loopw [16] (fun i wr => ∃ k : Nat, k ≤ wide ∧ i = .int .i64 k ∧ Blk wr g 5 (byteVals (List.replicate (wide - k) 0 ++ putB n k)) ∧ Ext w wr) (fun i _ => wide - (intOf i).toNat)
  case atStart => exact ⟨0, Nat.zero_le _, rfl, by simpa [putB] using hb1, hx1⟩
  case round =>
    obtain ⟨k, hk, rfl, hb, hx⟩ := hrel
    by_cases hlt : k < wide
    · have hfz := hb.frozen (wide - 1 - k)
      have hcell : wr.cell? ⟨g, wide - 1 - k, none⟩ = some (.int .u8 0) := (hb.cell (wide - 1 - k)).trans (byteVals_at (c := 0) (by rw [List.getElem?_append_left (by simp; omega), List.getElem?_replicate]; exact if_pos (by omega)))
      have HV := hid (shr_byte n k)
      have HR := hid (put_round (n := n) hlt)
      go_wp2
      go_roundw
      case rel =>
        refine ⟨k + 1, by omega, by go_num, ?_, Below.setCell hx (by have := HG.out; show w.heap.size ≤ g; omega) _⟩
        rw [HV.out, ← HR.out]; exact hb.byteSet _ _
      case measure => simp [intOf]; omega
    · obtain rfl : k = wide := by omega
      go_wp2
      go_ret
      rw [Nat.sub_self] at hb
      have e := HG.out
      subst e
      exact ⟨rfl, by simpa using hb, hx⟩
theorem put_any (n wide : Nat) (w : World) (hn : n < 18446744073709551616) (h1 : 1 ≤ wide) (h2 : wide ≤ 8) :
    Calls Try.prog 89 #[.int .u64 (n : Int), .int .i64 (wide : Int)] w fun e w' => ∃ u, e = .returned u ∧ IsSlice repByte w' (fresh w w') u (putB n wide) ∧ Ext w w' :=
  (putBlk_any n wide w hn h1 h2).mono fun e w' ⟨he, hb, hx⟩ => ⟨_, he, hb.bytesN ⟨Nat.le_refl _, hb.lt⟩ (putB_len wide n) (Nat.le_refl _) (by simp [maxLen]; omega), hx⟩
theorem take_numB {xs : List UInt8} {k : Nat} {c : UInt8} (h : xs[k]? = some c) : numB (xs.take (k + 1)) = numB (xs.take k) * 256 + c.toNat := by rw [take_succ_of h, numB_snoc]
theorem or_low (a c : Nat) (h : c < 256) : (256 * a) ||| c = 256 * a + c := (Nat.two_pow_add_eq_or_of_lt (i := 8) h a).symm
def numP (b : List UInt8) : Nat := if 8 < b.length then 0 else numB b
set_option maxHeartbeats 1000000 in
theorem number_any (v : Value) (xs : List UInt8) (w : World) (h : IsSlice repByte w (all w) v xs) :
    Calls Try.prog 166 #[v] w fun e w' => e = .returned (.int .u64 ((numP xs : Nat) : Int)) ∧ w = w' := by
  obtain ⟨A, n, c, rfl, hnc, hcm, hrow⟩ := h
  have hn := hrow.1
  have hmax : n ≤ 9223372036854775807 := by unfold maxLen at hcm; omega
  by_cases hl : 8 < n
  · have hp : numP xs = 0 := by unfold numP; rw [if_pos (by omega)]
    rw [hp]
    clear hrow hn
    go_enter Try.func166, Try.ntmps166
    go_wp2
    go_ret
    exact ⟨rfl, rfl⟩
  · have hp : numP xs = numB xs := by unfold numP; rw [if_neg (by omega)]
    rw [hp]
    have HN := hid hn
    clear hn hp
    go_enter Try.func166, Try.ntmps166
    go_wp2
    go_loop [3, 11] (fun s i => ∃ k : Nat, k ≤ n ∧ i = .int .i64 k ∧ s = .int .u64 ((numB (xs.take k) : Nat) : Int)) (fun _ i => n - (intOf i).toNat)
    case atStart => exact ⟨0, Nat.zero_le _, rfl, by simp [numB]⟩
    case round =>
      obtain ⟨k, hk, rfl, rfl⟩ := hrel
      by_cases hlt : k < n
      · obtain ⟨b, off, x, rfl, hb, hx, hcx⟩ := hrow.byte hlt
        have HS := hid (take_numB hx)
        have hlt2 : numB (xs.take k) < 72057594037927936 := by
          have h1 := numB_lt (xs.take k)
          have h2 : (xs.take k).length ≤ 7 := by rw [List.length_take]; omega
          have h3 : 256 ^ (xs.take k).length ≤ 256 ^ 7 := Nat.pow_le_pow_right (by decide) h2
          have : (256 : Nat) ^ 7 = 72057594037927936 := by decide
          omega
        have hcl := c_lt x
        generalize numB (xs.take k) = N at *
        have HOR := hid (show bits .or .u64 ((N : Int) * 256) ((x.toNat : Nat) : Int) = ((N * 256 + x.toNat : Nat) : Int) by
          have e : (N : Int) * 256 = ((256 * N : Nat) : Int) := by omega
          rw [e, bits_or_u64_nat _ _ (by omega) (by omega), or_low _ _ hcl]; omega)
        clear hx
        go_wp2
        go_round
        case rel => exact ⟨k + 1, by omega, by go_num, by rw [HOR.out, HS.out]⟩
        case measure => simp [intOf]; omega
      · obtain rfl : k = n := by omega
        go_wp2
        go_ret
        rw [List.take_of_length_le (by rw [HN.out]; exact Nat.le_refl _)]
        exact ⟨rfl, rfl⟩
theorem cloneB_any (v : Value) (xs : List UInt8) (w : World) (h : IsSlice repByte w (all w) v xs) (hl : xs.length ≤ 16777216) :
    Calls Try.prog 150 #[v] w fun e w' => ∃ u, e = .returned u ∧ IsSlice repByte w' (fresh w w') u xs ∧ Ext w w' := by
  obtain ⟨A, n, c, rfl, hnc, hcm, hrow⟩ := h
  have hs : IsSlice repByte w (all w) (.slice A n c) xs := ⟨A, n, c, rfl, hnc, hcm, hrow⟩
  rcases A with _ | ad
  · have hn0 : n = 0 := by
      rcases Nat.eq_zero_or_pos n with h | h
      · exact h
      · obtain ⟨b, off, x, hA, _⟩ := hrow.byte h; cases hA
    subst hn0
    have hx : xs = [] := List.eq_nil_of_length_eq_zero hrow.1
    have hnil : ∀ W, (binOp .eql 33 (.slice none 0 c) (.slice none 0 0)).run Try.prog W = .ok (.bool true) W := fun W => Lib.run_eql_slice_nil W _ _ none 0 c 0 0 Try.underlying33
    subst hx
    clear hrow hs
    go_enter Try.func150, Try.ntmps150
    go_wp2
    go_ret
    exact ⟨_, rfl, isSlice_nil _ _ _, Below.refl _ _⟩
  · have hnil : ∀ W, (binOp .eql 33 (.slice (some ad) n c) (.slice none 0 0)).run Try.prog W = .ok (.bool false) W := fun W => Lib.run_eql_slice_nil W _ _ (some ad) n c 0 0 Try.underlying33
    go_enter Try.func150, Try.ntmps150
    go_wp2_with (at_builtin; refine wpl_app (r := repByte) (base := w.heap.size) (v := .slice (some ⟨w.heap.size, 0, none⟩) 0 0) (xs := []) _ _ rfl rfl Try.underlying33 info_byte (by decide) (own_lit (xs := []) (Nat.le_refl _) (by simp [maxLen]) (by simp) (by simp)) ((hs.off (ext_alloc w _) (by simp [Value.ownBlock])).flat flat_byte) rfl rfl (by simp; omega) (by simp [maxLen]; omega) (by simp) ?_; intro v' w1 hown1 hg1 _)
    go_ret
    exact ⟨_, rfl, by simpa using hown1.fresh, Below.grown (ext_alloc _ _) hg1 (by simp) (by simp [Value.ownBlock])⟩
theorem cutNo_any (v : Value) (xs : List UInt8) (n : Int) (w : World) (h : IsSlice repByte w (all w) v xs) (hn : n < 0 ∨ (xs.length : Int) < n) :
    Calls Try.prog 134 #[v, .int .i64 n] w fun e w' => e = .returned (.tuple #[.slice none 0 0, .slice none 0 0, .bool false]) ∧ w = w' := by
  obtain ⟨A, c, rfl⟩ := h.shape
  clear h
  generalize xs.length = L at *
  by_cases h0 : n < 0
  · clear hn
    go_enter Try.func134, Try.ntmps134
    go_wp2
    go_ret3
    exact ⟨rfl, rfl⟩
  · have h1 : (L : Int) < n := by omega
    clear hn
    go_enter Try.func134, Try.ntmps134
    go_wp2
    go_ret3
    exact ⟨rfl, rfl⟩
set_option maxHeartbeats 1000000 in
theorem cut_any (v : Value) (xs : List UInt8) (n : Nat) (w : World) (h : IsSlice repByte w (all w) v xs) (hl : xs.length ≤ 16777216) (hn : n ≤ xs.length) :
    Calls Try.prog 134 #[v, .int .i64 (n : Int)] w fun e w' => ∃ u1 u2, e = .returned (.tuple #[u1, u2, .bool true]) ∧ IsSlice repByte w' (fresh w w') u1 (xs.take n) ∧ IsSlice repByte w' (fresh w w') u2 (xs.drop n) ∧ Ext w w' := by
  obtain ⟨A, c, rfl⟩ := h.shape
  obtain ⟨A1, hr1, hs1⟩ := cut_to (P := Try.prog) Try.underlying33 info_byte h hn
  obtain ⟨A2, hr2, hs2⟩ := cut_from (P := Try.prog) Try.underlying33 info_byte h hn
  have H1 := hid (fun (w1 : World) (he : Ext w w1) => cloneB_any _ _ w1 (hs1.ext he) (by rw [List.length_take]; omega))
  have H2 := hid (fun (w1 : World) (he : Ext w w1) => cloneB_any _ _ w1 (hs2.ext he) (by rw [List.length_drop]; omega))
  have xd : Ext w w.drew := Below.drew (Below.refl _ _)
  have hL : xs.length ≤ 16777216 := hl
  clear h hs1 hs2 hl
  generalize xs.length = L at *
  go_enter Try.func134, Try.ntmps134
  go_wp2
  go_region_law (first
    | (go_simp; go_at_call 150; refine (H2.out _ hxa).mono ?_; rintro r w3 ⟨u2, rfl, hu2, hx3⟩; have hu1' := hu1.later hx3; have hu2' := hu2.since hxa; have hxb := Ext.trans hxa hx3; dsimp only)
    | (go_simp; go_at_call 150; refine (H1.out _ xd).mono ?_; rintro r w2 ⟨u1, rfl, hu1, hx2⟩; have hu1 := hu1.since xd; have hxa := Ext.trans xd hx2; dsimp only))
  all_goals
    go_wp2
    go_ret3
    exact ⟨u1, u2, rfl, hu1', hu2', hxb⟩
theorem div_pow (n i : Nat) : n / 256 ^ i / 256 = n / 256 ^ (i + 1) := by rw [Nat.div_div_eq_div_mul, Nat.pow_succ]
set_option maxHeartbeats 1000000 in
theorem putR_any (n wide : Nat) (w : World) (hn : n < 18446744073709551616) (h1 : 1 ≤ wide) (h2 : wide ≤ 8) :
    Calls Try.prog 94 #[.int .u64 (n : Int), .int .i64 (wide : Int)] w fun e w' => ∃ u, e = .returned u ∧ IsSlice repByte w' (fresh w w') u (putB n wide) ∧ Ext w w' := by
  go_enter Try.func94, Try.ntmps94
  go_wp2
  go_loopw [0, 5, 6] (fun nv bv i wr => ∃ k : Nat, k ≤ wide ∧ i = .int .i64 k ∧ nv = .int .u64 ((n / 256 ^ k : Nat) : Int) ∧ IsSlice repByte wr (fresh w wr) bv (putB n k) ∧ Ext w wr) (fun _ _ i _ => wide - (intOf i).toNat)
  case atStart => exact ⟨0, Nat.zero_le _, rfl, by simp, isSlice_nil _ _ _, Below.refl _ _⟩
  case round =>
    obtain ⟨k, hk, rfl, rfl, hb, hx⟩ := hrel
    by_cases hlt : k < wide
    · have hN : n / 256 ^ k < 18446744073709551616 := Nat.lt_of_le_of_lt (Nat.div_le_self _ _) hn
      have HD := hid (div_pow n k)
      have HF := hid (putB_first k n)
      have HL := hid (putB_len k n)
      obtain ⟨A, c, rfl⟩ := hb.shape
      generalize n / 256 ^ k = N at *
      generalize putB n k = pb at *
      have hV : (N : Int) % 256 = ((UInt8.ofNat (N % 256)).toNat : Int) := by rw [u8_of _ (Nat.mod_lt _ (by decide))]; omega
      have HV := hid hV
      clear hV
      go_wp2_with (at_builtin; refine wpl_app_lit1 (r := repByte) (base := w.heap.size) (x := UInt8.ofNat (N % 256)) _ _ rfl rfl Try.underlying33 info_byte (by decide) flat_byte hb.any rfl rfl rfl (by show [Value.int .u8 ((N : Int) % 256)] = [Value.int .u8 ((UInt8.ofNat (N % 256)).toNat : Int)]; rw [HV.out]) (by have := HL.out; simp; omega) (by have := HL.out; simp only [maxLen]; omega) hx.size ?_; intro v' w1 hown1 hx1)
      go_roundw
      case rel => exact ⟨k + 1, by omega, by go_num, by rw [← HD.out]; rfl, by rw [HF.out]; exact hown1.fresh, Ext.trans hx hx1⟩
      case measure => simp [intOf]; omega
    · obtain rfl : k = wide := by omega
      go_wp2
      go_ret
      exact ⟨_, rfl, hb, hx⟩
set_option maxHeartbeats 1000000 in
theorem numberR_any (v : Value) (xs : List UInt8) (w : World) (h : IsSlice repByte w (all w) v xs) :
    Calls Try.prog 141 #[v] w fun e w' => e = .returned (.int .u64 ((numP xs : Nat) : Int)) ∧ ∃ k, w' = w.drewN k := by
  obtain ⟨A, n, c, rfl, hnc, hcm, hrow⟩ := h
  have hn := hrow.1
  have hmax : n ≤ 9223372036854775807 := by unfold maxLen at hcm; omega
  by_cases hl : 8 < n
  · have hp : numP xs = 0 := by unfold numP; rw [if_pos (by omega)]
    rw [hp]
    clear hrow hn
    go_enter Try.func141, Try.ntmps141
    go_wp2
    go_ret
    exact ⟨rfl, 0, rfl⟩
  · have hp : numP xs = numB xs := by unfold numP; rw [if_neg (by omega)]
    rw [hp]
    have HN := hid hn
    clear hn hp
    go_enter Try.func141, Try.ntmps141
    go_wp2
    go_loopw [3, 4] (fun s i wr => ∃ k : Nat, k ≤ n ∧ i = .int .i64 k ∧ s = .int .u64 ((numB (xs.take k) : Nat) : Int) ∧ ∃ d, wr = w.drewN d) (fun _ i _ => n - (intOf i).toNat)
    case atStart => exact ⟨0, Nat.zero_le _, rfl, by simp [numB], 0, rfl⟩
    case round =>
      obtain ⟨k, hk, rfl, rfl, d, rfl⟩ := hrel
      by_cases hlt : k < n
      · obtain ⟨b, off, x, rfl, hb, hx, hcx⟩ := hrow.byte hlt
        have HS := hid (take_numB hx)
        have hlt2 : numB (xs.take k) < 72057594037927936 := by
          have h1 := numB_lt (xs.take k)
          have h2 : (xs.take k).length ≤ 7 := by rw [List.length_take]; omega
          have h3 : 256 ^ (xs.take k).length ≤ 256 ^ 7 := Nat.pow_le_pow_right (by decide) h2
          have : (256 : Nat) ^ 7 = 72057594037927936 := by decide
          omega
        have hcl := c_lt x
        generalize numB (xs.take k) = N at *
        clear hx
        go_wp2
        go_roundw
        case rel => exact ⟨k + 1, by omega, by go_num, by rw [HS.out]; go_num, _, rfl⟩
        case measure => simp [intOf]; omega
      · obtain rfl : k = n := by omega
        go_wp2
        go_ret
        rw [List.take_of_length_le (by rw [HN.out]; exact Nat.le_refl _)]
        exact ⟨rfl, _, rfl⟩
end
end Go.Proofs.Ytjchobncmogcpaa
