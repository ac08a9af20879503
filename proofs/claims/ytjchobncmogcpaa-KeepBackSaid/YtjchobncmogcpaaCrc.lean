/- The walks of the check sum: the table, sums, a sum behind bytes; and of their references. -/
import Derived.Test.YtjchobncmogcpaaOctet
namespace Go.Proofs.Ytjchobncmogcpaa
open Go.RowKit

/-- A table, its first k sums laid. -/
def tabCells (k : Nat) : Array Value := (.bool true :: ((List.range k).map (fun i => Value.int .u32 ((stepsN 8 i : Nat) : Int)) ++ List.replicate (256 - k) (.int .u32 0))).toArray
def TabAt (w : World) (g : Nat) : Prop := Blk w g 206 (tabCells 256)
theorem tab_set {k : Nat} (hk : k < 256) : (tabCells k).setIfInBounds (1 + k) (.int .u32 ((stepsN 8 k : Nat) : Int)) = tabCells (k + 1) := by
  unfold tabCells
  have e : 256 - k = (256 - (k + 1)) + 1 := by omega
  rw [e, List.replicate_succ, List.range_succ, List.map_append]
  simp only [List.setIfInBounds_toArray]
  rw [show 1 + k = k + 1 from by omega, List.set_cons_succ, List.set_append_right _ _ (by simp)]
  simp
theorem tab_zero {k j : Nat} (hk : k ≤ j) (hj : j < 256) : (tabCells k)[1 + j]? = some (.int .u32 0) := by
  unfold tabCells
  rw [List.getElem?_toArray, show 1 + j = j + 1 from by omega, List.getElem?_cons_succ, List.getElem?_append_right (by simp; omega), List.getElem?_replicate]
  exact if_pos (by simp; omega)
theorem tab_at {j : Nat} (hj : j < 256) : (tabCells 256)[1 + j]? = some (.int .u32 ((stepsN 8 j : Nat) : Int)) := by
  unfold tabCells
  rw [List.getElem?_toArray, show 1 + j = j + 1 from by omega, List.getElem?_cons_succ, List.getElem?_append_left (by simp; omega)]
  simp [List.getElem?_range hj]
theorem tab_made (k : Nat) : (tabCells k)[0]? = some (.bool true) := by unfold tabCells; simp

/-- A literal of two, one cell each. -/
theorem isSlice_lit2 {α : Type} {r : Rep α} {w : World} {e : TypeId} {v1 v2 : Value} {x y : α} (hr : r.size = 1) (h1 : r.holds w (all w) [v1] x) (h2 : r.holds w (all w) [v2] y) :
    IsSlice r (w.alloc (.cells #[v1, v2] e)) (all (w.alloc (.cells #[v1, v2] e))) (.slice (some ⟨w.heap.size, 0, none⟩) 2 2) [x, y] := by
  have h := own_lits (r := r) (w := w) (base := 0) (e := e) (us := [v1, v2]) (xs := [x, y]) hr ⟨r.keep h1 (fun b hb => ⟨⟨Nat.zero_le _, hb⟩, fun _ => rfl⟩), r.keep h2 (fun b hb => ⟨⟨Nat.zero_le _, hb⟩, fun _ => rfl⟩), trivial⟩ (by simp [maxLen]) (Nat.zero_le _) (n := 2) rfl rfl
  exact h.slice
set_option maxRecDepth 100000
section
theorem cstep_any (x : Nat) (w : World) (hx : x < 4294967296) :
    Calls Try.prog 129 #[.int .u32 (x : Int)] w fun e w' => e = .returned (.int .u32 ((stepN x : Nat) : Int)) ∧ w = w' := by
  have hand : bits .and .u32 (x : Int) 1 = ((x % 2 : Nat) : Int) := by
    have := u32_and_nat x 1 (by omega) (by omega)
    rw [Nat.and_one_is_mod] at this
    exact this
  rcases Nat.mod_two_eq_zero_or_one x with hp | hp
  · have hs : stepN x = x / 2 := by unfold stepN; rw [if_neg (by omega)]
    rw [hs]
    rw [hp] at hand
    clear hs hp
    go_enter Try.func129, Try.ntmps129
    go_wp2
    go_ret
    exact ⟨rfl, rfl⟩
  · have hs : stepN x = (x / 2) ^^^ poly32 := by unfold stepN; rw [if_pos hp]
    have hxor : bits .xor .u32 ((x : Int) / 2) 3988292384 = (((x / 2) ^^^ poly32 : Nat) : Int) := by
      have := u32_xor_nat (x / 2) 3988292384 (by omega) (by omega)
      rw [Int.natCast_ediv] at this
      exact this
    rw [hs]
    rw [hp] at hand
    generalize (x / 2) ^^^ poly32 = R at *
    clear hs hp
    go_enter Try.func129, Try.ntmps129
    go_wp2
    go_ret
    exact ⟨rfl, rfl⟩
theorem tabIs_any (w : World) (g : Nat) (h : TabAt w g) : Calls Try.prog 130 #[.pointer (some ⟨g, 0, none⟩)] w fun e w' => e = .returned (.bool true) ∧ w = w' := by
  have c0 : w.cell? ⟨g, 0, none⟩ = some (.bool true) := (Blk.cell h 0).trans (tab_made 256)
  clear h
  go_enter Try.func130, Try.ntmps130
  go_wp2
  go_ret
  exact ⟨rfl, rfl⟩
set_option maxHeartbeats 1000000 in
theorem tabNew_any (w : World) : Calls Try.prog 91 #[] w fun e w' => e = .returned (.pointer (some ⟨w.heap.size, 0, none⟩)) ∧ TabAt w' w.heap.size ∧ Ext w w' := by
  have hz : Try.zeroCells206.setIfInBounds 0 (.bool true) = tabCells 0 := by kernel_rfl
  have hb0 : Blk (w.alloc (.cells (tabCells 0) 206)) w.heap.size 206 (tabCells 0) := Blk.new w _ _
  have hx0 := ext_alloc w (.cells (tabCells 0) 206)
  go_enter Try.func91, Try.ntmps91
  go_wp2
  clear hz
  obtain ⟨g, hg⟩ : ∃ g, g = w.heap.size := ⟨_, rfl⟩
  rw [← hg] at hb0 ⊢
  have HG := hid hg
  clear hg
  go_loopw [6] (fun i wr => ∃ k : Nat, k ≤ 256 ∧ i = .int .i64 k ∧ Blk wr g 206 (tabCells k) ∧ Ext w wr) (fun i _ => 256 - (intOf i).toNat)
  case atStart => exact ⟨0, Nat.zero_le _, rfl, hb0, hx0⟩
  case round =>
    clear hb0 hx0
    obtain ⟨k, hk, rfl, hb, hx⟩ := hrel
    by_cases hlt : k < 256
    · have hfz := hb.frozen (1 + k)
      have hc := (hb.cell (1 + k)).trans (tab_zero (Nat.le_refl k) hlt)
      have HT := hid (tab_set hlt)
      have hset := hb.set_ (1 + k) (.int .u32 ((stepsN 8 k : Nat) : Int))
      rw [HT.out] at hset
      have hkB : decide ((k : Int) < 256) = true := by simp; omega
      go_wp2
      go_loop [3, 11] (fun x i => ∃ j : Nat, j ≤ 8 ∧ i = .int .i64 j ∧ x = .int .u32 ((stepsN j k : Nat) : Int)) (fun _ i => 8 - (intOf i).toNat)
      case atStart => exact ⟨0, Nat.zero_le _, rfl, rfl⟩
      case round =>
        obtain ⟨j, hj, rfl, rfl⟩ := hrel
        by_cases hjl : j < 8
        · have hst := cstep_any (stepsN j k) wr (stepsN_lt j (by omega))
          have HS := hid hst
          have HE := hid (show stepsN (j + 1) k = stepN (stepsN j k) from rfl)
          clear hst
          generalize stepsN j k = X at *
          go_wp2_with (go_at_call 129; refine HS.out.mono ?_; rintro e w2 ⟨rfl, rfl⟩)
          go_round
          case rel => exact ⟨j + 1, by omega, by go_num, by rw [HE.out]⟩
          case measure => simp [intOf]; omega
        · obtain rfl : j = 8 := by omega
          generalize stepsN 8 k = X at *
          go_wp2
          go_roundw
          case rel => exact ⟨k + 1, by omega, by go_num, hset, Below.setCell hx (by have := HG.out; show w.heap.size ≤ g; omega) _⟩
          case measure => simp [intOf]; omega
    · obtain rfl : k = 256 := by omega
      go_wp2
      go_ret
      have e := HG.out
      subst e
      exact ⟨rfl, hb, hx⟩
theorem feed_take {xs : List UInt8} {k : Nat} {c : UInt8} {x : Nat} (h : xs[k]? = some c) : feed x (xs.take (k + 1)) = feedB (feed x (xs.take k)) c := by rw [take_succ_of h, feed_append]; rfl
set_option maxHeartbeats 1000000 in
theorem tabOver_any (w : World) (g : Nat) (ht : TabAt w g) (x : Nat) (hx : x < 4294967296) (v : Value) (xs : List UInt8) (h : IsSlice repByte w (all w) v xs) :
    Calls Try.prog 163 #[.pointer (some ⟨g, 0, none⟩), .int .u32 (x : Int), v] w fun e w' => e = .returned (.int .u32 ((feed x xs : Nat) : Int)) ∧ w = w' := by
  obtain ⟨A, n, c, rfl, hnc, hcm, hrow⟩ := h
  have hn := hrow.1
  have hmax : n ≤ 9223372036854775807 := by unfold maxLen at hcm; omega
  have HN := hid hn
  clear hn
  go_enter Try.func163, Try.ntmps163
  go_wp2
  go_loop [1, 11] (fun s i => ∃ k : Nat, k ≤ n ∧ i = .int .i64 k ∧ s = .int .u32 ((feed x (xs.take k) : Nat) : Int)) (fun _ i => n - (intOf i).toNat)
  case atStart => exact ⟨0, Nat.zero_le _, rfl, by simp [feed]⟩
  case round =>
    obtain ⟨k, hk, rfl, rfl⟩ := hrel
    by_cases hlt : k < n
    · obtain ⟨b, off, y, rfl, hb, hy, hcy⟩ := hrow.byte hlt
      have HS := hid (feed_take (x := x) hy)
      have hX := feed_lt (xs.take k) hx
      have hcl := c_lt y
      have HT := hid (feedB_table (feed x (xs.take k)) y)
      have hlow := low_lt (feed x (xs.take k)) y
      generalize feed x (xs.take k) = X at *
      have hx8 : bits .xor .u8 ((X : Int) % 256) ((y.toNat : Nat) : Int) = ((X % 256 ^^^ y.toNat : Nat) : Int) := u8_xor_nat (X % 256) y.toNat (Nat.mod_lt _ (by decide)) hcl
      have hct := (Blk.cell ht (1 + (X % 256 ^^^ y.toNat))).trans (tab_at hlow)
      have hsl := stepsN_lt 8 (x := X % 256 ^^^ y.toNat) (by omega)
      have HX := hid (show stepsN 8 (X % 256 ^^^ y.toNat) ^^^ (X / 256) = feedB X y from HT.out.symm)
      generalize X % 256 ^^^ y.toNat = L at *
      generalize stepsN 8 L = SL at *
      have hxx : bits .xor .u32 ((SL : Nat) : Int) ((X : Int) / 256) = ((feedB X y : Nat) : Int) := by rw [← HX.out]; exact u32_xor_nat SL (X / 256) hsl (by omega)
      clear hy HT
      go_wp2
      go_round
      case rel => exact ⟨k + 1, by omega, by go_num, by rw [HS.out]⟩
      case measure => simp [intOf]; omega
    · obtain rfl : k = n := by omega
      go_wp2
      go_ret
      rw [List.take_of_length_le (by rw [HN.out]; exact Nat.le_refl _)]
      exact ⟨rfl, rfl⟩
/-- k at each end have changed places. -/
def RevTo (xs ys : List UInt8) (k : Nat) : Prop := ys.length = xs.length ∧ ∀ j, j < xs.length → ys[j]? = if j < k ∨ xs.length - 1 - j < k then xs[xs.length - 1 - j]? else xs[j]?
theorem revTo_zero (xs : List UInt8) : RevTo xs xs 0 := ⟨rfl, fun j _ => by rw [if_neg (by omega)]⟩
theorem revTo_end {xs ys : List UInt8} {k : Nat} (h : RevTo xs ys k) (hk : xs.length ≤ 2 * k + 1) : ys = xs.reverse := by
  apply List.ext_getElem?
  intro j
  by_cases hj : j < xs.length
  · rw [h.2 j hj, List.getElem?_reverse hj]
    by_cases hc : j < k ∨ xs.length - 1 - j < k
    · rw [if_pos hc]
    · rw [if_neg hc, show xs.length - 1 - j = j from by omega]
  · rw [List.getElem?_eq_none (by have := h.1; omega), List.getElem?_eq_none (by simp; omega)]
theorem revTo_step {xs ys : List UInt8} {k : Nat} {a b : UInt8} (h : RevTo xs ys k) (hk : 2 * k + 1 < xs.length) (ha : ys[k]? = some a) (hb : ys[xs.length - 1 - k]? = some b) : RevTo xs ((ys.set k b).set (xs.length - 1 - k) a) (k + 1) := by
  have e1 := h.2 k (by omega)
  have e2 := h.2 (xs.length - 1 - k) (by omega)
  rw [if_neg (by omega), ha] at e1
  rw [if_neg (by omega), hb] at e2
  refine ⟨by simp [h.1], fun j hj => ?_⟩
  by_cases h1 : j = xs.length - 1 - k
  · subst h1
    rw [List.getElem?_set_self (by simp; have := h.1; omega), if_pos (by omega), show xs.length - 1 - (xs.length - 1 - k) = k from by omega, e1]
  · rw [List.getElem?_set_ne (by omega)]
    by_cases h2 : j = k
    · subst h2
      rw [List.getElem?_set_self (by have := h.1; omega), if_pos (by omega), e2]
    · rw [List.getElem?_set_ne (by omega), h.2 j hj]
      by_cases hc : j < k ∨ xs.length - 1 - j < k
      · rw [if_pos hc, if_pos (by omega)]
      · rw [if_neg hc, if_neg (by omega)]
set_option maxHeartbeats 1000000 in
theorem reverse_any (w : World) (g c : Nat) (xs : List UInt8) (hb : Blk w g 5 (byteVals xs)) (hc : c ≤ maxLen) (hl : xs.length ≤ c) :
    Calls Try.prog 162 #[.slice (some ⟨g, 0, none⟩) xs.length c] w fun e w' => e = .returned (.tuple #[]) ∧ Blk w' g 5 (byteVals xs.reverse) ∧ Only g w w' := by
  have hmax : xs.length ≤ 9223372036854775807 := by unfold maxLen at hc; omega
  obtain ⟨n, hn⟩ : ∃ n, n = xs.length := ⟨_, rfl⟩
  rw [← hn] at hmax ⊢
  have HN := hid hn
  clear hn hl hc
  go_enter Try.func162, Try.ntmps162
  go_wp2
  go_loopw [2, 3] (fun i j wr => ∃ (k : Nat) (ys : List UInt8), 2 * k ≤ n + 1 ∧ i = .int .i64 k ∧ j = .int .i64 ((n : Int) - 1 - k) ∧ RevTo xs ys k ∧ Blk wr g 5 (byteVals ys) ∧ Only g w wr) (fun i _ _ => n - (intOf i).toNat)
  case atStart => exact ⟨0, xs, by omega, rfl, by simp, revTo_zero xs, hb, Only.refl _ _⟩
  case round =>
    obtain ⟨k, ys, hk, rfl, rfl, hrv, hbr, ho⟩ := hrel
    by_cases hlt : 2 * k + 1 < n
    · obtain ⟨j, hj⟩ : ∃ j : Nat, j = n - 1 - k := ⟨_, rfl⟩
      have hji : (n : Int) - 1 - k = (j : Int) := by omega
      have hlen : ys.length = n := by have := hrv.1; have := HN.out; omega
      obtain ⟨a, ha⟩ : ∃ a, ys[k]? = some a := ⟨_, List.getElem?_eq_getElem (by omega)⟩
      obtain ⟨b, hb'⟩ : ∃ b, ys[j]? = some b := ⟨_, List.getElem?_eq_getElem (by omega)⟩
      have HST := hid (revTo_step hrv (by have := HN.out; omega) ha (by rw [← HN.out, ← hj]; exact hb'))
      rw [← HN.out, ← hj] at HST
      have ck := (hbr.cell k).trans (byteVals_at ha)
      have cj := (hbr.cell j).trans (byteVals_at hb')
      have fk := hbr.frozen k
      have fj := hbr.frozen j
      have hjk : k ≠ j := by omega
      have hkj : k < j := by omega
      have hjn : j < n := by omega
      have hkn : k < n := by omega
      rw [hji]
      clear hj ha hb' hlen hlt
      have xd := hbr.drew
      go_wp2
      go_region_law (fail)
      all_goals
        go_wp2
        refine ⟨⟨k + 1, (ys.set k b).set j a, by omega, by go_num, ?_, HST.out, ((hbr.byteSet k b).byteSet j a).drew, ((ho.set_ k _).set_ j _).then (Below.drew (Below.refl _ _))⟩, ?_⟩
        · congr 1; omega
        · simp [intOf]; omega
    · have HE := hid (revTo_end hrv (by have := HN.out; omega))
      have hge : (n : Int) - 1 - k ≤ k := by omega
      go_wp2
      go_end0
      rw [← HE.out]
      exact ⟨rfl, hbr, ho⟩
theorem lay_any (s : Nat) (w : World) (hs : s < 4294967296) :
    Calls Try.prog 131 #[.int .u32 (s : Int)] w fun e w' => ∃ u, e = .returned u ∧ IsSlice repByte w' (fresh w w') u (layB s) ∧ Ext w w' := by
  have HP := hid (putBlk_any s 4 w (by omega) (by omega) (by omega))
  go_enter Try.func131, Try.ntmps131
  go_wp2_with (first
    | (go_at_call 89; refine HP.out.mono ?_; rintro e w2 ⟨rfl, hb2, hx2⟩; have hR := reverse_any w2 w.heap.size 4 (putB s 4) hb2 (by simp [maxLen]) (by simp [putB_len]); rw [putB_len] at hR; have HR := hid hR; clear hR)
    | (go_at_call 162; refine HR.out.mono ?_; rintro e w3 ⟨rfl, hb3, ho3⟩))
  go_ret
  exact ⟨_, rfl, hb3.bytesN ⟨Nat.le_refl _, hb3.lt⟩ (by simp [putB_len]) (Nat.le_refl _) (by simp [maxLen]), ho3.ext_new hx2 (Nat.le_refl _)⟩
set_option maxHeartbeats 1000000 in
theorem tabSum_any (w : World) (g : Nat) (ht : TabAt w g) (v : Value) (xss : List (List UInt8)) (h : IsSlice (repSlice repByte) w (all w) v xss) :
    Calls Try.prog 132 #[.pointer (some ⟨g, 0, none⟩), v] w fun e w' => e = .returned (.int .u32 ((crcOf xss.flatten : Nat) : Int)) ∧ w = w' := by
  obtain ⟨A, n, c, rfl, hnc, hcm, hrow⟩ := h
  have hn := hrow.1
  have hmax : n ≤ 9223372036854775807 := by unfold maxLen at hcm; omega
  have HN := hid hn
  have HI := hid (tabIs_any w g ht)
  clear hn
  go_enter Try.func132, Try.ntmps132
  go_wp2_with (go_at_call 130; refine HI.out.mono ?_; rintro e w2 ⟨rfl, rfl⟩)
  go_loop [5, 13] (fun s i => ∃ k : Nat, k ≤ n ∧ i = .int .i64 k ∧ s = .int .u32 ((feed ones (xss.take k).flatten : Nat) : Int)) (fun _ i => n - (intOf i).toNat)
  case atStart => exact ⟨0, Nat.zero_le _, rfl, by simp [feed, ones]⟩
  case round =>
    obtain ⟨k, hk, rfl, rfl⟩ := hrel
    by_cases hlt : k < n
    · obtain ⟨b, off, A1, m1, c1, x, rfl, hb, hx, hl1, hl2, hr1, hcx⟩ := hrow.slice hlt
      have hX := feed_lt (xss.take k).flatten (x := ones) (by decide)
      have HS := hid (show feed ones (xss.take (k + 1)).flatten = feed (feed ones (xss.take k).flatten) x by rw [flat_step hx, feed_append])
      generalize feed ones (xss.take k).flatten = X at *
      have HO := hid (tabOver_any w g ht X hX _ x ⟨A1, m1, c1, rfl, hl1, hl2, hr1⟩)
      clear hx hr1
      go_wp2_with (go_at_call 163; refine HO.out.mono ?_; rintro e w2 ⟨rfl, rfl⟩)
      go_round
      case rel => exact ⟨k + 1, by omega, by go_num, by rw [HS.out]⟩
      case measure => simp [intOf]; omega
    · obtain rfl : k = n := by omega
      have e : (xss.take k).flatten = xss.flatten := by rw [List.take_of_length_le (by rw [HN.out]; exact Nat.le_refl _)]
      rw [e]
      have hX := feed_lt xss.flatten (x := ones) (by decide)
      have HC := hid (show crcOf xss.flatten = feed ones xss.flatten ^^^ ones from rfl)
      generalize feed ones xss.flatten = X at *
      have hxx : bits .xor .u32 IntKind.u32.max (X : Int) = ((X ^^^ ones : Nat) : Int) := by rw [Nat.xor_comm]; exact u32_xor_nat 4294967295 X (by decide) hX
      clear e
      go_wp2
      go_ret
      rw [HC.out]
      exact ⟨rfl, rfl⟩
def crcPut (b : List UInt8) : List UInt8 := b ++ layB (crcOf b)
set_option maxHeartbeats 1000000 in
theorem tabPut_any (w : World) (g : Nat) (ht : TabAt w g) (v : Value) (xs : List UInt8) (h : IsSlice repByte w (all w) v xs) (hl : xs.length ≤ 1000000) :
    Calls Try.prog 92 #[.pointer (some ⟨g, 0, none⟩), v] w fun e w' => ∃ u, e = .returned u ∧ IsSlice repByte w' (fresh w w') u (crcPut xs) ∧ Ext w w' := by
  have HI := hid (tabIs_any w g ht)
  obtain ⟨A, c, rfl⟩ := h.shape
  obtain ⟨n, hn⟩ : ∃ n, n = xs.length := ⟨_, rfl⟩
  rw [← hn] at h hl ⊢
  have HN := hid hn
  have HSUM := hid (fun (w1 : World) (he : Ext w w1) (u : Value) (hu : IsSlice (repSlice repByte) w1 (all w1) u [xs]) => tabSum_any w1 g (ht.ext he) u [xs] hu)
  have hcl := crcOf_lt xs
  have HLY := hid (fun w1 => lay_any (crcOf xs) w1 hcl)
  have HC := hid (show crcPut xs = [xs, layB (crcOf xs)].flatten by simp [crcPut])
  have HF := hid (show crcOf ([xs] : List (List UInt8)).flatten = crcOf xs by simp)
  rw [HF.out] at HSUM
  have HLL := hid (layB_len (crcOf xs))
  generalize crcOf xs = S at *
  generalize layB S = LS at *
  have HB := hid (show ([xs, LS] : List (List UInt8)).flatten.length ≤ 16777216 by have := HN.out; have := HLL.out; simp; omega)
  clear hn
  go_enter Try.func92, Try.ntmps92
  go_wp2_with (first
    | (go_at_call 130; refine HI.out.mono ?_; rintro e w2 ⟨rfl, rfl⟩)
    | (go_at_call 132; refine (HSUM.out _ (ext_alloc w _) _ (isSlice_lit1 (w := w) (cs := #[.slice A n c]) (isSlice_single h))).mono ?_; rintro e w2 ⟨rfl, rfl⟩)
    | (go_at_call 131; refine (HLY.out _).mono ?_; rintro e w3 ⟨u3, rfl, hu3, hx3⟩; have hx03 := Ext.trans (ext_alloc w _) hx3; have hh3 := h.ext hx03; obtain ⟨A3, c3, rfl⟩ := hu3.shape)
    | (go_at_call 75; refine (join_any _ [xs, LS] _ (isSlice_lit2 (r := repSlice repByte) rfl (isSlice_single hh3) (isSlice_single hu3.any)) HB.out).mono ?_; rintro e w4 ⟨u4, rfl, hu4, hx4⟩))
  go_ret
  exact ⟨_, rfl, by rw [HC.out]; exact hu4.since (Ext.trans hx03 (ext_alloc w3 _)), Ext.trans hx03 (Ext.of_alloc hx4)⟩
/-- The bytes ahead of their sum. -/
def crcCheck (b : List UInt8) : Option (List UInt8) := if b.length < 4 then none else if b.drop (b.length - 4) = layB (crcOf (b.take (b.length - 4))) then some (b.take (b.length - 4)) else none
set_option maxHeartbeats 1000000 in
theorem tabCheckNo_any (w : World) (g : Nat) (ht : TabAt w g) (v : Value) (xs : List UInt8) (h : IsSlice repByte w (all w) v xs) (hl : xs.length ≤ 1000000) (hr : crcCheck xs = none) :
    Calls Try.prog 96 #[.pointer (some ⟨g, 0, none⟩), v] w fun e w' => e = .returned (.tuple #[.slice none 0 0, .bool false]) ∧ Ext w w' := by
  have HI := hid (tabIs_any w g ht)
  obtain ⟨A, c, rfl⟩ := h.shape
  by_cases h4 : xs.length < 4
  · have HC := hid (cutNo_any _ xs ((xs.length : Int) - 4) w h (.inl (by omega)))
    clear h hr
    generalize xs.length = n at *
    go_enter Try.func96, Try.ntmps96
    go_wp2_with (first
      | (go_at_call 130; refine HI.out.mono ?_; rintro e w2 ⟨rfl, rfl⟩)
      | (go_at_call 134; refine HC.out.mono ?_; rintro e w2 ⟨rfl, rfl⟩))
    go_ret2
    exact ⟨rfl, Below.refl _ _⟩
  · unfold crcCheck at hr
    rw [if_neg h4] at hr
    obtain ⟨k, hk⟩ : ∃ k, k = xs.length - 4 := ⟨_, rfl⟩
    rw [← hk] at hr
    have hki : (xs.length : Int) - 4 = (k : Int) := by omega
    have HC := hid (cut_any _ xs k w h (by omega) (by omega))
    have hcl := crcOf_lt (xs.take k)
    have HSUM := hid (fun (w1 : World) (he : Ext w w1) (u : Value) (hu : IsSlice (repSlice repByte) w1 (all w1) u [xs.take k]) => tabSum_any w1 g (ht.ext he) u [xs.take k] hu)
    have HF := hid (show crcOf ([xs.take k] : List (List UInt8)).flatten = crcOf (xs.take k) by simp)
    rw [HF.out] at HSUM
    have HLY := hid (fun w1 => lay_any (crcOf (xs.take k)) w1 hcl)
    generalize crcOf (xs.take k) = S at *
    generalize layB S = LS at *
    generalize hB : xs.take k = B at *
    generalize hT : xs.drop k = T at *
    have hq : T ≠ LS := fun hq => by rw [if_pos hq] at hr; cases hr
    have HQ := hid (decide_eq_false hq)
    clear hB hT h hk hr hq HF
    generalize xs.length = n at *
    go_enter Try.func96, Try.ntmps96
    go_wp2_with (first
      | (go_at_call 130; refine HI.out.mono ?_; rintro e w2 ⟨rfl, rfl⟩)
      | (go_at_call 134; refine HC.out.mono ?_; rintro e w2 ⟨u1, u2, rfl, hu1, hu2, hx2⟩; obtain ⟨A1, c1, rfl⟩ := hu1.shape; obtain ⟨A2, c2, rfl⟩ := hu2.shape)
      | (go_at_call 132; refine (HSUM.out _ (Ext.trans hx2 (ext_alloc w2 _)) _ (isSlice_lit1 (w := w2) (cs := #[.slice A1 B.length c1]) (isSlice_single hu1.any))).mono ?_; rintro e w3 ⟨rfl, rfl⟩)
      | (go_at_call 131; refine (HLY.out _).mono ?_; rintro e w4 ⟨u4, rfl, hu4, hx4⟩)
      | (go_at_call 135; refine (same_any _ _ _ _ _ (hu2.any.ext (Ext.of_alloc hx4)) hu4.any).mono ?_; rw [HQ.out]; rintro e w5 ⟨rfl, rfl⟩))
    go_ret2
    exact ⟨rfl, Ext.trans hx2 (Ext.of_alloc hx4)⟩
set_option maxHeartbeats 1000000 in
theorem tabCheck_any (w : World) (g : Nat) (ht : TabAt w g) (v : Value) (xs body : List UInt8) (h : IsSlice repByte w (all w) v xs) (hl : xs.length ≤ 1000000) (hr : crcCheck xs = some body) :
    Calls Try.prog 96 #[.pointer (some ⟨g, 0, none⟩), v] w fun e w' => ∃ u, e = .returned (.tuple #[u, .bool true]) ∧ IsSlice repByte w' (fresh w w') u body ∧ Ext w w' := by
  have HI := hid (tabIs_any w g ht)
  obtain ⟨A, c, rfl⟩ := h.shape
  by_cases h4 : xs.length < 4
  · unfold crcCheck at hr
    rw [if_pos h4] at hr
    cases hr
  · unfold crcCheck at hr
    rw [if_neg h4] at hr
    obtain ⟨k, hk⟩ : ∃ k, k = xs.length - 4 := ⟨_, rfl⟩
    rw [← hk] at hr
    have hki : (xs.length : Int) - 4 = (k : Int) := by omega
    have HC := hid (cut_any _ xs k w h (by omega) (by omega))
    have hcl := crcOf_lt (xs.take k)
    have HSUM := hid (fun (w1 : World) (he : Ext w w1) (u : Value) (hu : IsSlice (repSlice repByte) w1 (all w1) u [xs.take k]) => tabSum_any w1 g (ht.ext he) u [xs.take k] hu)
    have HF := hid (show crcOf ([xs.take k] : List (List UInt8)).flatten = crcOf (xs.take k) by simp)
    rw [HF.out] at HSUM
    have HLY := hid (fun w1 => lay_any (crcOf (xs.take k)) w1 hcl)
    generalize crcOf (xs.take k) = S at *
    generalize layB S = LS at *
    generalize hB : xs.take k = B at *
    generalize hT : xs.drop k = T at *
    by_cases hq : T = LS
    · rw [if_pos hq] at hr
      injection hr with hr
      subst hr
      have HQ := hid (decide_eq_true hq)
      clear hB hT h hk hq HF
      generalize xs.length = n at *
      go_enter Try.func96, Try.ntmps96
      go_wp2_with (first
        | (go_at_call 130; refine HI.out.mono ?_; rintro e w2 ⟨rfl, rfl⟩)
        | (go_at_call 134; refine HC.out.mono ?_; rintro e w2 ⟨u1, u2, rfl, hu1, hu2, hx2⟩; obtain ⟨A1, c1, rfl⟩ := hu1.shape; obtain ⟨A2, c2, rfl⟩ := hu2.shape)
        | (go_at_call 132; refine (HSUM.out _ (Ext.trans hx2 (ext_alloc w2 _)) _ (isSlice_lit1 (w := w2) (cs := #[.slice A1 B.length c1]) (isSlice_single hu1.any))).mono ?_; rintro e w3 ⟨rfl, rfl⟩)
        | (go_at_call 131; refine (HLY.out _).mono ?_; rintro e w4 ⟨u4, rfl, hu4, hx4⟩)
        | (go_at_call 135; refine (same_any _ _ _ _ _ (hu2.any.ext (Ext.of_alloc hx4)) hu4.any).mono ?_; rw [HQ.out]; rintro e w5 ⟨rfl, rfl⟩))
      go_ret2
      exact ⟨_, rfl, hu1.later (Ext.of_alloc hx4), Ext.trans hx2 (Ext.of_alloc hx4)⟩
    · rw [if_neg hq] at hr
      cases hr
end
end Go.Proofs.Ytjchobncmogcpaa
