/- The walks of chance's Draws and its reference's. -/
import Derived.Test.YtheopadakjojkaaSame
import Derived.Test.YtheopadakjojkaaEach
namespace Go.Proofs.Ytheopadakjojkaa
open Go.RowKit

def drawsN (n : Nat) (s : Int) : List Int := (List.range n).map fun k => outI (stN (k + 1) s)
def drawsG (s n : Int) : List Int := if n < 0 ∨ 1000 < n then [] else drawsN n.toNat s
theorem drawsN_succ (n : Nat) (s : Int) : drawsN (n + 1) s = drawsN n s ++ [outI (stN (n + 1) s)] := by simp [drawsN, List.range_succ]
theorem drawsN_get {n : Nat} {s : Int} {j : Nat} {x : Int} (h : (drawsN n s)[j]? = some x) : j < n ∧ x = outI (stN (j + 1) s) := by
  unfold drawsN at h
  rw [List.getElem?_map] at h
  rcases Nat.lt_or_ge j n with hlt | hge
  · rw [List.getElem?_range hlt] at h
    exact ⟨hlt, by simpa using h.symm⟩
  · rw [List.getElem?_eq_none (by simpa using hge)] at h
    cases h
theorem wf_u64 {x : Int} (h : 0 ≤ x ∧ x < 18446744073709551616) : (Lit.int .u64 x).wf = true := by
  have : IntKind.u64.min ≤ x ∧ x ≤ IntKind.u64.max := ⟨h.1, by show x ≤ 18446744073709551615; omega⟩
  simpa [Lit.wf] using this
theorem Blk.u64s {w : World} {g : Nat} {t : TypeId} {cur : Array Value} {S : Nat → Prop} (h : Blk w g t cur) (hS : S g) {xs : List Int} (hm : xs.length ≤ maxLen) (hx : ∀ (j : Nat) (x : Int), xs[j]? = some x → cur[j]? = some (Value.int .u64 x) ∧ (Lit.int .u64 x).wf = true) :
    IsSlice (repInt .u64) w S (.slice (some ⟨g, 0, none⟩) xs.length xs.length) xs :=
  ⟨_, _, _, rfl, Nat.le_refl _, hm, rfl, fun _ => ⟨g, 0, rfl, hS, fun j hj => ⟨[_], ⟨rfl, (hx j xs[j] (List.getElem?_eq_getElem hj)).2⟩, fun i hi => by
    have hi0 : i = 0 := by simpa using hi
    subst hi0
    rw [h.cell]
    have h1 : xs[j]? = some xs[j] := List.getElem?_eq_getElem hj
    have := (hx j xs[j] h1).1
    have e : 0 + j * (repInt IntKind.u64).size + 0 = j := by show 0 + j * 1 + 0 = j; omega
    rw [e, this]
    rfl⟩⟩⟩

set_option maxRecDepth 100000
section
set_option maxHeartbeats 800000 in
theorem draws_any (s n : Int) (w : World) (h0 : 0 ≤ s) (h1 : s < 18446744073709551616) :
    Calls Try.prog 57 #[.int .u64 s, .int .i64 n] w fun e w' => ∃ v, e = .returned v ∧ IsSlice (repInt .u64) w' (fresh w w') v (drawsG s n) ∧ Ext w w' := by
  unfold drawsG
  by_cases hn : n < 0
  · rw [if_pos (.inl hn)]
    go_enter Try.func57, Try.ntmps57
    go_wp2
    go_ret
    exact ⟨_, rfl, isSlice_nil _ _ _, Below.refl _ _⟩
  by_cases hn2 : 1000 < n
  · rw [if_pos (.inr hn2)]
    go_enter Try.func57, Try.ntmps57
    go_wp2
    go_ret
    exact ⟨_, rfl, isSlice_nil _ _ _, Below.refl _ _⟩
  rw [if_neg (by omega)]
  obtain ⟨m, rfl⟩ : ∃ m : Nat, n = (m : Int) := ⟨n.toNat, by omega⟩
  have hm : m ≤ 1000 := by omega
  rw [Int.toNat_natCast]
  go_enter Try.func57, Try.ntmps57
  go_wp2_with fail
  refine (new_any _ s h0 h1).mono ?_
  rintro r w1 ⟨rfl, hd1, hx1⟩
  have hlt1 := hd1.1.lt
  go_wp2_with (at_make; refine wpl_make_blk (z := .int .u64 0) (size := 1) (bytes := 8) _ _ m rfl rfl Try.underlying35 (by kernel_rfl) rfl rfl rfl rfl (by omega) (by simp only [maxLen]; omega) ?_; intro w2 cur hbk hcs hx2)
  obtain ⟨gb, hgb⟩ : ∃ gb, gb = w1.heap.size := ⟨_, rfl⟩
  rw [← hgb] at hbk ⊢
  have hgne : gb ≠ w.heap.size := by omega
  have hgw : w.heap.size ≤ gb := by omega
  have hgg : w.heap.size ≤ w.heap.size := by omega
  have hd2 : DiceAt w2 w.heap.size s := ⟨hd1.1.ext hx2, hd1.2⟩
  have hx02 := Ext.trans hx1 hx2
  have hcs : cur.size = m := by simpa using hcs
  clear hgb
  go_loopw [20] (fun i wr => ∃ (k : Nat) (cur : Array Value), k ≤ m ∧ i = .int .i64 k ∧ Blk wr gb 22 cur ∧ cur.size = m ∧ (∀ j, j < k → cur[j]? = some (.int .u64 (outI (stN (j + 1) s)))) ∧ DiceAt wr w.heap.size (stN k s) ∧ Ext w wr) (fun i _ => m - (intOf i).toNat)
  case atStart => exact ⟨0, cur, Nat.zero_le _, rfl, hbk, hcs, fun j hj => absurd hj (by omega), hd2, hx02⟩
  case round =>
    obtain ⟨k, cu, hk, rfl, hbr, hcu, hin, hdr, hor⟩ := hrel
    have HIN := hid hin
    have HCU := hid hcu
    by_cases hlt : k < m
    · have hb2 := next_any wr w.heap.size _ hdr
      have HB2 := hid hb2
      obtain ⟨vk, hck⟩ : ∃ vk, cu[k]? = some vk := ⟨_, Array.getElem?_eq_getElem (show k < cu.size by omega)⟩
      have hst : outI (stepI (stN k s)) = outI (stN (k + 1) s) := rfl
      rw [hst] at HB2
      have HST : Hid (∀ w3, DiceAt w3 w.heap.size (stepI (stN k s)) → DiceAt w3 w.heap.size (stN (k + 1) s)) := hid fun _ h => h
      obtain ⟨x, hx⟩ : ∃ x, x = outI (stN (k + 1) s) := ⟨_, rfl⟩
      rw [← hx] at HB2
      have HX := hid hx
      clear hin hb2 hdr hcu hst hx
      go_wp2_with fail
      refine HB2.out.mono ?_
      rintro e w3 ⟨rfl, hd3, ho3⟩
      have hb3 := hbr.grown ho3 (fun e => hgne (by injection e))
      have hc3 := (hb3.cell k).trans hck
      have hf3 := hb3.frozen k
      have hd3 := HST.out _ hd3
      go_wp2
      go_roundw
      case rel =>
        refine ⟨k + 1, cu.setIfInBounds k (.int .u64 x), by omega, by go_num, hb3.set_ k _, by rw [Array.size_setIfInBounds, HCU.out], fun j hj => ?_, ⟨hd3.1.far (fun e => hgne e.symm) _, hd3.2⟩, Only.ext_new (g := gb) (Only.set_ (Only.refl _ _) _ _) (Only.ext_new ho3 hor hgg) hgw⟩
        rcases Nat.lt_or_ge j k with h1 | h1
        · rw [Array.getElem?_setIfInBounds_ne (by omega)]; exact HIN.out j h1
        · obtain rfl : j = k := by omega
          rw [Array.getElem?_setIfInBounds_self_of_lt (by rw [HCU.out]; exact hlt), HX.out]
      case measure => simp [intOf]; omega
    · obtain rfl : k = m := by omega
      go_wp2
      go_ret
      refine ⟨_, rfl, ?_, hor⟩
      have := Blk.u64s (S := fresh w wr) hbr ⟨hgw, hbr.lt⟩ (xs := drawsN k s) (by simp [drawsN, maxLen]; omega) (fun j x hx => by obtain ⟨h1, rfl⟩ := drawsN_get hx; exact ⟨HIN.out j h1, wf_u64 (out_range _)⟩)
      simpa [drawsN] using this

set_option maxHeartbeats 800000 in
theorem drawsR_any (s n : Int) (w : World) (h0 : 0 ≤ s) (h1 : s < 18446744073709551616) :
    Calls Try.prog 58 #[.int .u64 s, .int .i64 n] w fun e w' => ∃ v, e = .returned v ∧ IsSlice (repInt .u64) w' (fresh w w') v (drawsG s n) ∧ Ext w w' := by
  unfold drawsG
  by_cases hn : n < 0
  · rw [if_pos (.inl hn)]
    go_enter Try.func58, Try.ntmps58
    go_wp2
    go_ret
    exact ⟨_, rfl, isSlice_nil _ _ _, Below.refl _ _⟩
  by_cases hn2 : 1000 < n
  · rw [if_pos (.inr hn2)]
    go_enter Try.func58, Try.ntmps58
    go_wp2
    go_ret
    exact ⟨_, rfl, isSlice_nil _ _ _, Below.refl _ _⟩
  rw [if_neg (by omega)]
  obtain ⟨m, rfl⟩ : ∃ m : Nat, n = (m : Int) := ⟨n.toNat, by omega⟩
  have hm : m ≤ 1000 := by omega
  rw [Int.toNat_natCast]
  go_enter Try.func58, Try.ntmps58
  go_wp2_with fail
  have hd1 : RDiceAt (w.alloc (.cells #[.int .u64 s] 91)) w.heap.size s := ⟨Blk.new _ _ _, h0, h1⟩
  have hx1 : Ext w (w.alloc (.cells #[.int .u64 s] 91)) := ext_alloc _ _
  generalize w.alloc (.cells #[.int .u64 s] 91) = w1 at *
  have hlt1 := hd1.1.lt
  have hgg : w.heap.size ≤ w.heap.size := Nat.le_refl _
  go_loopw [6, 7] (fun u i wr => ∃ k : Nat, k ≤ m ∧ i = .int .i64 k ∧ Own (repInt .u64) 22 w1.heap.size wr u (drawsN k s) ∧ RDiceAt wr w.heap.size (stN k s) ∧ Ext w wr ∧ w1.heap.size ≤ wr.heap.size) (fun _ i _ => m - (intOf i).toNat)
  case atStart => exact ⟨0, Nat.zero_le _, rfl, own_nil _ _ _ _, hd1, hx1, Nat.le_refl _⟩
  case round =>
    obtain ⟨k, hk, rfl, hown, hdr, hor, hsz⟩ := hrel
    by_cases hlt : k < m
    · have hb2 := nextR_any wr _ _ hdr
      have HB2 := hid hb2
      have hst : outI (stepI (stN k s)) = outI (stN (k + 1) s) := rfl
      rw [hst] at HB2
      have HST : Hid (∀ w3, RDiceAt w3 w.heap.size (stepI (stN k s)) → RDiceAt w3 w.heap.size (stN (k + 1) s)) := hid fun _ h => h
      have HOR := hid (out_range (stN (k + 1) s))
      have hlq : (drawsN k s).length = k := by simp [drawsN]
      have HLQ := hid hlq
      have HDS := hid (drawsN_succ k s)
      clear hb2 hdr hst hlq
      generalize outI (stN (k + 1) s) = x at *
      go_wp2_with fail
      refine HB2.out.mono ?_
      rintro e w3 ⟨rfl, hd3, ho3⟩
      have hown3 := hown.only ho3 hlt1
      have hd3 := HST.out _ hd3
      have hx3 := Only.ext_new ho3 hor hgg
      have hs3 := ho3.size
      go_wp2_with (at_builtin; refine wpl_app1 (r := repInt .u64) (base := w1.heap.size) (x := x) _ _ rfl rfl Try.underlying35 info_u64 (by decide) hown3 rfl rfl rfl ⟨rfl, wf_u64 HOR.out⟩ (by rw [HLQ.out]; omega) (by rw [HLQ.out]; simp only [maxLen]; omega) (by omega) ?_; intro v4 w4 hown4 hg4)
      go_roundw
      case rel =>
        have hb4 : Below w1.heap.size w3 w4 := Below.grown (Below.refl _ _) hg4 (by omega) (fun k hk => (hown3.lt k hk).1)
        exact ⟨k + 1, by omega, by go_num, by rw [HDS.out]; exact hown4, ⟨(hb4.block _ hlt1).trans hd3.1, hd3.2⟩, Below.grown hx3 hg4 hx3.size (fun k hk => Nat.le_trans hx1.size (hown3.lt k hk).1), Nat.le_trans (by omega) hb4.size⟩
      case measure => simp [intOf]; omega
    · obtain rfl : k = m := by omega
      go_wp2
      go_ret
      exact ⟨_, rfl, hown.own.keep fun b hb => ⟨⟨Nat.le_trans hx1.size hb.1, hb.2⟩, fun _ => rfl⟩, hor⟩
end
end Go.Proofs.Ytheopadakjojkaa
