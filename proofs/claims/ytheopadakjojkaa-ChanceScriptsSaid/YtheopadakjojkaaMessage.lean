/- The walk of chance's message. -/
import Derived.Test.YtheopadakjojkaaWeights
namespace Go.Proofs.Ytheopadakjojkaa
open Go.RowKit

section
variable {α : Type} {r : Rep α} {P : Program} {w : World} {ops : Array Oper} {rest : List Oper} {o : Oper} {a : Act} {Q : Exit → Act → World → Prop}
/-- 'make([]T, n)', its block known whole. -/
theorem wpl_make_blk {t e : TypeId} {z : Value} {size bytes : Nat} {kl kc : IntKind} {L C : Int} (l c : Operand) (n : Nat) (hgd : o.guard = none) (hop : o.op = Op.makeSlice t l c) (ht : P.underlying t = some (.slice e))
    (hi : (P.info? e).map (fun i => (i.zero, i.size, i.bytes)) = some (some z, size, bytes)) (hl : a.eval l = .int kl L) (hc : a.eval c = .int kc C) (hL : L = (n : Int)) (hC : C = (n : Int)) (hb : bytes * n ≤ 281474976710656) (hm : n ≤ maxLen)
    (h : ∀ w' cur, Blk w' w.heap.size e cur → cur.size = n * size → Ext w w' → wpList P ops Q rest (a.put o.dst (.slice (some ⟨w.heap.size, 0, none⟩) n n)) w') : wpList P ops Q (o :: rest) a w := by
  obtain ⟨i0, hi, hz0, hz1, hz2⟩ := info_parts hi
  refine wpList_make_full w hgd l c t hop w.heap.size e i0 z size ht hi hz0 hz1 kl kc L C n hl hc hL hC (by rw [hz2]; exact hb) hm (Nat.le_refl _) fun w' h1 h2 => ?_
  obtain ⟨_, h1⟩ := h1
  rcases h1 with ⟨h1, _⟩ | ⟨g, cap, cur, hv, hg, hh, hnc, hmx, hcs, _⟩
  · cases h1
  · injection hv with e1 e2 e3
    injection e1 with e1
    injection e1 with e1 _ _
    subst e1
    subst e3
    exact h w' cur hh hcs ⟨h2.os, h2.tape, h2.output, h2.size, fun k hk => h2.block k hk (by simp)⟩
end

theorem Only.farSet {g gb : Nat} {a w : World} (h : Only g a w) (hb : a.heap.size ≤ gb) (k : Nat) (u : Value) : Only g a (w.setCell ⟨gb, k, none⟩ u) :=
  ⟨h.os, h.tape, h.output, Nat.le_trans h.size (by simp [World.setCell]), fun i hi hne => (Below.heap_setCell w _ u i (by show i ≠ gb; omega)).trans (h.block i hi hne)⟩

/-- A block of bytes is a list of bytes. -/
theorem Blk.bytes {w : World} {g : Nat} {t : TypeId} {cur : Array Value} {S : Nat → Prop} (h : Blk w g t cur) (hS : S g) {xs : List UInt8} (hm : xs.length ≤ maxLen) (hx : ∀ (j : Nat) (x : UInt8), xs[j]? = some x → cur[j]? = some (Value.int .u8 (x.toNat : Int))) :
    IsSlice repByte w S (.slice (some ⟨g, 0, none⟩) xs.length xs.length) xs :=
  ⟨_, _, _, rfl, Nat.le_refl _, hm, rfl, fun _ => ⟨g, 0, rfl, hS, fun j hj => ⟨[_], rfl, fun i hi => by
    have hi0 : i = 0 := by simpa using hi
    subst hi0
    rw [h.cell]
    have h1 : xs[j]? = some xs[j] := List.getElem?_eq_getElem hj
    have := hx j xs[j] h1
    have e : 0 + j * repByte.size + 0 = j := by show 0 + j * 1 + 0 = j; omega
    rw [e, this]
    rfl⟩⟩⟩

def stN : Nat → Int → Int
  | 0, s => s
  | n + 1, s => stepI (stN n s)
def byteAt (s : Int) (j : Nat) : UInt8 := UInt8.ofNat (belowI (stN j s) 256).toNat
def bytesN (n : Nat) (s : Int) : List UInt8 := (List.range n).map (byteAt s)
theorem bytesN_get {n : Nat} {s : Int} {j : Nat} {x : UInt8} (h : (bytesN n s)[j]? = some x) : j < n ∧ x = byteAt s j := by
  unfold bytesN at h
  rw [List.getElem?_map] at h
  rcases Nat.lt_or_ge j n with hlt | hge
  · rw [List.getElem?_range hlt] at h
    exact ⟨hlt, by simpa using h.symm⟩
  · rw [List.getElem?_eq_none (by simpa using hge)] at h
    cases h
theorem byteAt_val (s : Int) (j : Nat) : ((byteAt s j).toNat : Int) = belowI (stN j s) 256 := by
  have h := below_range (stN j s) (n := 256) (by omega)
  unfold byteAt
  rw [UInt8.toNat_ofNat']
  omega

set_option maxRecDepth 100000
section
set_option maxHeartbeats 800000 in
theorem message_any (w : World) (g : Nat) (s : Int) (h : DiceAt w g s) :
    Calls Try.prog 110 #[.pointer (some ⟨g, 0, none⟩)] w fun e w' => ∃ u, e = .returned u ∧ IsSlice repByte w' (fresh w w') u (bytesN ((belowI s 4).toNat + 1) (stepI s)) ∧ DiceAt w' g (stN ((belowI s 4).toNat + 1) (stepI s)) ∧ Only g w w' := by
  have hb := below_any w g s 4 h (by omega) (by omega)
  have hr := below_range s (n := 4) (by omega)
  have hlt := h.1.lt
  have HB := hid hb
  obtain ⟨n, hn⟩ : ∃ n : Nat, n = (belowI s 4).toNat + 1 := ⟨_, rfl⟩
  have hB : belowI s 4 = (n : Int) - 1 := by omega
  rw [← hn]
  have hn1 : 1 ≤ n := by omega
  have hn4 : n ≤ 4 := by omega
  have HBB := hid hB
  clear hb hr hn hB h
  go_enter Try.func110, Try.ntmps110
  go_wp2_with fail
  refine HB.out.mono ?_
  rw [HBB.out]
  rintro e w1 ⟨rfl, hd1, ho1⟩
  have hlt1 : g < w1.heap.size := hd1.1.lt
  have hs1 := ho1.size
  go_wp2_with (at_make; refine wpl_make_blk (z := .int .u8 0) (size := 1) (bytes := 1) _ _ n rfl rfl Try.underlying49 (by kernel_rfl) rfl rfl (by go_num) (by go_num) (by omega) (by simp only [maxLen]; omega) ?_; intro w2 cur hbk hcs hx2)
  obtain ⟨gb, hgb⟩ : ∃ gb, gb = w1.heap.size := ⟨_, rfl⟩
  rw [← hgb] at hbk ⊢
  have hgne : gb ≠ g := by omega
  have hgw : w.heap.size ≤ gb := by omega
  have HGB := hid hgb
  have hd2 : DiceAt w2 g (stepI s) := ⟨hd1.1.ext hx2, hd1.2⟩
  have ho2 := ho1.then hx2
  have hcs : cur.size = n := by simpa using hcs
  clear hgb
  go_loopw [11] (fun i wr => ∃ (k : Nat) (cur : Array Value), k ≤ n ∧ i = .int .i64 k ∧ Blk wr gb 5 cur ∧ cur.size = n ∧ (∀ j, j < k → cur[j]? = some (.int .u8 ((byteAt (stepI s) j).toNat : Int))) ∧ DiceAt wr g (stN k (stepI s)) ∧ Only g w wr) (fun i _ => n - (intOf i).toNat)
  case atStart => exact ⟨0, cur, Nat.zero_le _, rfl, hbk, hcs, fun j hj => absurd hj (by omega), hd2, ho2⟩
  case round =>
    obtain ⟨k, cu, hk, rfl, hbr, hcu, hin, hdr, hor⟩ := hrel
    have HIN := hid hin
    have HCU := hid hcu
    by_cases hlt : k < n
    · have hb2 := below_any wr g _ 256 hdr (by omega) (by omega)
      have hr2 := below_range (stN k (stepI s)) (n := 256) (by omega)
      have hbv := byteAt_val (stepI s) k
      have HB2 := hid hb2
      have HBV := hid hbv
      obtain ⟨vk, hck⟩ : ∃ vk, cu[k]? = some vk := ⟨_, Array.getElem?_eq_getElem (show k < cu.size by omega)⟩
      clear hin hb2 hdr hbv hcu
      generalize belowI (stN k (stepI s)) 256 = x at *
      go_wp2_with fail
      refine HB2.out.mono ?_
      rintro e w3 ⟨rfl, hd3, ho3⟩
      have hb3 := hbr.grown ho3 (fun e => hgne (by injection e))
      have hc3 := (hb3.cell k).trans hck
      have hf3 := hb3.frozen k
      go_wp2
      go_roundw
      case rel =>
        refine ⟨k + 1, cu.setIfInBounds k (.int .u8 x), by omega, by go_num, hb3.set_ k _, by rw [Array.size_setIfInBounds, HCU.out], fun j hj => ?_, ⟨hd3.1.far (fun e => hgne e.symm) _, hd3.2⟩, (hor.trans ho3).farSet hgw _ _⟩
        rcases Nat.lt_or_ge j k with h1 | h1
        · rw [Array.getElem?_setIfInBounds_ne (by omega)]; exact HIN.out j h1
        · obtain rfl : j = k := by omega
          rw [Array.getElem?_setIfInBounds_self_of_lt (by rw [HCU.out]; exact hlt), HBV.out]
      case measure => simp [intOf]; omega
    · obtain rfl : k = n := by omega
      go_wp2
      go_ret
      refine ⟨_, rfl, ?_, hdr, hor⟩
      have := Blk.bytes (S := fresh w wr) hbr ⟨hgw, hbr.lt⟩ (xs := bytesN k (stepI s)) (by simp [bytesN, maxLen]; omega) (fun j x hx => by obtain ⟨h1, rfl⟩ := bytesN_get hx; exact HIN.out j h1)
      simpa [bytesN] using this
end
end Go.Proofs.Ytheopadakjojkaa
