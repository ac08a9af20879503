/- The walks of span's Bars and its reference's; the law's live. -/
import Derived.IntWalk
import Derived.Test.YtmllkniloalgoaaRank
namespace Go.Proofs.Ytmllkniloalgoaa
open Go.RowKit

def barIx (wide : Int) (m : Nat) (x : Int) : Nat := (min (max x 0 / wide) ((m : Int) - 1)).toNat
def barStep (wide : Int) (m : Nat) (b : List Int) (x : Int) : List Int := b.set (barIx wide m x) ((b[barIx wide m x]?).getD 0 + 1)
def barsTo (wide : Int) (m : Nat) (l : List Int) : List Int := l.foldl (barStep wide m) (List.replicate m 0)
theorem barsTo_step {wide : Int} {m : Nat} {l : List Int} {k : Nat} {x : Int} (h : l[k]? = some x) : barsTo wide m (l.take (k + 1)) = barStep wide m (barsTo wide m (l.take k)) x := by
  unfold barsTo
  rw [take_succ_of h, List.foldl_append]
  rfl
theorem barIx_lt {wide : Int} {m : Nat} {x : Int} (hw : 1 ≤ wide) (hm : 1 ≤ m) : barIx wide m x < m := by
  unfold barIx
  have : 0 ≤ max x 0 / wide := Int.ediv_nonneg (by omega) (by omega)
  omega
theorem barsTo_len (wide : Int) (m : Nat) (l : List Int) : (barsTo wide m l).length = m := by
  unfold barsTo
  have : ∀ (l : List Int) (b : List Int), (l.foldl (barStep wide m) b).length = b.length := by
    intro l
    induction l with
    | nil => intro b; rfl
    | cons x l ih => intro b; rw [List.foldl_cons, ih]; simp [barStep]
  rw [this]; simp
theorem barsTo_in (wide : Int) (m : Nat) (l : List Int) : ∀ b ∈ barsTo wide m l, 0 ≤ b ∧ b ≤ l.length := by
  unfold barsTo
  have : ∀ (l : List Int) (b : List Int) (n : Nat), (∀ y ∈ b, 0 ≤ y ∧ y ≤ n) → ∀ y ∈ l.foldl (barStep wide m) b, 0 ≤ y ∧ y ≤ ((n + l.length : Nat) : Int) := by
    intro l
    induction l with
    | nil => intro b n h; simpa using h
    | cons x l ih =>
      intro b n h
      rw [List.foldl_cons]
      have := ih (barStep wide m b x) (n + 1) (by
        intro y hy
        unfold barStep at hy
        rcases List.mem_or_eq_of_mem_set hy with hy | hy
        · have := h y hy; omega
        · have h0 : 0 ≤ (b[barIx wide m x]?).getD 0 ∧ (b[barIx wide m x]?).getD 0 ≤ n := by
            cases hb : b[barIx wide m x]? with
            | none => simp
            | some z => simpa using h z (List.mem_of_getElem? hb)
          omega)
      intro y hy
      have := this y hy
      simp only [List.length_cons]
      omega
  intro b hb
  have := this l (List.replicate m 0) 0 (by intro y hy; have := List.eq_of_mem_replicate hy; omega) b hb
  omega

set_option maxRecDepth 100000
section
set_option maxHeartbeats 1600000 in
theorem bars_any (v : Value) (xs : List Int) (wide : Int) (m : Nat) (w : World) (h : IsSlice (repInt .i64) w (all w) v xs) (hl : xs.length ≤ 200) (hw : 1 ≤ wide) (hw2 : wide ≤ 9223372036854775807) (hm : 1 ≤ m) (hm2 : m ≤ 100) :
    Calls Try.prog 9 #[v, .int .i64 wide, .int .i64 m] w fun e w' => ∃ u, e = .returned u ∧ IsSlice (repInt .i64) w' (fresh w w') u (barsTo wide m xs) ∧ Ext w w' := by
  obtain ⟨A, n, c, rfl, hnc, hcm, hrow⟩ := h
  have hn := hrow.1
  have hmax : n ≤ 200 := by omega
  have HN := hid hn
  clear hn
  go_enter Try.func9, Try.ntmps9
  go_upto_region 4 with (at_make; refine wpl_make_ints (ki := .i64) (bytes := 8) _ _ m rfl rfl Try.underlying22 (by kernel_rfl) rfl rfl rfl rfl (by omega) (by simp only [maxLen]; omega) ?_; intro w2 hb2 hx2)
  go_wp2_with fail
  go_loopw [24] (fun i wr => ∃ (k : Nat) (B : List Int), k ≤ n ∧ i = .int .i64 k ∧ Hid (B = barsTo wide m (xs.take k)) ∧ Blk wr w.heap.size 3 (B.map (Value.int .i64)).toArray ∧ Ext w wr) (fun i _ => n - (intOf i).toNat)
  case atStart => exact ⟨0, _, Nat.zero_le _, rfl, hid rfl, hb2, hx2⟩
  case round =>
    obtain ⟨k, B, hk, rfl, HB, hblk, hext⟩ := hrel
    by_cases hlt : k < n
    · obtain ⟨b, off, x, rfl, hx, hc, hwf⟩ := hrow.intE hext hlt
      have hbd := bounds_i64 hwf
      have HST := hid (barsTo_step (wide := wide) (m := m) hx)
      have hBl : B.length = m := by rw [HB.out, barsTo_len]
      have hJ := barIx_lt (wide := wide) (m := m) (x := x) hw hm
      obtain ⟨y, hy⟩ : ∃ y, B[barIx wide m x]? = some y := ⟨_, List.getElem?_eq_getElem (by rw [hBl]; exact hJ)⟩
      have hyb := barsTo_in wide m (xs.take k) y (by rw [← HB.out]; exact List.mem_of_getElem? hy)
      have htl : (xs.take k).length ≤ n := by rw [List.length_take, HN.out]; omega
      have hyb2 : 0 ≤ y ∧ y ≤ 200 := by omega
      have hstep : barStep wide m B x = B.set (barIx wide m x) (y + 1) := by unfold barStep; rw [hy]; rfl
      have HSTEP := hid hstep
      have hcy := hblk.intAt hy
      have hfr := hblk.frozen (barIx wide m x)
      obtain ⟨J, hJe⟩ : ∃ J, J = barIx wide m x := ⟨_, rfl⟩
      rw [← hJe] at hcy hfr hJ HSTEP
      have hJv : J = (min (max x 0 / wide) ((m : Int) - 1)).toNat := hJe
      clear hx hwf hBl hy hyb hstep hJe htl
      have hq0 : 0 ≤ max x 0 / wide := Int.ediv_nonneg (by omega) (by omega)
      have hmin : min (max x 0 / wide) ((m : Int) - 1) = (J : Int) := by omega
      clear hJv hq0
      go_wp2
      go_roundw
      case rel => exact ⟨k + 1, _, by omega, by go_num, hid (by rw [HST.out, ← HB.out, HSTEP.out]), hblk.intSet J _, Only.ext_new (g := w.heap.size) (Only.set_ (Only.refl _ _) _ _) hext (Nat.le_refl _)⟩
      case measure => simp [intOf]; omega
    · obtain rfl : k = n := by omega
      have hB : B = barsTo wide m xs := by rw [HB.out, List.take_of_length_le (by rw [HN.out]; exact Nat.le_refl _)]
      have hBl : B.length = m := by rw [hB, barsTo_len]
      have HBB := hid hB
      have HBL := hid hBl
      clear hB hBl
      go_wp2
      go_ret
      refine ⟨_, rfl, ?_, hext⟩
      have := Blk.ints (S := fresh w wr) hblk ⟨Nat.le_refl _, hblk.lt⟩ (c := m) (by rw [HBL.out]; exact Nat.le_refl _) (by simp only [maxLen]; omega) (fun y hy => by
        have := barsTo_in wide m xs y (by rw [← HBB.out]; exact hy)
        exact WalkArith.wf_i64 (by have := HN.out; omega))
      rw [HBL.out] at this
      rw [← HBB.out]
      exact this
end
end Go.Proofs.Ytmllkniloalgoaa
