/- The walk of keep.Put. -/
import Derived.Test.YtjchobncmogcpaaKeepW
namespace Go.Proofs.Ytjchobncmogcpaa
open Go.RowKit

/-- A run: its settings, draws and choices. -/
structure KRun where
  eng : Int
  w : Int
  m : Int
  l : Int
  b : Int
  room : Int
  beg : Int
  draws : List Int
  chs : List Ch
def kVals (r : KRun) (u1 u2 : Value) : Array Value := #[.int .i64 r.eng, .int .i64 r.w, .int .i64 r.m, .int .i64 r.l, .int .i64 r.b, .int .i64 r.room, .int .u64 r.beg, u1, u2]
def chOk (c : Ch) : Bool := decide (c.data.length ≤ 255) && decide (c.edits.length ≤ 255)
def rightB (r : KRun) : Bool := decide (r.draws.length ≤ 200) && decide (r.chs.length ≤ 500) && r.chs.all chOk
def headB (r : KRun) : List UInt8 := nums8 [r.eng, r.w, r.m, r.l, r.b, r.room, r.beg, (r.draws.length : Int)]
def chsB (l : List Ch) : List UInt8 := l.flatMap chB
def magicB : List UInt8 := [0x4b, 0x52]
def bodyB (r : KRun) : List UInt8 := magicB ++ headB r ++ nums8 r.draws ++ nums8 [(r.chs.length : Int)] ++ chsB r.chs
theorem wide8_wrap (x : Int) : wide8 (wrap64 x) = wide8 x := by
  unfold wide8
  congr 2
  unfold wrap64
  omega
theorem all_take_succ {α : Type} {p : α → Bool} {l : List α} {k : Nat} {x : α} (h : l[k]? = some x) : (l.take (k + 1)).all p = ((l.take k).all p && p x) := by rw [take_succ_of h]; simp
theorem all_take_no {α : Type} {p : α → Bool} {l : List α} {k : Nat} {x : α} (h : l[k]? = some x) (hp : p x = false) : l.all p = false := by
  cases hl : l.all p with
  | false => rfl
  | true => rw [List.all_eq_true.1 hl x (List.mem_of_getElem? h)] at hp; cases hp
set_option maxRecDepth 100000
section
set_option maxHeartbeats 1000000 in
theorem right_any (w : World) (r : KRun) (u1 u2 : Value) (h1 : IsSlice (repInt .u64) w (all w) u1 r.draws) (h2 : IsSlice repCh w (all w) u2 r.chs) :
    Calls Try.prog 86 #[.agg (kVals r u1 u2)] w fun e w' => e = .returned (.bool (rightB r)) ∧ Ext w w' := by
  obtain ⟨A1, c1, rfl⟩ := h1.shape
  obtain ⟨A2, n, c2, rfl, hnc, hcm, hrow⟩ := h2
  have hn := hrow.1
  unfold kVals
  generalize hdr : r.draws.length = dr at *
  by_cases hbad : (200 < dr ∨ 500 < n)
  · have hR : rightB r = false := by unfold rightB; rw [hdr, hn]; rcases hbad with h | h <;> simp <;> omega
    rw [hR]
    clear hR hrow h1 hn hdr
    by_cases hd : 200 < dr
    · have t1 : decide ((200 : Int) < (dr : Int)) = true := by simp; omega
      go_enter Try.func86, Try.ntmps86
      go_wp2
      go_ret
      exact ⟨rfl, ext_alloc _ _⟩
    · have t1 : decide ((200 : Int) < (dr : Int)) = false := by simp; omega
      have t2 : decide ((500 : Int) < (n : Int)) = true := by simp; omega
      go_enter Try.func86, Try.ntmps86
      go_wp2
      go_ret
      exact ⟨rfl, ext_alloc _ _⟩
  · have t1 : decide ((200 : Int) < (dr : Int)) = false := by simp; omega
    have t2 : decide ((500 : Int) < (n : Int)) = false := by simp; omega
    have hR : rightB r = r.chs.all chOk := by unfold rightB; rw [hdr, hn]; have e1 : dr ≤ 200 := by omega
                                              have e2 : n ≤ 500 := by omega
                                              simp [e1, e2]
    rw [hR]
    have HN := hid hn
    have hn5 : n ≤ 500 := by omega
    clear hR hn hdr h1 hbad
    go_enter Try.func86, Try.ntmps86
    go_wp2
    go_loopw [18] (fun i wr => ∃ k : Nat, k ≤ n ∧ i = .int .i64 k ∧ (r.chs.take k).all chOk = true ∧ Ext w wr) (fun i _ => n - (intOf i).toNat)
    case atStart => exact ⟨0, Nat.zero_le _, rfl, by simp, ext_alloc _ _⟩
    case round =>
      obtain ⟨k, hk, rfl, hall, hx⟩ := hrel
      have HA := hid hall
      clear hall
      by_cases hlt : k < n
      · obtain ⟨b, off, x, A', c, A'', c', rfl, hb, hxg, hs1, hs2, q0, q1, q2, q3, q4⟩ := hrow.ch hlt
        have z0 := (Ext.cell hx hb _).trans q0
        have z1 := (Ext.cell hx hb _).trans q1
        have z2 := (Ext.cell hx hb _).trans q2
        have z3 := (Ext.cell hx hb _).trans q3
        have z4 := (Ext.cell hx hb _).trans q4
        have HX := hid hxg
        have hc : chOk x = (decide (x.data.length ≤ 255) && decide (x.edits.length ≤ 255)) := rfl
        generalize x.data.length = dl at *
        generalize x.edits.length = el' at *
        by_cases hd : 255 < dl
        · have t3 : decide ((255 : Int) < (dl : Int)) = true := by simp; omega
          have hno := all_take_no HX.out (hc.trans (by simp; omega))
          have HNO := hid hno
          clear hno hc
          go_wp2
          go_ret
          exact ⟨ret_bool HNO.out.symm, Ext.trans hx (ext_alloc _ _)⟩
        · have t3 : decide ((255 : Int) < (dl : Int)) = false := by simp; omega
          by_cases he : 255 < el'
          · have t4 : decide ((255 : Int) < (el' : Int)) = true := by simp; omega
            have hno := all_take_no HX.out (hc.trans (by simp; omega))
            have HNO := hid hno
            clear hno hc
            go_wp2
            go_ret
            exact ⟨ret_bool HNO.out.symm, Ext.trans hx (ext_alloc _ _)⟩
          · have t4 : decide ((255 : Int) < (el' : Int)) = false := by simp; omega
            have HC := hid (hc.trans (by simp; omega) : chOk x = true)
            clear hc
            go_wp2
            go_roundw
            case rel => exact ⟨k + 1, by omega, by go_num, by rw [all_take_succ HX.out, HA.out, HC.out]; rfl, Ext.trans hx (ext_alloc _ _)⟩
            case measure => simp [intOf]; omega
      · obtain rfl : k = n := by omega
        have e : r.chs.all chOk = true := by have := HA.out; rwa [List.take_of_length_le (by rw [HN.out]; exact Nat.le_refl _)] at this
        have HNO := hid e
        clear e
        go_wp2
        go_ret
        exact ⟨ret_bool HNO.out.symm, hx⟩
theorem magic_any (w : World) : Calls Try.prog 87 #[] w fun e w' => e = .returned (.slice (some ⟨w.heap.size, 0, none⟩) 2 2) ∧ Own repByte 5 w.heap.size w' (.slice (some ⟨w.heap.size, 0, none⟩) 2 2) magicB ∧ Ext w w' := by
  go_enter Try.func87, Try.ntmps87
  go_wp2
  go_ret
  exact ⟨rfl, own_lit (r := repByte) (xs := magicB) (cs := #[.int .u8 75, .int .u8 82]) (Nat.le_refl _) (by simp [magicB, maxLen]) rfl (fun j hj => by
    have : j = 0 ∨ j = 1 := by simp [magicB] at hj; omega
    rcases this with rfl | rfl <;> rfl), ext_alloc _ _⟩
end
end Go.Proofs.Ytjchobncmogcpaa
