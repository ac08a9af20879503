/- The walks of judge's rules. -/
import Derived.Laws.EntriesVeiled
import Derived.Test.YtheopadakjojkaaWindow
namespace Go.Proofs.Ytheopadakjojkaa
open Go.RowKit

def sPrefix : ByteArray := ⟨#[112, 114, 101, 102, 105, 120]⟩
def sWindow : ByteArray := ⟨#[119, 105, 110, 100, 111, 119]⟩
def sOrder : ByteArray := ⟨#[111, 114, 100, 101, 114]⟩
def sConf : ByteArray := ⟨#[99, 111, 110, 102, 105, 114, 109, 101, 100]⟩
def sUnk : ByteArray := ⟨#[117, 110, 107, 110, 111, 119, 110]⟩
def sSkip : ByteArray := ⟨#[115, 107, 105, 112, 112, 101, 100]⟩

theorem Blk.new2 (w : World) (o : Obj) (t : TypeId) (cs : Array Value) : Blk ((w.alloc o).alloc (.cells cs t)) (w.heap.size + 1) t cs := by
  have := Blk.new (w.alloc o) t cs
  rwa [World.size_alloc] at this

set_option maxRecDepth 100000
section
theorem rules1_any (q : Int) (w : World) : Calls Try.prog 105 #[.int .i64 1, .int .i64 q] w fun e w' => ∃ g, e = .returned (.slice (some ⟨g, 0, none⟩) 1 1) ∧ Blk w' g 128 #[.string sPrefix, .func (.func 115) #[] #[]] ∧ Ext w w' := by
  go_enter Try.func105, Try.ntmps105
  go_wp2
  go_ret
  exact ⟨_, rfl, Blk.new2 _ _ _ _, Ext.trans (ext_alloc _ _) (ext_alloc _ _)⟩
theorem rules2_any (q : Int) (w : World) : Calls Try.prog 105 #[.int .i64 2, .int .i64 q] w fun e w' => ∃ g p, e = .returned (.slice (some ⟨g, 0, none⟩) 2 2) ∧ Blk w' g 128 #[.string sPrefix, .func (.func 115) #[] #[], .string sWindow, .func (.func 114) #[] #[.pointer (some ⟨p, 0, none⟩)]] ∧ w'.cell? ⟨p, 0, none⟩ = some (.int .i64 q) ∧ p < w'.heap.size ∧ Ext w w' := by
  go_enter Try.func105, Try.ntmps105
  go_wp2
  go_ret
  exact ⟨_, w.heap.size, rfl, Blk.new2 _ _ _ _, (World.cell?_alloc_lt _ _ _ (by simp)).trans (box_cell _ _ _ 0), by simp; omega, Ext.trans (ext_alloc _ _) (ext_alloc _ _)⟩
theorem rules3_any (q : Int) (w : World) : Calls Try.prog 105 #[.int .i64 3, .int .i64 q] w fun e w' => ∃ g, e = .returned (.slice (some ⟨g, 0, none⟩) 4 4) ∧ Blk w' g 128 #[.string sOrder, .func (.func 65) #[] #[], .string sConf, .func (.func 67) #[] #[], .string sUnk, .func (.func 69) #[] #[], .string sSkip, .func (.func 64) #[] #[]] ∧ Ext w w' := by
  go_enter Try.func105, Try.ntmps105
  go_wp2
  go_ret
  exact ⟨_, rfl, Blk.new2 _ _ _ _, Ext.trans (ext_alloc _ _) (ext_alloc _ _)⟩
theorem rules0_any (n q : Int) (w : World) (h1 : n ≠ 1) (h2 : n ≠ 2) (h3 : n ≠ 3) : Calls Try.prog 105 #[.int .i64 n, .int .i64 q] w fun e w' => e = .returned (.slice none 0 0) ∧ Ext w w' := by
  have b1 : (n == 1) = false := by simpa using h1
  have b2 : (n == 2) = false := by simpa using h2
  have b3 : (n == 3) = false := by simpa using h3
  go_enter Try.func105, Try.ntmps105
  go_wp2
  go_ret
  exact ⟨rfl, ext_alloc _ _⟩
theorem prefixed_any (v : Value) (xs : List Ev) (w : World) (h : IsSlice repEv w (all w) v xs) (hm : Mild xs) :
    Calls Try.prog 115 #[v] w fun e w' => e = .returned (.bool (preB (texts xs 2) (texts xs 0))) ∧ Ext w w' := by
  have hl := hm.few
  have HDD := hid hm.data
  clear hm
  go_enter Try.func115, Try.ntmps115
  go_wp2_with fail
  refine (of_any _ _ _ _ h (by omega) HDD.out).mono ?_
  rintro e w1 ⟨v1, rfl, hv1, hx1⟩
  go_wp2_with fail
  refine (of_any _ _ _ _ (h.ext hx1) (by omega) HDD.out).mono ?_
  rintro e w2 ⟨v2, rfl, hv2, hx2⟩
  go_wp2_with fail
  refine (prefix_any _ _ _ _ _ (hv1.any.ext hx2) hv2.any).mono ?_
  rintro e w3 ⟨rfl, rfl⟩
  go_wp2
  go_ret
  exact ⟨rfl, Ext.trans hx1 hx2⟩
theorem rulesFn_any (p : Nat) (q : Int) (v : Value) (xs : List Ev) (w : World) (hc : w.cell? ⟨p, 0, none⟩ = some (.int .i64 q)) (h : IsSlice repEv w (all w) v xs) (hl : xs.length ≤ 100) :
    Calls Try.prog 114 #[v, .pointer (some ⟨p, 0, none⟩)] w (SomeB (WinP xs q) w) := by
  have HW := hid (window_any v xs q w h hl)
  obtain ⟨A, n, c, rfl, _⟩ := h
  go_enter Try.func114, Try.ntmps114
  go_wp2_with fail
  refine HW.out.mono ?_
  rintro r w1 ⟨b, rfl, hb, hx1⟩
  go_wp2
  go_ret
  exact ⟨b, rfl, hb, hx1⟩
theorem sameTexts_any (v u : Value) (xs : List ByteArray) (w : World) (h : IsSlice repString w (all w) v xs) (h' : IsSlice repString w (all w) u xs) :
    Calls Try.prog 74 #[v, u] w fun e w' => e = .returned (.bool true) ∧ ∃ k, w' = w.drewN k := by
  obtain ⟨A, n, c, rfl, hnc, hcm, hrow⟩ := h
  obtain ⟨A', n', c', rfl, hnc', hcm', hrow'⟩ := h'
  have hn := hrow.1
  have hn' := hrow'.1
  have hmax : n ≤ 9223372036854775807 := by unfold maxLen at hcm; omega
  obtain rfl : n = n' := by omega
  clear hn hn'
  go_enter Try.func74, Try.ntmps74
  go_wp2
  go_loopw [5] (fun i wr => ∃ j : Nat, j ≤ n ∧ i = .int .i64 j ∧ ∃ k, wr = w.drewN k) (fun i _ => n - (intOf i).toNat)
  case atStart => exact ⟨0, Nat.zero_le _, rfl, 0, rfl⟩
  case round =>
    obtain ⟨j, hj, rfl, nd, rfl⟩ := hrel
    by_cases hlt : j < n
    · obtain ⟨b, off, a1, x, rfl, hb, hx, hxa, hc0⟩ := hrow.get1 rfl hlt
      obtain ⟨b', off', a2, y, rfl, hb', hy, hya, hd0⟩ := hrow'.get1 rfl hlt
      obtain rfl : x = y := by rw [hx] at hy; injection hy
      obtain rfl : a1 = .string x := by have h : [a1] = [Value.string x] := hxa; simpa using h
      obtain rfl : a2 = .string x := by have h : [a2] = [Value.string x] := hya; simpa using h
      clear hx hy hxa hya
      go_wp2
      go_quiet (fail)
      go_wp2
      go_roundw
      case rel => exact ⟨j + 1, by omega, by go_num, _, by first | rfl | exact World.drewN_drewN _ _ _⟩
      case measure => simp [intOf]; omega
    · obtain rfl : j = n := by omega
      go_wp2
      go_ret
      exact ⟨rfl, _, rfl⟩
end
end Go.Proofs.Ytheopadakjojkaa
