/- Timers in memory; their small functions. -/
import Derived.Test.YtimlbebockfioaaIter
import Derived.Test.YtimlbebockfioaaObj
import Derived.Test.YtimlbebockfioaaOut
import Derived.Test.YtimlbebockfioaaTimerPlain
import Derived.Deep.DeepCutAuto
import Derived.StillTailTactics
import Derived.Deep.RegionLaw
import Derived.Deep.RegionHeld3
namespace Go.Proofs.Ytimlbebockfioaa
open Go.RowKit

def lnOf : Value → Nat | .slice _ n _ => n | _ => 0
theorem keyI_inj (q : IntKind) : ∀ x y : Int, (keyInt q).kv x = (keyInt q).kv y → x = y := fun x y h => by
  have h : Value.int q x = Value.int q y := h
  injection h
theorem info_intM : ElemInfo Try.prog 3 1 8 := elemInfo (z := .int .i64 0) (by kernel_rfl) rfl
def valT (t : Tm) : Value := .agg #[.int .i64 t.left, .int .i64 t.span]
def TmAt (w : World) (gt b : Nat) (most : Int) (T : List Tm) : Prop :=
  Blk w gt 127 #[.int .i64 most, .map (some b)] ∧ gt ≠ b ∧ ∃ l, MapSt (keyInt .i64) w b l ∧ ∀ k, alook l k = (tlook T k).map valT
section
variable {w w' : World} {gt b : Nat} {most : Int} {T : List Tm}
theorem keysT {l : List (Int × Value)} (hL : ∀ k, alook l k = (tlook T k).map valT) (k : Int) : k ∈ l.map (·.1) ↔ k ∈ T.map (·.key) := by
  rw [alook_in, hL k, Option.isSome_map, tlook_isSome]
theorem lenT {l : List (Int × Value)} (hm : MapSt (keyInt .i64) w b l) (hL : ∀ k, alook l k = (tlook T k).map valT) : l.length ≤ T.length := by
  have h := nodup_le (ys := T.map (·.key)) hm.nodup fun k hk => (keysT hL k).1 hk
  simpa using h
theorem TmAt.kept (h : TmAt w gt b most T) {row : Option Nat} (hg : w.grownBy w' row) (h1 : some gt ≠ row) (h2 : some b ≠ row) : TmAt w' gt b most T := by
  obtain ⟨hb, hne, l, hm, hL⟩ := h
  exact ⟨hb.grown hg h1, hne, l, hm.kept hg h2, hL⟩
theorem TmAt.ext (h : TmAt w gt b most T) (he : Ext w w') : TmAt w' gt b most T := by
  obtain ⟨hb, hne, l, hm, hL⟩ := h
  exact ⟨hb.ext he, hne, l, hm.ext he, hL⟩
theorem TmAt.lt (h : TmAt w gt b most T) : gt < w.heap.size ∧ b < w.heap.size := by
  obtain ⟨hb, hne, l, hm, hL⟩ := h
  exact ⟨hb.lt, hm.lt⟩
end
theorem results3 {fn : Func} {t u v : Tmp} (h : fn.results = #[.tmp t, .tmp u, .tmp v]) (tmps : Array Value) (P : Program) (w : World) :
    (results fn tmps).run P w = .ok (.tuple #[tmps.getD t undef, tmps.getD u undef, tmps.getD v undef]) w := by simp [results, h]
theorem Out.trans2 {X Y : Nat → Prop} {a b c : World} (h : Out X a b) (k : Out Y b c) (hY : ∀ q, q < a.heap.size → Y q → X q) : Out X a c :=
  ⟨k.os.trans h.os, k.tape.trans h.tape, k.output.trans h.output, Nat.le_trans h.size k.size, fun i hi hn => (k.block i (Nat.lt_of_lt_of_le hi h.size) fun hy => hn (hY i hi hy)).trans (h.block i hi hn)⟩
theorem TmAt.out3 {w w' : World} {gt b : Nat} {most : Int} {T : List Tm} (h : TmAt w gt b most T) {X : Nat → Prop} (hb : Out X w w') (h1 : ¬ X gt) (h2 : ¬ X b) : TmAt w' gt b most T := by
  have hlt := h.lt
  obtain ⟨hbl, hne, l, ⟨es, clock, m1, m2⟩, hL⟩ := h
  exact ⟨(hb.block gt hlt.1 h1).trans hbl, hne, l, ⟨es, clock, (hb.block b hlt.2 h2).trans m1, m2⟩, hL⟩
set_option maxRecDepth 100000
section
theorem tmNew_yes (w : World) (m : Int) (h1 : 1 ≤ m) (h2 : m ≤ 64) :
    Calls Try.prog 35 #[.int .i64 m] w fun e w' => ∃ gt b, e = .returned (.tuple #[.pointer (some ⟨gt, 0, none⟩), .int .i64 0]) ∧ w.heap.size ≤ gt ∧ w.heap.size ≤ b ∧ TmAt w' gt b m [] ∧ Ext w w' := by
  have hmm := @run_makeMap Try.prog
  have hmd := mapSt_made (keyInt .i64) w
  have hd1 : decide (m < 1) = false := decide_eq_false (by omega)
  have hd2 : decide (64 < m) = false := decide_eq_false (by omega)
  go_enter Try.func35, Try.ntmps35
  go_wp2
  go_ret2
  refine ⟨w.heap.size + 1, w.heap.size, by simp, by omega, Nat.le_refl _, ⟨?_, by omega, [], hmd.ext (ext_alloc _ _), fun k => rfl⟩, Ext.trans (ext_alloc _ _) (ext_alloc _ _)⟩
  have := Blk.new (w.alloc (.map #[] 0)) 127 #[.int .i64 m, .map (some w.heap.size)]
  simpa using this
theorem tmNew_no (w : World) (m : Int) (h : m < 1 ∨ 64 < m) :
    Calls Try.prog 35 #[.int .i64 m] w fun e w' => e = .returned (.tuple #[.pointer none, .int .i64 1]) ∧ w = w' := by
  rcases h with h | h
  · have hd1 : decide (m < 1) = true := decide_eq_true (by omega)
    go_enter Try.func35, Try.ntmps35
    go_wp2
    go_ret2
    exact ⟨rfl, rfl⟩
  · have hd1 : decide (m < 1) = false := decide_eq_false (by omega)
    have hd2 : decide (64 < m) = true := decide_eq_true (by omega)
    go_enter Try.func35, Try.ntmps35
    go_wp2
    go_ret2
    exact ⟨rfl, rfl⟩
theorem tmIs_any (w : World) (gt b : Nat) (most : Int) (T : List Tm) (h : TmAt w gt b most T) :
    Calls Try.prog 67 #[.pointer (some ⟨gt, 0, none⟩)] w fun e w' => e = .returned (.bool true) ∧ w = w' := by
  have hc : w.cell? ⟨gt, 1, none⟩ = some (.map (some b)) := h.1.cell 1
  have hq : ∀ (w : World), (binOp .neq 125 (.map (some b)) (.map none)).run Try.prog w = .ok (.bool true) w := fun _ => rfl
  go_enter Try.func67, Try.ntmps67
  go_wp2
  go_ret
  exact ⟨rfl, rfl⟩
theorem tmIsNil_any (w : World) : Calls Try.prog 67 #[.pointer none] w fun e w' => e = .returned (.bool false) ∧ w = w' := by
  go_enter Try.func67, Try.ntmps67
  go_wp2
  go_ret
  exact ⟨rfl, rfl⟩
set_option maxHeartbeats 1000000 in
theorem tmLeft_any (w : World) (gt b : Nat) (most : Int) (T : List Tm) (h : TmAt w gt b most T) (k : Int) :
    Calls Try.prog 75 #[.pointer (some ⟨gt, 0, none⟩), .int .i64 k] w fun e w' => e = .returned (.tuple #[.int .i64 (((tlook T k).map (·.left)).getD 0), .int .i64 (((tlook T k).map (·.span)).getD 0)]) ∧ Ext w w' := by
  have hi := hid (tmIs_any w gt b most T h)
  have hc : w.cell? ⟨gt, 1, none⟩ = some (.map (some b)) := h.1.cell 1
  obtain ⟨_, _, l, hm, hl⟩ := h
  have hz : (zeroValue 135).run Try.prog w = .ok (.agg #[.int .i64 0, .int .i64 0]) w := by rfl
  have hlook := hm.is.lookup (P := Try.prog) Try.underlying125 Try.underlying3 hz k
  rw [hl k] at hlook
  cases hk : tlook T k with
  | none =>
    rw [hk] at hlook
    have hlk : (Instr.lookup 125 (.map (some b)) (.int .i64 k) false).run Try.prog w = .ok (.agg #[.int .i64 0, .int .i64 0]) w := hlook
    clear hlook hl hm hk hz
    go_enter Try.func75, Try.ntmps75
    go_wp2_with (go_at_call 67; refine hi.out.mono ?_; rintro e w' ⟨rfl, rfl⟩)
    go_quiet (fail)
    go_wp2
    go_ret2
    exact ⟨rfl, Ext.trans (ext_alloc _ _) (ext_drewN _ _)⟩
  | some x =>
    rw [hk] at hlook
    have hlk : (Instr.lookup 125 (.map (some b)) (.int .i64 k) false).run Try.prog w = .ok (.agg #[.int .i64 x.left, .int .i64 x.span]) w := hlook
    clear hlook hl hm hk hz
    go_enter Try.func75, Try.ntmps75
    go_wp2_with (go_at_call 67; refine hi.out.mono ?_; rintro e w' ⟨rfl, rfl⟩)
    go_quiet (fail)
    go_wp2
    go_ret2
    exact ⟨rfl, Ext.trans (ext_alloc _ _) (ext_drewN _ _)⟩
theorem tmSet_any (w : World) (gt b : Nat) (most : Int) (T : List Tm) (h : TmAt w gt b most T) (ha : Asc T) (k : Int) :
    Calls Try.prog 69 #[.pointer (some ⟨gt, 0, none⟩), .int .i64 k] w fun e w' => e = .returned (.tuple #[]) ∧ TmAt w' gt b most (tset T ⟨k, 1, 1⟩) ∧ Only b w w' := by
  have hi := hid (tmIs_any w gt b most T h)
  have hc : w.cell? ⟨gt, 1, none⟩ = some (.map (some b)) := h.1.cell 1
  obtain ⟨hb, hne, l, hm, hl⟩ := h
  have HL := hid hl
  have HB := hid hb
  clear hl hb
  go_enter Try.func69, Try.ntmps69
  go_wp2_with (first
    | (go_at_call 67; refine hi.out.mono ?_; rintro e w' ⟨rfl, rfl⟩)
    | (refine wpl_putSt (K := keyInt .i64) (k := k) _ _ _ rfl rfl Try.underlying125 Try.underlying3 hm rfl rfl rfl rfl ?_; intro w2 hm2 hg2))
  go_end0
  refine ⟨rfl, ⟨HB.out.grown hg2 (fun e => hne (by injection e)), hne, _, hm2, fun k' => ?_⟩, hg2⟩
  rw [alook_put2, tset_look _ _ _ ha, HL.out k']
  simp only
  split <;> rfl
theorem tmSetNil_any (w : World) (k : Int) : Calls Try.prog 69 #[.pointer none, .int .i64 k] w fun e w' => e = .returned (.tuple #[]) ∧ w = w' := by
  go_enter Try.func69, Try.ntmps69
  go_wp2_with (first
    | (go_at_call 67; refine (tmIsNil_any w).mono ?_; rintro e w' ⟨rfl, rfl⟩))
  go_end0
  exact ⟨rfl, rfl⟩
theorem tmLeftNil_any (w : World) (k : Int) : Calls Try.prog 75 #[.pointer none, .int .i64 k] w fun e w' => e = .returned (.tuple #[.int .i64 0, .int .i64 0]) ∧ w = w' := by
  go_enter Try.func75, Try.ntmps75
  go_wp2_with (first
    | (go_at_call 67; refine (tmIsNil_any w).mono ?_; rintro e w' ⟨rfl, rfl⟩))
  go_ret2
  exact ⟨rfl, rfl⟩
theorem tmClearNil_any (w : World) (k : Int) : Calls Try.prog 47 #[.pointer none, .int .i64 k] w fun e w' => e = .returned (.bool false) ∧ w = w' := by
  go_enter Try.func47, Try.ntmps47
  go_wp2_with (first
    | (go_at_call 67; refine (tmIsNil_any w).mono ?_; rintro e w' ⟨rfl, rfl⟩))
  go_ret
  exact ⟨rfl, rfl⟩
theorem tmKeysNil_any (w : World) : Calls Try.prog 38 #[.pointer none] w fun e w' => e = .returned (.slice none 0 0) ∧ w = w' := by
  go_enter Try.func38, Try.ntmps38
  go_wp2_with (first
    | (go_at_call 67; refine (tmIsNil_any w).mono ?_; rintro e w' ⟨rfl, rfl⟩))
  go_ret
  exact ⟨rfl, rfl⟩
theorem tmTickNil_any (w : World) : Calls Try.prog 44 #[.pointer none] w fun e w' => e = .returned (.slice none 0 0) ∧ w = w' := by
  go_enter Try.func44, Try.ntmps44
  go_wp2_with (first
    | (go_at_call 67; refine (tmIsNil_any w).mono ?_; rintro e w' ⟨rfl, rfl⟩))
  go_ret
  exact ⟨rfl, rfl⟩
set_option maxHeartbeats 1000000 in
theorem tmClear_any (w : World) (gt b : Nat) (most : Int) (T : List Tm) (h : TmAt w gt b most T) (ha : Asc T) (k : Int) :
    Calls Try.prog 47 #[.pointer (some ⟨gt, 0, none⟩), .int .i64 k] w fun e w' => e = .returned (.bool (tlook T k).isSome) ∧ TmAt w' gt b most (tdel T k) ∧ Only b w w' := by
  have hi := hid (tmIs_any w gt b most T h)
  have hc : w.cell? ⟨gt, 1, none⟩ = some (.map (some b)) := h.1.cell 1
  obtain ⟨hb, hne, l, hm, hl⟩ := h
  have hz : (zeroValue 135).run Try.prog w = .ok (.agg #[.int .i64 0, .int .i64 0]) w := by rfl
  have hlook := hm.is.lookup_ok (P := Try.prog) Try.underlying125 Try.underlying3 hz k
  have hnd := hm.nodup
  rw [hl k, Option.isSome_map] at hlook
  obtain ⟨x0, x1, hx⟩ : ∃ x0 x1 : Int, ((tlook T k).map valT).getD (.agg #[.int .i64 0, .int .i64 0]) = .agg #[.int .i64 x0, .int .i64 x1] := by
    cases tlook T k with
    | none => exact ⟨0, 0, rfl⟩
    | some t => exact ⟨t.left, t.span, rfl⟩
  rw [hx] at hlook
  have hlk : (Instr.lookup 125 (.map (some b)) (.int .i64 k) true).run Try.prog w = .ok (.tuple #[.agg #[.int .i64 x0, .int .i64 x1], .bool (tlook T k).isSome]) w := hlook
  clear hlook hx hz
  obtain ⟨r, hr⟩ : ∃ r, r = (tlook T k).isSome := ⟨_, rfl⟩
  rw [← hr] at hlk ⊢
  clear hr
  have hma := hm.ext (ext_alloc w (.cells #[.int .i64 x0, .int .i64 x1] 135))
  have HL := hid hl
  have HB := hid hb
  have HN := hid hnd
  have hgl := hb.lt
  clear hl hb hnd hm
  go_enter Try.func47, Try.ntmps47
  go_wp2_with (first
    | (go_at_call 67; refine hi.out.mono ?_; rintro e w' ⟨rfl, rfl⟩)
    | (refine wpl_delSt (K := keyInt .i64) (k := k) _ _ rfl rfl Try.underlying125 Try.underlying3 hma rfl rfl rfl ?_; intro w2 hm2 hg2))
  go_ret

  refine ⟨rfl, ⟨(HB.out.alloc _).grown hg2 (fun e => hne (by injection e)), hne, _, hm2, fun k' => ?_⟩, (Only.of_ext (ext_alloc _ _)).trans hg2⟩
  rw [alook_del2 HN.out, tdel_look _ _ _ ha, HL.out k']
  split <;> rfl
set_option maxHeartbeats 1000000 in
theorem tmKeys_any (w : World) (gt b : Nat) (most : Int) (T : List Tm) (h : TmAt w gt b most T) (ht : TmOk most T) (hn : T.length ≤ 1000) :
    Calls Try.prog 38 #[.pointer (some ⟨gt, 0, none⟩)] w fun e w' => ∃ u, e = .returned u ∧ IsSlice (repInt .i64) w' (fresh w w') u (T.map (·.key)) ∧ Ext w w' := by
  have HI := hid (tmIs_any w gt b most T h)
  obtain ⟨hb, hne, l, hm, hL⟩ := h
  have c1 := hb.cell 1
  have hLl := lenT hm hL
  obtain ⟨w0, hrg, hit, hx0, hs0⟩ := hm.range (P := Try.prog) Try.underlying125
  have hml := hm.lt
  have hmsz : w.heap.size ≠ b := by omega
  have HK := hid (keysT hL)
  have HT := hid ht
  have hLn : l.length ≤ 1000 := by omega
  clear hb hm hL ht hLl
  go_enter Try.func38, Try.ntmps38
  go_wp2_with (go_at_call 67; refine HI.out.mono ?_; rintro e w2 ⟨rfl, rfl⟩)
  go_loopw [3] (fun vl wr => ∃ done : List Int, IterAt (keyInt .i64) wr w.heap.size b l done ∧ Own (repInt .i64) 3 (w.heap.size + 1) wr vl done ∧ Ext w wr ∧ w.heap.size + 1 ≤ wr.heap.size) (fun vl _ => l.length - lnOf vl)
  case atStart => exact ⟨[], hit, own_nil _ _ _ _, hx0, by omega⟩
  case round =>
    obtain ⟨done, hir, hown, hxr, hszr⟩ := hrel
    rcases hir.next (P := Try.prog) (keyI_inj .i64) hmsz 0 with ⟨hall, hrun⟩ | ⟨k, kv, w1, hkl, hkd, hrun, hi1, ho1, hs1, hen⟩
    · have hnx : ∀ ty, (Instr.next (.pointer (some ⟨w.heap.size, 0, none⟩)) false ty).run Try.prog wr = _ := fun _ => hrun
      go_wp2_with (go_at_call 68; refine (sortOwn_any wr _ _ done hown (by have := hir.count (keyI_inj .i64); have := hLn; omega)).mono ?_; rintro e w3 ⟨rfl, hown3, hg3⟩)
      go_ret
      have he := sortI_is hir.nodup HT.out.asc.keys (fun k => (hall k).trans (HK.out k))
      rw [he] at hown3
      exact ⟨_, rfl, hown3.own.keep (fun b hb => ⟨⟨by omega, hb.2⟩, fun _ => rfl⟩), Below.grown hxr hg3 hxr.size (fun b hb => by have := (hown.lt b hb).1; omega)⟩
    · have hnx : ∀ ty, (Instr.next (.pointer (some ⟨w.heap.size, 0, none⟩)) false ty).run Try.prog wr = .ok (.tuple #[.bool true, .int .i64 k, kv]) w1 := fun _ => hrun
      have hen' : (Instr.entry (.pointer (some ⟨w.heap.size, 0, none⟩))).run Try.prog w1 = .ok (.tuple #[.int .i64 k, kv]) w1 := hen
      clear hrun hen
      have hks : k ∈ T.map (·.key) := (HK.out k).1 (List.mem_map.2 ⟨_, hkl, rfl⟩)
      have hwf : (Lit.int .i64 k).wf = true := by
        obtain ⟨t, ht, rfl⟩ := List.mem_map.1 hks
        exact (HT.out.ok t ht).1
      have HWF := hid hwf
      clear hwf hks
      have hown1 : Own (repInt .i64) 3 (w.heap.size + 1) w1 u3 done := hown.out (X := fun b => b = w.heap.size) (Out.of_only ho1 rfl) (fun b hb => by omega)
      have hcnt := hi1.count (keyI_inj .i64)
      have hlen : done.length + 1 ≤ l.length := by simpa using hcnt
      go_wp2_with (at_builtin; refine wpl_app1 (r := repInt .i64) (base := w.heap.size + 1) (x := k) (cs := #[.int .i64 k]) _ _ rfl rfl Try.underlying44 info_intM (by decide) hown1 rfl rfl hs1.symm ⟨rfl, HWF.out⟩ (by omega) (by simp only [maxLen]; omega) (by omega) ?_; intro v3 w3 hown3 hg3)
      refine ⟨⟨done ++ [k], (hi1.kept hg3 (fun e => by have := (hown1.lt b e.symm).1; omega) (fun e => by have := (hown1.lt _ e.symm).1; omega)), hown3, Below.grown (ho1.ext_new hxr (Nat.le_refl _)) hg3 (by omega) (fun b hb => by have := (hown1.lt b hb).1; omega), by have := hg3.size; omega⟩, ?_⟩
      obtain ⟨A3, c3, rfl, _⟩ := hown3.form
      obtain ⟨A4, c4', hv4, _⟩ := hown1.form
      rw [hv4]
      simp [lnOf]
      omega
end
end Go.Proofs.Ytimlbebockfioaa
