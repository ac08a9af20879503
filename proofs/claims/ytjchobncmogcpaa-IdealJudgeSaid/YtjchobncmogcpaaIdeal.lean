/- The ideal queue in plain words and in memory; where it may be. -/
import Derived.Test.YtjchobncmogcpaaRange
import Derived.Test.YtjchobncmogcpaaSortOwn
import Derived.Test.YtjchobncmogcpaaJoin
import Derived.Deep.RegionHeld3
import Derived.Deep.RegionLaw
import Derived.Carry
import Derived.WalkSpells
import Derived.WalkArith
namespace Go.Proofs.Ytjchobncmogcpaa
open Go.RowKit

/-- What may have come: what was sent, how many of them may be lost, where it may be. -/
structure Iq where
  lossy : Bool
  stuck : Bool
  sent : List (List UInt8)
  lost : Int
  at_ : List Int
structure Iq.Ok (s : Iq) : Prop where
  asc : s.at_.Pairwise fun x y => x < y
  bnd : ∀ k ∈ s.at_, 0 ≤ k ∧ k ≤ s.sent.length
  lost0 : 0 ≤ s.lost
  lost1 : s.lost ≤ s.sent.length

def AtIs (L : List (Int × Value)) (ks : List Int) : Prop := ∀ k, alook L k = if k ∈ ks then some (.bool true) else none
theorem alook_mem' {κ : Type} [DecidableEq κ] {l : List (κ × Value)} {k : κ} : alook l k = none ↔ k ∉ l.map (·.1) := by
  unfold alook
  rw [Option.map_eq_none_iff, List.find?_eq_none]
  simp only [decide_eq_true_eq, List.mem_map, not_exists, not_and]
  exact ⟨fun h p hp e => h p hp e.symm, fun h p hp e => h p hp e.symm⟩
theorem AtIs.keys {L : List (Int × Value)} {ks : List Int} (h : AtIs L ks) (k : Int) : k ∈ L.map (·.1) ↔ k ∈ ks := by
  by_cases hk : k ∈ ks
  · refine ⟨fun _ => hk, fun _ => ?_⟩
    have h1 := h k
    rw [if_pos hk] at h1
    by_cases hm : k ∈ L.map (·.1)
    · exact hm
    · rw [alook_mem'.2 hm] at h1; cases h1
  · refine ⟨fun hm => ?_, fun h => absurd h hk⟩
    have h1 := h k
    rw [if_neg hk] at h1
    exact absurd hm (alook_mem'.1 h1)
theorem asc_len {n : Nat} : ∀ {xs : List Int} {a : Int}, xs.Pairwise (fun x y => x < y) → (∀ k ∈ xs, a ≤ k ∧ k ≤ n) → 0 ≤ a → a ≤ n + 1 → (xs.length : Int) ≤ n + 1 - a
  | [], a, _, _, _, _ => by simp; omega
  | x :: xs, a, h, hb, h0, h1 => by
    rw [List.pairwise_cons] at h
    have hx := hb x (by simp)
    have := asc_len (xs := xs) (a := x + 1) h.2 (fun k hk => ⟨by have := h.1 k hk; omega, (hb k (List.mem_cons_of_mem _ hk)).2⟩) (by omega) (by omega)
    simp only [List.length_cons]
    omega
structure IqAt (w : World) (gq gm : Nat) (base : Nat) (s : Iq) : Prop where
  ne : gq ≠ gm
  q : gq < base
  m : gm < base
  sz : base ≤ w.heap.size
  blk : ∃ v, Blk w gq 188 #[.bool s.lossy, .bool s.stuck, v, .int .i64 s.lost, .map (some gm)] ∧ Own (repSlice repByte) 33 base w v s.sent
  map : ∃ L, MapSt (keyInt .i64) w gm L ∧ AtIs L s.at_
theorem IqAt.ext {w w' : World} {gq gm base : Nat} {s : Iq} (h : IqAt w gq gm base s) (he : Ext w w') : IqAt w' gq gm base s := by
  obtain ⟨h1, h2, h3, h4, ⟨v, h5, h6⟩, L, h7, h8⟩ := h
  exact ⟨h1, h2, h3, Nat.le_trans h4 he.size, ⟨v, h5.ext he, h6.ext he⟩, L, h7.ext he, h8⟩
theorem keyInt_inj (q : IntKind) : ∀ x y, (keyInt q).kv x = (keyInt q).kv y → x = y := fun x y h => by
  have h : Value.int q x = Value.int q y := h
  injection h
def lenOf : Value → Nat | .slice _ n _ => n | _ => 0
theorem wf_small {k : Int} (h0 : -1000000 ≤ k) (h1 : k ≤ 1000000) : (Lit.int .i64 k).wf = true := WalkArith.wf_i64 ⟨by omega, by omega⟩

theorem info_int : ElemInfo Try.prog 3 1 8 := elemInfo (z := .int .i64 0) (by kernel_rfl) rfl
set_option maxRecDepth 100000
section
theorem isI_any (w : World) (gq gm base : Nat) (s : Iq) (h : IqAt w gq gm base s) :
    Calls Try.prog 110 #[.pointer (some ⟨gq, 0, none⟩)] w fun e w' => e = .returned (.bool true) ∧ w = w' := by
  obtain ⟨_, _, _, _, ⟨v, hb, _⟩, _⟩ := h
  have c4 := hb.cell 4
  have hmn := fun W => run_neq_map_nil (P := Try.prog) W 186 3 4 (some gm) Try.underlying186
  go_enter Try.func110, Try.ntmps110
  go_wp2
  go_ret
  exact ⟨rfl, rfl⟩
theorem isINil_any (w : World) :
    Calls Try.prog 110 #[.pointer none] w fun e w' => e = .returned (.bool false) ∧ w = w' := by
  go_enter Try.func110, Try.ntmps110
  go_wp2
  go_ret
  exact ⟨rfl, rfl⟩
set_option maxHeartbeats 1000000 in
theorem placesI_any (w : World) (gq gm base : Nat) (s : Iq) (h : IqAt w gq gm base s) (hs : s.Ok) (hn : s.sent.length ≤ 1000) :
    Calls Try.prog 60 #[.pointer (some ⟨gq, 0, none⟩)] w fun e w' => ∃ u, e = .returned u ∧ IsSlice (repInt .i64) w' (fresh w w') u s.at_ ∧ Ext w w' := by
  have HI := hid (isI_any w gq gm base s h)
  obtain ⟨_, _, _, _, ⟨v, hb, _⟩, L, hm, hL⟩ := h
  have c4 := hb.cell 4
  obtain ⟨w0, hrg, hit, hx0, hs0⟩ := hm.range (P := Try.prog) Try.underlying186
  have hml := hm.lt
  have hLl : L.length ≤ 2000 := by
    have h1 := nodup_le (ys := s.at_) hm.nodup fun k hk => (hL.keys k).1 hk
    have h2 := asc_len hs.asc hs.bnd (by omega) (by omega)
    rw [List.length_map] at h1
    omega
  have hmsz : w.heap.size ≠ gm := by omega
  clear hb hm
  go_enter Try.func60, Try.ntmps60
  go_wp2_with (go_at_call 110; refine HI.out.mono ?_; rintro e w2 ⟨rfl, rfl⟩)
  go_loopw [3] (fun vl wr => ∃ done : List Int, IterAt (keyInt .i64) wr w.heap.size gm L done ∧ Own (repInt .i64) 3 (w.heap.size + 1) wr vl done ∧ Ext w wr ∧ w.heap.size + 1 ≤ wr.heap.size) (fun vl _ => L.length - lenOf vl)
  case atStart => exact ⟨[], hit, own_nil _ _ _ _, hx0, by omega⟩
  case round =>
    obtain ⟨done, hir, hown, hxr, hszr⟩ := hrel
    rcases hir.next (P := Try.prog) (keyInt_inj .i64) hmsz 0 with ⟨hall, hrun⟩ | ⟨k, kv, w1, hkl, hkd, hrun, hi1, ho1, hs1, hen⟩
    · have hnx : ∀ ty, (Instr.next (.pointer (some ⟨w.heap.size, 0, none⟩)) false ty).run Try.prog wr = _ := fun _ => hrun
      go_wp2_with (go_at_call 85; refine (sortOwn_any wr _ _ done hown (by have := hir.count (keyInt_inj .i64); have := hLl; omega)).mono ?_; rintro e w3 ⟨rfl, hown3, hg3⟩)
      go_ret
      have he := sortI_is hir.nodup hs.asc (fun k => (hall k).trans (hL.keys k))
      rw [he] at hown3
      exact ⟨_, rfl, hown3.own.keep (fun b hb => ⟨⟨by omega, hb.2⟩, fun _ => rfl⟩), Below.grown hxr hg3 hxr.size (fun b hb => by have := (hown.lt b hb).1; omega)⟩
    · have hnx : ∀ ty, (Instr.next (.pointer (some ⟨w.heap.size, 0, none⟩)) false ty).run Try.prog wr = .ok (.tuple #[.bool true, .int .i64 k, kv]) w1 := fun _ => hrun
      have hen' : (Instr.entry (.pointer (some ⟨w.heap.size, 0, none⟩))).run Try.prog w1 = .ok (.tuple #[.int .i64 k, kv]) w1 := hen
      clear hrun hen
      have hks : k ∈ s.at_ := (hL.keys k).1 (List.mem_map.2 ⟨_, hkl, rfl⟩)
      have hkb := hs.bnd k hks
      have hown1 : Own (repInt .i64) 3 (w.heap.size + 1) w1 u3 done := hown.out (X := fun b => b = w.heap.size) (Out.of_only ho1 rfl) (fun b hb => by omega)
      have hcnt := hi1.count (keyInt_inj .i64)
      have hlen : done.length + 1 ≤ L.length := by simpa using hcnt
      go_wp2_with (at_builtin; refine wpl_app1 (r := repInt .i64) (base := w.heap.size + 1) (x := k) (cs := #[.int .i64 k]) _ _ rfl rfl Try.underlying26 info_int (by decide) hown1 rfl rfl hs1.symm ⟨rfl, wf_small (by omega) (by omega)⟩ (by omega) (by simp only [maxLen]; omega) (by omega) ?_; intro v3 w3 hown3 hg3)
      refine ⟨⟨done ++ [k], (hi1.kept hg3 (fun e => by have := (hown1.lt gm e.symm).1; omega) (fun e => by have := (hown1.lt _ e.symm).1; omega)), hown3, Below.grown (ho1.ext_new hxr (Nat.le_refl _)) hg3 (by omega) (fun b hb => by have := (hown1.lt b hb).1; omega), by have := hg3.size; omega⟩, ?_⟩
      obtain ⟨A3, c3, rfl, _⟩ := hown3.form
      obtain ⟨A4, c4', hv4, _⟩ := hown1.form
      rw [hv4]
      simp [lenOf]
      omega
end
end Go.Proofs.Ytjchobncmogcpaa
