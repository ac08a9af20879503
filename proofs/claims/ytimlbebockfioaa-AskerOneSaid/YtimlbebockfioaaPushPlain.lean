/- The pusher in plain words. No program in sight. -/
import Derived.Test.YtimlbebockfioaaTimerPlain
import Derived.Test.YtimlbebockfioaaSl
import Derived.Test.YtimlbebockfioaaRing
import Derived.WalkArith
import Derived.WalkSpells
namespace Go.Proofs.Ytimlbebockfioaa
open Go.RowKit

/-- What a pusher is at: all that was accepted; the window; the timers. -/
structure Ps where
  acc : List (List UInt8)
  base : Nat
  next : Nat
  T : List Tm
def setsT (T : List Tm) (a : Nat) : Nat → List Tm
  | 0 => T
  | i + 1 => tset (setsT T a i) ⟨((a + i : Nat) : Int), 1, 1⟩
def clearsT (T : List Tm) (a : Nat) : Nat → List Tm
  | 0 => T
  | i + 1 => tdel (clearsT T a i) ((a + i : Nat) : Int)
def bitT (T : List Tm) (bits q : Nat) : Nat → List Tm
  | 0 => T
  | i + 1 => if bits.testBit (i + 1) = true then tdel (bitT T bits q i) ((q + (i + 1) : Nat) : Int) else bitT T bits q i
/-- How many more the window has room for. -/
def onC (w : Nat) (s : Ps) : Nat := min s.acc.length (s.base + w) - s.next
def onS (w : Nat) (s : Ps) : Ps := ⟨s.acc, s.base, s.next + onC w s, setsT s.T s.next (onC w s)⟩
def onL (w : Nat) (s : Ps) : List Nat := List.range' s.next (onC w s)
def slideOf (m : Int) (s : Ps) (place : Nat) : Sl := ⟨false, modV place m, 0, s.acc.getD place []⟩
def thereS (s : Ps) (q : Nat) : Ps :=
  ⟨s.acc, q, s.next, if tlook (clearsT s.T s.base (q - s.base)) q = none ∧ q < s.next then tset (clearsT s.T s.base (q - s.base)) ⟨(q : Int), 1, 1⟩ else clearsT s.T s.base (q - s.base)⟩
def bitsS (s : Ps) (bits : Nat) : Ps := ⟨s.acc, s.base, s.next, bitT s.T bits s.base (s.next - s.base - 1)⟩
def sendS (w : Nat) (s : Ps) (m : List UInt8) : Ps := onS w ⟨s.acc ++ [m], s.base, s.next, s.T⟩
/-- What holds of a pusher: the window w, the room, the timers' end most. -/
structure PsOk (w room : Nat) (most : Int) (s : Ps) : Prop where
  tm : TmOk most s.T
  bn : s.base ≤ s.next
  nl : s.next ≤ s.acc.length
  win : s.next ≤ s.base + w
  rm : s.acc.length ≤ s.base + room
  keys : ∀ t ∈ s.T, (s.base : Int) ≤ t.key ∧ t.key < s.next
  first : s.base < s.next → (s.base : Int) ∈ s.T.map (·.key)
  short : ∀ x ∈ s.acc, x.length ≤ 64
theorem wf_nat {n : Nat} (h : n ≤ 1000000) : (Lit.int .i64 (n : Int)).wf = true := WalkArith.wf_i64 ⟨by omega, by omega⟩
theorem tset_keys (T : List Tm) (x : Tm) (k : Int) : k ∈ (tset T x).map (·.key) ↔ k = x.key ∨ k ∈ T.map (·.key) := by
  induction T with
  | nil => simp [tset]
  | cons t T ih =>
    unfold tset
    split
    · simp only [List.map_cons, List.mem_cons, ih]
      constructor
      · rintro (h | h | h)
        · exact .inr (.inl h)
        · exact .inl h
        · exact .inr (.inr h)
      · rintro (h | h | h)
        · exact .inr (.inl h)
        · exact .inl h
        · exact .inr (.inr h)
    · split
      · rename_i h1 h2
        simp only [List.map_cons, List.mem_cons, h2]
        constructor
        · rintro (h | h)
          · exact .inl h
          · exact .inr (.inr h)
        · rintro (h | h | h)
          · exact .inl h
          · exact .inl h
          · exact .inr h
      · simp only [List.map_cons, List.mem_cons]
theorem tdel_keys {T : List Tm} (h : Asc T) (k k' : Int) : k' ∈ (tdel T k).map (·.key) ↔ k' ≠ k ∧ k' ∈ T.map (·.key) := by
  rw [← tlook_isSome, ← tlook_isSome, tdel_look _ _ _ h]
  by_cases hk : k = k'
  · rw [if_pos hk]; simp [hk]
  · rw [if_neg hk]
    constructor
    · intro h; exact ⟨fun e => hk e.symm, h⟩
    · exact fun h => h.2
theorem setsT_ok {most : Int} (hm : 1 ≤ most) {T : List Tm} (h : TmOk most T) (a : Nat) : ∀ i, a + i ≤ 1000000 → TmOk most (setsT T a i)
  | 0, _ => h
  | i + 1, hi => tset_ok (setsT_ok hm h a i (by omega)) ⟨wf_nat (by omega), Int.le_refl _, Int.le_refl _, hm⟩
theorem setsT_keys (T : List Tm) (a : Nat) (k : Int) : ∀ i, k ∈ (setsT T a i).map (·.key) ↔ ((a : Int) ≤ k ∧ k < a + i) ∨ k ∈ T.map (·.key)
  | 0 => by simp [setsT]; omega
  | i + 1 => by
    unfold setsT
    rw [tset_keys, setsT_keys T a k i]
    push_cast
    constructor
    · rintro (h | h | h)
      · left; omega
      · left; omega
      · exact .inr h
    · rintro (h | h)
      · by_cases he : k = (a : Int) + i
        · exact .inl he
        · exact .inr (.inl (by omega))
      · exact .inr (.inr h)
theorem setsT_len (T : List Tm) (a : Nat) : ∀ i, (setsT T a i).length ≤ T.length + i
  | 0 => Nat.le_refl _
  | i + 1 => by
    have h1 := setsT_len T a i
    have h2 := tset_len (setsT T a i) ⟨((a + i : Nat) : Int), 1, 1⟩
    show (tset _ _).length ≤ _
    omega
theorem clearsT_ok {most : Int} {T : List Tm} (h : TmOk most T) (a : Nat) : ∀ i, TmOk most (clearsT T a i)
  | 0 => h
  | i + 1 => tdel_ok (clearsT_ok h a i) _
theorem clearsT_keys {most : Int} {T : List Tm} (h : TmOk most T) (a : Nat) (k : Int) : ∀ i, k ∈ (clearsT T a i).map (·.key) ↔ ¬ ((a : Int) ≤ k ∧ k < a + i) ∧ k ∈ T.map (·.key)
  | 0 => by simp [clearsT]
  | i + 1 => by
    unfold clearsT
    rw [tdel_keys (clearsT_ok h a i).asc, clearsT_keys h a k i]
    push_cast
    constructor
    · rintro ⟨h1, h2, h3⟩; exact ⟨by omega, h3⟩
    · rintro ⟨h1, h2⟩; exact ⟨by omega, by omega, h2⟩
theorem bitT_ok {most : Int} {T : List Tm} (h : TmOk most T) (bits q : Nat) : ∀ i, TmOk most (bitT T bits q i)
  | 0 => h
  | i + 1 => by
    unfold bitT
    split
    · exact tdel_ok (bitT_ok h bits q i) _
    · exact bitT_ok h bits q i
theorem bitT_keys {most : Int} {T : List Tm} (h : TmOk most T) (bits q : Nat) (k : Int) : ∀ i, (k ∈ (bitT T bits q i).map (·.key) → k ∈ T.map (·.key)) ∧ (k ≤ q → k ∈ T.map (·.key) → k ∈ (bitT T bits q i).map (·.key))
  | 0 => ⟨fun h => h, fun _ h => h⟩
  | i + 1 => by
    have ih := bitT_keys h bits q k i
    unfold bitT
    split
    · rw [tdel_keys (bitT_ok h bits q i).asc]
      refine ⟨fun h => ih.1 h.2, fun h1 h2 => ⟨by push_cast; omega, ih.2 h1 h2⟩⟩
    · exact ih
theorem mem_key {T : List Tm} {t : Tm} (h : t ∈ T) : t.key ∈ T.map (·.key) := List.mem_map.2 ⟨t, h, rfl⟩
theorem key_bnd {T : List Tm} {a b : Int} (h : ∀ k ∈ T.map (·.key), a ≤ k ∧ k < b) : ∀ t ∈ T, a ≤ t.key ∧ t.key < b := fun t ht => h _ (mem_key ht)
theorem PsOk.keyB {w room : Nat} {most : Int} {s : Ps} (h : PsOk w room most s) : ∀ k ∈ s.T.map (·.key), (s.base : Int) ≤ k ∧ k < s.next := fun k hk => by
  obtain ⟨t, ht, rfl⟩ := List.mem_map.1 hk
  exact h.keys t ht
theorem onC_le {w room : Nat} {most : Int} {s : Ps} (h : PsOk w room most s) : s.next + onC w s ≤ s.acc.length ∧ s.next + onC w s ≤ s.base + w := by
  have := h.nl; have := h.win
  unfold onC
  omega
theorem onS_ok {w room : Nat} {most : Int} {s : Ps} (h : PsOk w room most s) (hm : 1 ≤ most) (hl : s.acc.length ≤ 1000000) : PsOk w room most (onS w s) := by
  obtain ⟨h1, h2⟩ := onC_le h
  have hk := h.keyB
  refine ⟨setsT_ok hm h.tm _ _ (by omega), by show s.base ≤ s.next + onC w s; have := h.bn; omega, h1, h2, h.rm, key_bnd fun k hkk => ?_, fun hlt => ?_, h.short⟩
  · show (s.base : Int) ≤ k ∧ k < ((s.next + onC w s : Nat) : Int)
    have hkk : k ∈ (setsT s.T s.next (onC w s)).map (·.key) := hkk
    rw [setsT_keys] at hkk
    have := h.bn
    push_cast
    rcases hkk with hh | hh
    · omega
    · have := hk k hh; omega
  · show (s.base : Int) ∈ (setsT s.T s.next (onC w s)).map (·.key)
    rw [setsT_keys]
    by_cases hb : s.base < s.next
    · exact .inr (h.first hb)
    · left
      have hlt : s.base < s.next + onC w s := hlt
      have := h.bn
      omega
theorem there_ok {w room : Nat} {most : Int} {s : Ps} (h : PsOk w room most s) (hm : 1 ≤ most) {q : Nat} (h1 : s.base ≤ q) (h2 : q ≤ s.next) (hl : s.acc.length ≤ 1000000) : PsOk w room most (thereS s q) := by
  have hc := clearsT_ok h.tm s.base (q - s.base)
  have hq : (Lit.int .i64 (q : Int)).wf = true := wf_nat (by have := h.nl; omega)
  have hk := h.keyB
  have hwin := h.win
  have hrm := h.rm
  have hkc : ∀ k, k ∈ (clearsT s.T s.base (q - s.base)).map (·.key) → (q : Int) ≤ k ∧ k < s.next := fun k hkk => by
    rw [clearsT_keys h.tm] at hkk
    have := hk k hkk.2
    have := hkk.1
    omega
  unfold thereS
  split
  · rename_i hcond
    refine ⟨tset_ok hc ⟨hq, Int.le_refl _, Int.le_refl _, hm⟩, h2, h.nl, by show s.next ≤ q + w; omega, by show s.acc.length ≤ q + room; omega, key_bnd fun k hkk => ?_, fun _ => ?_, h.short⟩
    · rw [tset_keys] at hkk
      rcases hkk with hh | hh
      · simp only at hh ⊢; omega
      · exact hkc k hh
    · show (q : Int) ∈ _
      rw [tset_keys]
      exact .inl rfl
  · rename_i hcond
    refine ⟨hc, h2, h.nl, by show s.next ≤ q + w; omega, by show s.acc.length ≤ q + room; omega, key_bnd hkc, fun hlt => ?_, h.short⟩
    have hlt : q < s.next := hlt
    rw [← tlook_isSome]
    cases hlk : tlook (clearsT s.T s.base (q - s.base)) q with
    | none => exact absurd ⟨hlk, hlt⟩ hcond
    | some t => rfl
theorem bits_ok {w room : Nat} {most : Int} {s : Ps} (h : PsOk w room most s) (bits : Nat) : PsOk w room most (bitsS s bits) :=
  ⟨bitT_ok h.tm _ _ _, h.bn, h.nl, h.win, h.rm, key_bnd fun k hk => h.keyB k ((bitT_keys h.tm bits s.base k _).1 hk), fun hlt => (bitT_keys h.tm bits s.base _ _).2 (Int.le_refl _) (h.first hlt), h.short⟩
theorem tick_psok {w room : Nat} {most : Int} {s : Ps} (h : PsOk w room most s) (hm : 1 ≤ most) : PsOk w room most ⟨s.acc, s.base, s.next, tickT most s.T⟩ :=
  ⟨tickT_ok hm h.tm, h.bn, h.nl, h.win, h.rm, key_bnd fun k hk => h.keyB k (by rw [tickT_keys] at hk; exact hk), fun hlt => by
    show _ ∈ (tickT most s.T).map (·.key)
    rw [tickT_keys]; exact h.first hlt, h.short⟩
theorem send_ok {w room : Nat} {most : Int} {s : Ps} (h : PsOk w room most s) (hm : 1 ≤ most) (m : List UInt8) (h64 : m.length ≤ 64) (hr : s.acc.length < s.base + room) (hl : s.acc.length + 1 ≤ 1000000) : PsOk w room most (sendS w s m) := by
  refine onS_ok ⟨h.tm, h.bn, ?_, h.win, ?_, h.keys, h.first, fun x hx => ?_⟩ hm ?_
  · have := h.nl; simp; omega
  · simp; omega
  · rcases List.mem_append.1 hx with hx | hx
    · exact h.short x hx
    · simp at hx; subst hx; exact h64
  · simp; omega
theorem keysLen {T : List Tm} {a n : Nat} (ha : Asc T) (hk : ∀ t ∈ T, (a : Int) ≤ t.key ∧ t.key < n) : T.length ≤ n - a := by
  have h := nodup_le (xs := T.map (·.key)) (ys := (List.range' a (n - a)).map Int.ofNat) ha.nodup fun k hk' => by
    obtain ⟨t, ht, rfl⟩ := List.mem_map.1 hk'
    have := hk t ht
    refine List.mem_map.2 ⟨t.key.toNat, List.mem_range'_1.2 (by omega), ?_⟩
    show ((t.key.toNat : Nat) : Int) = t.key
    omega
  simpa using h
theorem PsOk.tlen {W R : Nat} {most : Int} {s : Ps} (h : PsOk W R most s) : s.T.length ≤ W := by
  have := keysLen h.tm.asc h.keys
  have := h.win
  omega
/-- The first timer is Base's. -/
theorem PsOk.headKey {w room : Nat} {most : Int} {s : Ps} (h : PsOk w room most s) (hlt : s.base < s.next) : ∃ t T, s.T = t :: T ∧ t.key = s.base := by
  have hf := h.first hlt
  cases hT : s.T with
  | nil => rw [hT] at hf; simp at hf
  | cons t T =>
    refine ⟨t, T, rfl, ?_⟩
    have ha := h.tm.asc
    rw [hT] at hf ha
    have h1 := (h.keys t (by rw [hT]; simp)).1
    rw [List.map_cons, List.mem_cons] at hf
    rcases hf with hf | hf
    · exact hf.symm
    · obtain ⟨x, hx, he⟩ := List.mem_map.1 hf
      have := ha.head x hx
      omega
end Go.Proofs.Ytimlbebockfioaa
