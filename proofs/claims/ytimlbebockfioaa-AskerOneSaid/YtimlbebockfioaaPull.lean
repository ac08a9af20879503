/- What a puller does, in plain words: its state, and each act's step. No program in sight. -/
import Derived.Test.YtimlbebockfioaaKit
namespace Go.Proofs.Ytimlbebockfioaa
open Go.RowKit

def hlook (H : List (Int × List UInt8)) (k : Int) : Option (List UInt8) := (H.find? fun p => decide (k = p.1)).map (·.2)
def hdel (H : List (Int × List UInt8)) (k : Int) : List (Int × List UInt8) := H.filter fun p => !decide (k = p.1)
def hins : List (Int × List UInt8) → Int → List UInt8 → List (Int × List UInt8)
  | [], k, x => [(k, x)]
  | p :: l, k, x => if p.1 < k then p :: hins l k x else (k, x) :: p :: l
theorem hlook_del (H : List (Int × List UInt8)) (k k' : Int) : hlook (hdel H k) k' = if k = k' then none else hlook H k' := by
  unfold hlook hdel
  induction H with
  | nil => simp
  | cons p l ih =>
    by_cases hk : k = p.1
    · subst hk
      simp only [List.filter_cons, decide_true, Bool.not_true, Bool.false_eq_true, if_false]
      rw [ih]
      by_cases h : p.1 = k'
      · rw [if_pos h, if_pos h]
      · rw [if_neg h, if_neg h, List.find?_cons]
        have : decide (k' = p.1) = false := decide_eq_false (fun e => h e.symm)
        rw [this]
    · have hkd : (!decide (k = p.1)) = true := by simp [hk]
      rw [List.filter_cons, if_pos hkd, List.find?_cons, List.find?_cons]
      by_cases h : k' = p.1
      · have hd : decide (k' = p.1) = true := decide_eq_true h
        have hkk : ¬ k = k' := by rw [h]; exact hk
        rw [hd, if_neg hkk]
      · have hd : decide (k' = p.1) = false := decide_eq_false h
        rw [hd]
        exact ih
theorem hlook_ins {H : List (Int × List UInt8)} {k : Int} (h : hlook H k = none) (x : List UInt8) (k' : Int) : hlook (hins H k x) k' = if k = k' then some x else hlook H k' := by
  induction H with
  | nil =>
    by_cases hk : k = k'
    · subst hk; simp [hlook, hins]
    · have : decide (k' = k) = false := decide_eq_false (fun e => hk e.symm)
      simp [hlook, hins, this, hk]
  | cons p l ih =>
    have hp : ¬ k = p.1 := by
      intro e
      unfold hlook at h
      rw [List.find?_cons, decide_eq_true e] at h
      cases h
    have hl : hlook l k = none := by
      unfold hlook at h ⊢
      rwa [List.find?_cons, decide_eq_false hp] at h
    simp only [hins]
    by_cases hlt : p.1 < k
    · rw [if_pos hlt]
      by_cases hp' : k' = p.1
      · have hd : decide (k' = p.1) = true := decide_eq_true hp'
        have hkk : ¬ k = k' := by rw [hp']; exact hp
        unfold hlook
        rw [List.find?_cons, hd, if_neg hkk, List.find?_cons, hd]
      · have hd : decide (k' = p.1) = false := decide_eq_false hp'
        have := ih hl
        unfold hlook at this ⊢
        rw [List.find?_cons, hd, List.find?_cons, hd]
        exact this
    · rw [if_neg hlt]
      by_cases hk : k = k'
      · subst hk; simp [hlook]
      · have hd : decide (k' = k) = false := decide_eq_false (fun e => hk e.symm)
        rw [if_neg hk]
        unfold hlook
        rw [List.find?_cons, hd]

/-- What a puller is at. -/
structure Pu where
  ent : Nat
  ret : Nat
  q : List (List UInt8)
  ah : List (Int × List UInt8)
/-- Messages enter: as long as there is room, the one whose turn it is. -/
def enterF : Nat → Pu → Pu
  | 0, s => s
  | n + 1, s => match hlook s.ah s.ent with
    | none => s
    | some x => enterF n ⟨s.ent + 1, s.ret, s.q ++ [x], hdel s.ah s.ent⟩
def enterS (room : Nat) (s : Pu) : Pu := enterF (room - s.q.length) s

def nearN (base seq m : Int) : Int := (seq - base % m) % m
def nearV (base span seq m : Int) : Int × Bool :=
  if base < 0 ∨ 1152921504606846976 < base ∨ span < 0 ∨ 65536 < span ∨ m < 1 ∨ 65536 < m ∨ seq < 0 ∨ m ≤ seq ∨ span ≤ nearN base seq m then (0, false) else (base + nearN base seq m, true)
theorem nearN_mod (base a m : Int) : nearN base (a % m) m = (a - base) % m := by unfold nearN; rw [← Int.sub_emod]
theorem near_new {base at_ w l m : Int} (hb : 0 ≤ base) (hb2 : base ≤ 1152921504606846976) (ha : base ≤ at_) (ha2 : at_ < base + w) (hw : 1 ≤ w) (hl : w ≤ l) (hm : 2 * (w + l) < m) (hm2 : m ≤ 65536) : nearV base w (at_ % m) m = (at_, true) := by
  have h0 : nearN base (at_ % m) m = at_ - base := by rw [nearN_mod]; exact Int.emod_eq_of_lt (by omega) (by omega)
  have h1 : 0 ≤ at_ % m := Int.emod_nonneg _ (by omega)
  have h2 : at_ % m < m := Int.emod_lt_of_pos _ (by omega)
  unfold nearV
  rw [h0, if_neg (by omega)]
  rw [show base + (at_ - base) = at_ from by omega]
theorem near_old {base at_ w l m : Int} (ha : at_ < base) (ha2 : base - l ≤ at_) (hw : 1 ≤ w) (hl : w ≤ l) (hm : 2 * (w + l) < m) : nearV base w (at_ % m) m = (0, false) := by
  have h0 : nearN base (at_ % m) m = at_ - base + m := by
    rw [nearN_mod, ← Int.add_emod_right]
    exact Int.emod_eq_of_lt (by omega) (by omega)
  unfold nearV
  rw [h0, if_pos (by omega)]

/-- A packet is taken. -/
def takeS (w m : Int) (room : Nat) (s : Pu) (seq : Int) (data : List UInt8) : Pu :=
  enterS room (if (nearV s.ent w seq m).2 = true ∧ hlook s.ah (nearV s.ent w seq m).1 = none ∧ data.length ≤ 64 then ⟨s.ent, s.ret, s.q, hins s.ah (nearV s.ent w seq m).1 data⟩ else s)
/-- The first message is handed out. -/
def recvS (room : Nat) (s : Pu) : Option (List UInt8 × Pu) :=
  match s.q with
  | [] => none
  | x :: q => some (x, enterS room ⟨s.ent, s.ret + 1, q, s.ah⟩)

/-- What there is came of these messages; so much was handed out. -/
structure Came (l : List (List UInt8)) (room : Nat) (out : List (List UInt8)) (s : Pu) : Prop where
  row : out ++ s.q = l.take s.ent
  le : s.ent ≤ l.length
  cap : s.q.length ≤ room
  ah : ∀ k x, hlook s.ah k = some x → (s.ent : Int) ≤ k ∧ ∃ n : Nat, k = n ∧ l[n]? = some x
theorem Came.enterF {l : List (List UInt8)} {room : Nat} {out : List (List UInt8)} : ∀ (n : Nat) {s : Pu}, Came l room out s → s.q.length + n ≤ room → Came l room out (enterF n s) ∧ s.ent ≤ (Proofs.Ytimlbebockfioaa.enterF n s).ent
  | 0, s, h, _ => ⟨h, Nat.le_refl _⟩
  | n + 1, s, h, hn => by
    unfold Proofs.Ytimlbebockfioaa.enterF
    cases hx : hlook s.ah s.ent with
    | none => exact ⟨h, Nat.le_refl _⟩
    | some x =>
      obtain ⟨_, m, hm, hl⟩ := h.ah _ _ hx
      obtain rfl : m = s.ent := by omega
      have := Came.enterF (l := l) (room := room) (out := out) n (s := ⟨s.ent + 1, s.ret, s.q ++ [x], hdel s.ah s.ent⟩) ⟨by
          show out ++ (s.q ++ [x]) = l.take (s.ent + 1)
          rw [← List.append_assoc, h.row, take_succ_of hl], by have := lt_of_get hl; show s.ent + 1 ≤ _; omega, by simp; omega, fun k y hk => by
          have hk : hlook (hdel s.ah s.ent) k = some y := hk
          rw [hlook_del] at hk
          by_cases he : (s.ent : Int) = k
          · rw [if_pos he] at hk; cases hk
          · rw [if_neg he] at hk
            obtain ⟨h1, h2⟩ := h.ah k y hk
            exact ⟨by show ((s.ent + 1 : Nat) : Int) ≤ k; omega, h2⟩⟩ (by simp; omega)
      exact ⟨this.1, Nat.le_trans (Nat.le_succ _) this.2⟩
theorem Came.enterS {l : List (List UInt8)} {room : Nat} {out : List (List UInt8)} {s : Pu} (h : Came l room out s) : Came l room out (enterS room s) ∧ s.ent ≤ (Proofs.Ytimlbebockfioaa.enterS room s).ent :=
  h.enterF _ (by have := h.cap; omega)
theorem Came.take {l : List (List UInt8)} {room : Nat} {out : List (List UInt8)} {s : Pu} {w lf m : Int} {n : Nat} {x : List UInt8} (h : Came l room out s) (hs : l.length ≤ 1000) (hl : l[n]? = some x) (hn : (n : Int) < s.ent + w) (hn2 : (s.ent : Int) - lf ≤ n) (hw : 1 ≤ w) (hl2 : w ≤ lf) (hm : 2 * (w + lf) < m) (hm2 : m ≤ 65536) :
    Came l room out (takeS w m room s ((n : Int) % m) x) ∧ s.ent ≤ (takeS w m room s ((n : Int) % m) x).ent := by
  have hle := h.le
  unfold takeS
  by_cases hnew : s.ent ≤ n
  · rw [near_new (l := lf) (by omega) (by omega) (by omega) hn hw hl2 hm hm2]
    by_cases hc : True ∧ hlook s.ah (n : Int) = none ∧ x.length ≤ 64
    · rw [if_pos (by simpa using hc)]
      have : Came l room out ⟨s.ent, s.ret, s.q, hins s.ah (n : Int) x⟩ := ⟨h.row, h.le, h.cap, fun k y hk => by
        have hk : hlook (hins s.ah (n : Int) x) k = some y := hk
        rw [hlook_ins hc.2.1] at hk
        by_cases he : (n : Int) = k
        · rw [if_pos he] at hk
          injection hk with hk
          subst hk
          exact ⟨by show (s.ent : Int) ≤ k; omega, n, he.symm, hl⟩
        · rw [if_neg he] at hk
          exact h.ah k y hk⟩
      exact this.enterS
    · rw [if_neg (by simpa using hc)]
      exact h.enterS
  · rw [near_old (l := lf) (by omega) hn2 hw hl2 hm, if_neg (by simp)]
    exact h.enterS
theorem Came.recv {l : List (List UInt8)} {room : Nat} {out : List (List UInt8)} {s s' : Pu} {x : List UInt8} (h : Came l room out s) (hr : recvS room s = some (x, s')) : Came l room (out ++ [x]) s' ∧ s.ent ≤ s'.ent := by
  obtain ⟨ent, ret, q, ah⟩ := s
  cases q with
  | nil => cases hr
  | cons y q =>
    simp only [recvS, Option.some.injEq, Prod.mk.injEq] at hr
    obtain ⟨rfl, rfl⟩ := hr
    have hrow := h.row
    have hcap := h.cap
    simp only at hrow hcap
    have : Came l room (out ++ [y]) ⟨ent, ret + 1, q, ah⟩ := ⟨by simpa using hrow, h.le, by simp at hcap; show q.length ≤ room; omega, h.ah⟩
    exact this.enterS
theorem came_nil (l : List (List UInt8)) (room : Nat) : Came l room [] ⟨0, 0, [], []⟩ := ⟨by simp, by simp, by simp, fun k x h => by simp [hlook] at h⟩
end Go.Proofs.Ytimlbebockfioaa
